import Derived.Test.YtnhgakmnkpjpdaaQ1
import Derived.Test.YtnhgakmnkpjpdaaH0
import Derived.Test.YtnhgakmnkpjpdaaH2
/- Numbers of the package tally: what the printed functions compute, plain. -/
set_option linter.unusedVariables false
set_option linter.unusedSimpArgs false
namespace Go.Proofs.Ytnhgakmnkpjpdaa.Pure
open Go Go.RowKit Go.Proofs.Ytnhgakmnkpjpdaa.Q Go.Proofs.YtnhgakmnkpjpdaaW.PrintWords Go.Proofs.YtnhgakmnkpjpdaaW.PrintLast Go.Proofs.YtnhgakmnkpjpdaaW.PrintMore
theorem rev_l0 (d : Nat) : ∀ (k : Nat) (xs : List Int) (i j : Nat), i ≤ j → j < xs.length → xs.length < 9223372036854775807 → j - i ≤ d → d < k →
    ∃ ys, slices_Reverse_byte_byte.l0 k xs (i : Int) (j : Int) = some ys ∧ ∀ t : Nat, ys[t]? = if i ≤ t ∧ t ≤ j then xs[i + j - t]? else xs[t]? := by
  induction d with
  | zero =>
    intro k xs i j hij hj hl hd hk
    obtain ⟨k, rfl⟩ : ∃ m, k = m + 1 := ⟨k - 1, by omega⟩
    refine ⟨xs, by rw [slices_Reverse_byte_byte.l0, if_neg (by omega)], fun t => ?_⟩
    by_cases h : i ≤ t ∧ t ≤ j
    · rw [if_pos h, show i + j - t = t by omega]
    · rw [if_neg h]
  | succ d ih =>
    intro k xs i j hij hj hl hd hk
    obtain ⟨k, rfl⟩ : ∃ m, k = m + 1 := ⟨k - 1, by omega⟩
    by_cases hlt : i < j
    · have e1 : wrap64 ((i : Int) + 1) = ((i + 1 : Nat) : Int) := by unfold wrap64; omega
      have e2 : wrap64 ((j : Int) - 1) = ((j - 1 : Nat) : Int) := by unfold wrap64; omega
      have r1 : rd xs (j : Int) = xs[j]'(by omega) := by unfold rd; rw [Int.toNat_natCast, List.getD_eq_getElem?_getD, List.getElem?_eq_getElem (by omega)]; rfl
      have r2 : rd xs (i : Int) = xs[i]'(by omega) := by unfold rd; rw [Int.toNat_natCast, List.getD_eq_getElem?_getD, List.getElem?_eq_getElem (by omega)]; rfl
      rw [slices_Reverse_byte_byte.l0, if_pos (by omega), if_pos (by omega), if_pos (by omega), if_pos (by omega), if_pos (by omega), e1, e2, r1, r2, Int.toNat_natCast, Int.toNat_natCast]
      obtain ⟨zs, hz⟩ : ∃ zs, zs = (xs.set i (xs[j]'(by omega))).set j (xs[i]'(by omega)) := ⟨_, rfl⟩
      rw [← hz]
      have hzl : zs.length = xs.length := by rw [hz]; simp
      have hzt : ∀ t : Nat, zs[t]? = if t = i then xs[j]? else if t = j then xs[i]? else xs[t]? := by
        intro t
        have hjl : ∃ v, xs[j]? = some v ∧ v = xs[j]'(by omega) := ⟨_, List.getElem?_eq_getElem (by omega), rfl⟩
        have hil : ∃ v, xs[i]? = some v ∧ v = xs[i]'(by omega) := ⟨_, List.getElem?_eq_getElem (by omega), rfl⟩
        obtain ⟨vj, hj1, hj2⟩ := hjl
        obtain ⟨vi, hi1, hi2⟩ := hil
        rw [hz, List.getElem?_set, List.getElem?_set, List.length_set, ← hj2, ← hi2, hj1, hi1]
        by_cases h1 : t = i
        · have n1 : ¬ j = t := by omega
          have n2 : i = t := h1.symm
          have n3 : i < xs.length := by omega
          rw [if_neg n1, if_pos n2, if_pos n3, if_pos h1]
        · rw [if_neg h1]
          by_cases h2 : t = j
          · have n2 : j = t := h2.symm
            rw [if_pos n2, if_pos hj, if_pos h2]
          · have n1 : ¬ j = t := fun h => h2 h.symm
            have n2 : ¬ i = t := fun h => h1 h.symm
            rw [if_neg n1, if_neg h2, if_neg n2]
      by_cases hle : i + 1 ≤ j - 1
      · obtain ⟨ys, h1, h2⟩ := ih k zs (i + 1) (j - 1) hle (by omega) (by omega) (by omega) (by omega)
        refine ⟨ys, h1, fun t => ?_⟩
        rw [h2 t]
        by_cases h : i ≤ t ∧ t ≤ j
        · rw [if_pos h]
          by_cases h3 : t = i
          · subst h3; rw [if_neg (by omega), hzt, if_pos rfl, show t + j - t = j by omega]
          · by_cases h4 : t = j
            · subst h4; rw [if_neg (by omega), hzt, if_neg h3, if_pos rfl, show i + t - t = i by omega]
            · rw [if_pos (by omega), hzt, if_neg (by omega), if_neg (by omega), show i + 1 + (j - 1) - t = i + j - t by omega]
        · rw [if_neg h, if_neg (by omega), hzt, if_neg (by omega), if_neg (by omega)]
      · obtain ⟨k, rfl⟩ : ∃ m, k = m + 1 := ⟨k - 1, by omega⟩
        refine ⟨zs, by rw [slices_Reverse_byte_byte.l0, if_neg (by omega)], fun t => ?_⟩
        rw [hzt]
        by_cases h : i ≤ t ∧ t ≤ j
        · rw [if_pos h]
          by_cases h3 : t = i
          · subst h3; rw [if_pos rfl, show t + j - t = j by omega]
          · have h4 : t = j := by omega
            subst h4; rw [if_neg h3, if_pos rfl, show i + t - t = i by omega]
        · rw [if_neg h, if_neg (by omega), if_neg (by omega)]
    · refine ⟨xs, by rw [slices_Reverse_byte_byte.l0, if_neg (by omega)], fun t => ?_⟩
      by_cases h : i ≤ t ∧ t ≤ j
      · rw [if_pos h, show i + j - t = t by omega]
      · rw [if_neg h]
theorem rev_f (k : Nat) (xs : List Int) (h0 : 0 < xs.length) (hl : xs.length < 9223372036854775807) (hk : xs.length ≤ k) : slices_Reverse_byte_byte.f k xs = some xs.reverse := by
  unfold slices_Reverse_byte_byte.f
  have e : wrap64 ((xs.length : Int) - 1) = ((xs.length - 1 : Nat) : Int) := by unfold wrap64; omega
  obtain ⟨ys, h1, h2⟩ := rev_l0 (xs.length - 1) k xs 0 (xs.length - 1) (by omega) (by omega) hl (by omega) (by omega)
  rw [e]
  refine h1.trans ?_
  congr 1
  apply List.ext_getElem?
  intro t
  rw [h2 t]
  by_cases h : t < xs.length
  · rw [if_pos (by omega), List.getElem?_reverse h]
    congr 1
    omega
  · rw [if_neg (by omega), List.getElem?_eq_none (by omega), List.getElem?_eq_none (by rw [List.length_reverse]; omega)]
def ints (l : List UInt8) : List Int := l.map fun b => (b.toNat : Int)
theorem strOfNums_ints (l : List UInt8) : strOfNums (ints l) = B l := by
  unfold strOfNums ints B
  rw [List.map_map]
  congr 2
  refine (List.map_congr_left (g := id) fun b _ => ?_).trans (List.map_id _)
  simp
theorem or128 (x : Nat) (h : x < 128) : Go.bits .or .u8 128 (x : Int) = ((128 + x : Nat) : Int) := by
  have := u8_or_nat 128 x (by decide) (by omega)
  rw [show ((128 : Nat) : Int) = (128 : Int) from rfl] at this
  rw [this]
  congr 1
  have h2 := nat_join 7 128 x (by decide) (by omega)
  exact h2
theorem num_l0 (a : Nat) : ∀ (k : Nat) (xs : List Int), a < 18446744073709551616 → 0 < xs.length → xs.length + a < 140737488355328 ∨ xs.length + (hA a).length < 140 → xs.length + 2 * (hA a).length < k →
    tally_Num.l0 k (a : Int) xs = some (strOfNums (xs ++ (ints (hA a)).reverse).reverse) := by
  induction a using Nat.strongRecOn with
  | ind a ih =>
    intro k xs ha h0 hb hk
    obtain ⟨k, rfl⟩ : ∃ m, k = m + 1 := ⟨k - 1, by omega⟩
    by_cases h : a = 0
    · subst h
      rw [hA_zero] at hk
      rw [tally_Num.l0, if_neg (by decide), rev_f k xs h0 (by omega) (by simp at hk; omega), hA_zero]
      simp [ints]
    · have hp := hA_pos h
      have hlt : (a - 1) / 128 < a := Nat.lt_of_le_of_lt (Nat.div_le_self _ _) (by omega)
      have hlen : (hA a).length = (hA ((a - 1) / 128)).length + 1 := by rw [hp]; simp
      have e1 : IntKind.u64.wrap ((a : Int) - 1) = ((a - 1 : Nat) : Int) := by rw [u64w _ (by omega) (by omega)]; omega
      have e2 : (((a - 1 : Nat) : Int)) / 128 = (((a - 1) / 128 : Nat) : Int) := by omega
      have e3 : (Int.tmod ((a - 1 : Nat) : Int) 128) % 256 = (((a - 1) % 128 : Nat) : Int) := by rw [Int.tmod_eq_emod_of_nonneg (by omega)]; omega
      rw [tally_Num.l0, if_pos (by omega), if_pos (by omega), e1, e2, e3, or128 _ (by omega), ih _ hlt k _ (by omega) (by simp) (by rw [List.length_append, List.length_singleton]; omega) (by rw [List.length_append, List.length_singleton]; omega)]
      congr 3
      rw [hp]
      have h256 : (UInt8.ofNat (128 + (a - 1) % 128)).toNat = 128 + (a - 1) % 128 := by rw [UInt8.toNat_ofNat']; omega
      simp only [ints, List.map_append, List.map_cons, List.map_nil, h256, List.reverse_append, List.reverse_cons, List.reverse_nil, List.nil_append, List.append_assoc, List.singleton_append, List.cons_append]
theorem hA_length_le (a : Nat) (h : a < 144115188075855873) : (hA a).length ≤ 9 := by
  have h2 := vA_hA a
  refine Nat.le_of_not_lt fun hl => ?_
  cases hh : hA a with
  | nil => rw [hh] at hl; simp at hl
  | cons c r =>
    rw [hh, vA] at h2
    have h3 := vA_pow r (128 * 0 + c.toNat % 128 + 1)
    rw [h2] at h3
    rw [hh, List.length_cons] at hl
    have h4 : 128 ^ 9 ≤ 128 ^ r.length := Nat.pow_le_pow_right (by decide) (by omega)
    have h5 : 1 * 128 ^ r.length ≤ (128 * 0 + c.toNat % 128 + 1) * 128 ^ r.length := Nat.mul_le_mul_right _ (by omega)
    have h6 : (128 : Nat) ^ 9 = 9223372036854775808 := by decide
    omega
theorem Num_f (k : Nat) (n : Nat) (hn : n < 18446744073709551616) (hk : 24 ≤ k) : tally_Num.f k (n : Int) = some (B (tnum n)) := by
  unfold tally_Num.f
  have hl := hA_length_le (n / 128) (by omega)
  rw [show (n : Int) / 128 = ((n / 128 : Nat) : Int) by omega, num_l0 (n / 128) k _ (by omega) (by simp) (by simp; omega) (by simp; omega)]
  congr 1
  rw [← strOfNums_ints]
  congr 1
  unfold tnum
  have e : (Int.tmod (n : Int) 128) % 256 = ((n % 128 : Nat) : Int) := by rw [Int.tmod_eq_emod_of_nonneg (by omega)]; omega
  have h256 : (UInt8.ofNat (n % 128)).toNat = n % 128 := by rw [UInt8.toNat_ofNat']; omega
  rw [e]
  simp [ints, h256]
end Go.Proofs.Ytnhgakmnkpjpdaa.Pure

/- Numbers, integers, texts, rows of the package tally and of the document: what the printed functions answer, plain. -/
set_option linter.unusedVariables false
set_option linter.unusedSimpArgs false
namespace Go.Proofs.Ytnhgakmnkpjpdaa.Pure
open Go Go.RowKit Go.Proofs.Ytnhgakmnkpjpdaa.Q Go.Proofs.YtnhgakmnkpjpdaaW.PrintWords Go.Proofs.YtnhgakmnkpjpdaaW.PrintLast Go.Proofs.YtnhgakmnkpjpdaaW.PrintMore
/-! Integers -/
/-- A number's integer. -/
def okN (L : List UInt8) : Prop := (L.length : Int) < 9223372036854775807
theorem TakeNum_some {L : List UInt8} (hL : okN L) {n : Nat} {r : List UInt8} (h : takeN L = some (n, r)) : tally_TakeNum.f (B L) = some ((n : Int), B r, true) := by
  unfold tally_TakeNum.f
  rw [B_size, if_pos (show (L.length : Int) < 9223372036854775807 from hL), B_data, h]
theorem TakeNum_none {L : List UInt8} (hL : okN L) (h : takeN L = none) : tally_TakeNum.f (B L) = some (0, B [], false) := by
  unfold tally_TakeNum.f
  rw [B_size, if_pos (show (L.length : Int) < 9223372036854775807 from hL), B_data, h]
  rfl
theorem takeN_len {L : List UInt8} {n : Nat} {r : List UInt8} (h : takeN L = some (n, r)) : r.length < L.length := by
  have := (takeN_once h).2
  have h2 := tnum_length_pos n
  rw [this, List.length_append]
  omega
/-- A text, and what is left. -/
def takeT (L : List UInt8) : Option (List UInt8 × List UInt8) :=
  match takeN L with
  | some (n, r) => if n ≤ r.length then some (r.take n, r.drop n) else none
  | none => none
theorem takeT_eq {L : List UInt8} {n : Nat} {r : List UInt8} (h : takeN L = some (n, r)) : takeT L = if n ≤ r.length then some (r.take n, r.drop n) else none := by unfold takeT; rw [h]
theorem takeT_none {L : List UInt8} (h : takeN L = none) : takeT L = none := by unfold takeT; rw [h]
theorem takeT_len {L s r : List UInt8} (h : takeT L = some (s, r)) : r.length < L.length := by
  cases hn : takeN L with
  | none => rw [takeT_none hn] at h; cases h
  | some x =>
    obtain ⟨n, l⟩ := x
    rw [takeT_eq hn] at h
    have := takeN_len hn
    by_cases hl : n ≤ l.length
    · rw [if_pos hl] at h
      obtain ⟨rfl, rfl⟩ := Prod.mk.inj (Option.some.inj h)
      rw [List.length_drop]
      omega
    · rw [if_neg hl] at h; cases h
theorem TakeText_eq {L : List UInt8} (hL : okN L) : tally_TakeText.f (B L) = some (match takeT L with | some (s, r) => (B s, B r, true) | none => (B [], B [], false)) := by
  unfold tally_TakeText.f
  cases hn : takeN L with
  | none =>
    rw [TakeNum_none hL hn, takeT_none hn]
    rfl
  | some x =>
    obtain ⟨n, l⟩ := x
    have h1 := (takeN_once hn).1
    have h2 := takeN_len hn
    unfold okN at hL
    rw [TakeNum_some hL hn, takeT_eq hn]
    simp only [Option.bind_some]
    rw [if_true, B_size, u64w _ (by omega) (by omega)]
    by_cases hl : n ≤ l.length
    · rw [if_neg (by omega), if_pos hl, if_pos (by omega), if_pos (by omega)]
      simp only [Int.toNat_natCast]
      rw [B_extract, B_extract, Nat.sub_zero, List.drop_zero, List.take_of_length_le (l := l.drop n) (by rw [List.length_drop]; exact Nat.le_refl _)]
    · rw [if_pos (by omega), if_neg hl]
      rfl
/-- A row, and what is left. -/
theorem tnum_length_le' (n : Nat) (hn : n < 18446744073709551616) : (tnum n).length ≤ 10 := by
  have := hA_length_le (n / 128) (by omega)
  unfold tnum
  rw [List.length_append, List.length_singleton]
  omega
theorem Text_f (k : Nat) (S : List UInt8) (hS : S.length < 9223372036854775000) (hk : 24 ≤ k) : tally_Text.f k (B S) = some (B (tnum S.length ++ S)) := by
  unfold tally_Text.f
  rw [B_size, u64w _ (by omega) (by omega), Num_f k _ (by omega) hk]
  have := tnum_length_le' S.length (by omega)
  simp only [Option.bind_some]
  rw [B_size, if_pos (by omega), B_append]
end Go.Proofs.Ytnhgakmnkpjpdaa.Pure

/- The head of the statements on tally; what is put is taken; what is taken, put again, plain. -/
set_option linter.unusedVariables false
set_option linter.unusedSimpArgs false
namespace Go.Proofs.Ytnhgakmnkpjpdaa.Pure
open Go Go.RowKit Go.Proofs.Ytnhgakmnkpjpdaa.Q Go.Proofs.YtnhgakmnkpjpdaaW.PrintWords Go.Proofs.YtnhgakmnkpjpdaaW.PrintLast Go.Proofs.YtnhgakmnkpjpdaaW.PrintMore
theorem takeT_back (s r : List UInt8) (hs : s.length < 18446744073709551616) : takeT ((tnum s.length ++ s) ++ r) = some (s, r) := by
  rw [List.append_assoc, takeT_eq (takeN_tnum _ hs (s ++ r)), if_pos (by rw [List.length_append]; omega), List.take_left, List.drop_left]
end Go.Proofs.Ytnhgakmnkpjpdaa.Pure

/- The document's functions on tally: what they answer, plain. -/
set_option linter.unusedVariables false
set_option linter.unusedSimpArgs false
namespace Go.Proofs.Ytnhgakmnkpjpdaa.Pure
open Go Go.RowKit Go.Proofs.Ytnhgakmnkpjpdaa.Q Go.Proofs.YtnhgakmnkpjpdaaW.PrintWords Go.Proofs.YtnhgakmnkpjpdaaW.PrintLast Go.Proofs.YtnhgakmnkpjpdaaW.PrintMore
end Go.Proofs.Ytnhgakmnkpjpdaa.Pure
