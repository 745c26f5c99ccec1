/- Numbers, integers, texts, rows of the package tally and of the document: what the printed functions answer, plain. -/
import Derived.Test.YtfjjngipjabfpaaH4
import Derived.Test.YtfjjngipjabfpaaH3
set_option linter.unusedVariables false
set_option linter.unusedSimpArgs false
namespace Go.Proofs.Ytfjjngipjabfpaa.Pure
open Go Go.RowKit Go.Proofs.Ytfjjngipjabfpaa.Q Go.Proofs.YtfjjngipjabfpaaW.PrintWords Go.Proofs.YtfjjngipjabfpaaW.PrintLast Go.Proofs.YtfjjngipjabfpaaW.PrintMore
/-! Integers -/
/-- An integer's number. -/
def zz (z : Int) : Nat := if 0 ≤ z then (2 * z).toNat else (2 * (-(z + 1)) + 1).toNat
/-- A number's integer. -/
def uz (n : Nat) : Int := if n % 2 = 0 then ((n / 2 : Nat) : Int) else -((n / 2 : Nat) : Int) - 1
theorem zz_lt (z : Int) (h0 : -9223372036854775808 ≤ z) (h1 : z < 9223372036854775808) : zz z < 18446744073709551616 := by unfold zz; split <;> omega
theorem uz_zz (z : Int) : uz (zz z) = z := by
  unfold uz zz
  by_cases h : 0 ≤ z
  · rw [if_pos h, if_pos (by omega)]; omega
  · rw [if_neg h, if_neg (by omega)]; omega
theorem zz_uz (n : Nat) : zz (uz n) = n := by
  unfold uz zz
  by_cases h : n % 2 = 0
  · rw [if_pos h, if_pos (by omega)]; omega
  · rw [if_neg h, if_neg (by omega)]; omega
theorem uz_range (n : Nat) (h : n < 18446744073709551616) : -9223372036854775808 ≤ uz n ∧ uz n < 9223372036854775808 := by unfold uz; split <;> omega
theorem xor_ones (x : Nat) (h : x < 18446744073709551616) : x ^^^ 18446744073709551615 = 18446744073709551615 - x := by
  have h1 : (BitVec.ofNat 64 x ^^^ BitVec.allOnes 64).toNat = (~~~ (BitVec.ofNat 64 x)).toNat := by rw [BitVec.xor_allOnes]
  rw [BitVec.toNat_xor, BitVec.toNat_not, BitVec.toNat_ofNat, BitVec.toNat_allOnes, Nat.mod_eq_of_lt (by omega)] at h1
  exact h1
theorem int_code (z : Int) (h0 : -9223372036854775808 ≤ z) (h1 : z < 9223372036854775808) :
    Go.bits .xor .u64 (IntKind.u64.wrap ((IntKind.u64.wrap z) * 2)) (IntKind.u64.wrap (z / 9223372036854775808)) = ((zz z : Nat) : Int) := by
  unfold zz
  by_cases h : 0 ≤ z
  · have e1 : IntKind.u64.wrap ((IntKind.u64.wrap z) * 2) = (((2 * z).toNat : Nat) : Int) := by rw [u64w z h (by omega), u64w _ (by omega) (by omega)]; omega
    have e2 : IntKind.u64.wrap (z / 9223372036854775808) = ((0 : Nat) : Int) := by rw [show z / 9223372036854775808 = 0 by omega, u64w _ (by omega) (by omega)]; rfl
    rw [if_pos h, e1, e2, u64_xor_nat _ _ (by omega) (by omega), Nat.xor_zero]
  · have e1 : IntKind.u64.wrap ((IntKind.u64.wrap z) * 2) = (((2 * z + 18446744073709551616).toNat : Nat) : Int) := by
      rw [IntKind.wrap_u64, IntKind.wrap_u64]; omega
    have e2 : IntKind.u64.wrap (z / 9223372036854775808) = ((18446744073709551615 : Nat) : Int) := by rw [show z / 9223372036854775808 = -1 by omega, IntKind.wrap_u64]; rfl
    rw [if_neg h, e1, e2, u64_xor_nat _ _ (by omega) (by omega), xor_ones _ (by omega)]
    omega
theorem Int_f (k : Nat) (z : Int) (h0 : -9223372036854775808 ≤ z) (h1 : z < 9223372036854775808) (hk : 24 ≤ k) : tally_Int.f k z = some (B (tnum (zz z))) := by
  unfold tally_Int.f
  rw [int_code z h0 h1, Num_f k _ (zz_lt z h0 h1) hk]
  rfl
theorem i64_xor_neg1 (x : Nat) (h : x < 9223372036854775808) : Go.bits .xor .i64 (x : Int) (-1) = -(x : Int) - 1 := by
  have h1 : BitVec.ofInt 64 (-1) = BitVec.allOnes 64 := by decide
  have h2 : (BitVec.ofInt 64 (x : Int)).toNat = x := by rw [BitVec.ofInt_natCast, BitVec.toNat_ofNat]; exact Nat.mod_eq_of_lt (by omega)
  show IntKind.i64.wrap ((BitVec.ofInt 64 (x : Int) ^^^ BitVec.ofInt 64 (-1)).toNat : Int) = _
  rw [h1, BitVec.toNat_xor, h2, BitVec.toNat_allOnes, show 2 ^ 64 - 1 = 18446744073709551615 by decide, xor_ones x (by omega)]
  simp only [IntKind.wrap, IntKind.bits, IntKind.signed]
  simp
  omega
theorem i64_xor_0 (x : Nat) (h : x < 9223372036854775808) : Go.bits .xor .i64 (x : Int) 0 = (x : Int) := by
  have h1 : BitVec.ofInt 64 0 = BitVec.ofNat 64 0 := by decide
  have h2 : (BitVec.ofInt 64 (x : Int)).toNat = x := by rw [BitVec.ofInt_natCast, BitVec.toNat_ofNat]; exact Nat.mod_eq_of_lt (by omega)
  show IntKind.i64.wrap ((BitVec.ofInt 64 (x : Int) ^^^ BitVec.ofInt 64 0).toNat : Int) = _
  rw [h1, BitVec.toNat_xor, h2, show (BitVec.ofNat 64 0).toNat = 0 by decide, Nat.xor_zero]
  simp only [IntKind.wrap, IntKind.bits, IntKind.signed]
  simp
  omega
theorem take_code (n : Nat) (h : n < 18446744073709551616) : Go.bits .xor .i64 (wrap64 ((n : Int) / 2)) (wrap64 (-(wrap64 (Go.bits .and .u64 (n : Int) 1)))) = uz n := by
  have e0 : Go.bits .and .u64 (n : Int) 1 = ((n % 2 : Nat) : Int) := by
    have := u64_and_nat n 1 h (by decide)
    rw [show ((1 : Nat) : Int) = (1 : Int) from rfl] at this
    rw [this, Nat.and_one_is_mod]
  have e1 : wrap64 ((n : Int) / 2) = ((n / 2 : Nat) : Int) := by rw [wrap64_in' _ (by omega) (by omega)]; omega
  unfold uz
  rw [e0, e1, wrap64_in' ((n % 2 : Nat) : Int) (by omega) (by omega), wrap64_in' _ (by omega) (by omega)]
  by_cases h2 : n % 2 = 0
  · rw [if_pos h2, h2]
    exact i64_xor_0 _ (by omega)
  · rw [if_neg h2, show n % 2 = 1 by omega]
    exact i64_xor_neg1 _ (by omega)
/-! What is taken. -/
def okN (L : List UInt8) : Prop := (L.length : Int) < 9223372036854775807
theorem TakeNum_some {L : List UInt8} (hL : okN L) {n : Nat} {r : List UInt8} (h : takeN L = some (n, r)) : tally_TakeNum.f (B L) = some ((n : Int), B r, true) := by
  unfold tally_TakeNum.f
  rw [B_size, if_pos (show (L.length : Int) < 9223372036854775807 from hL), B_data, h]
theorem TakeNum_none {L : List UInt8} (hL : okN L) (h : takeN L = none) : tally_TakeNum.f (B L) = some (0, B [], false) := by
  unfold tally_TakeNum.f
  rw [B_size, if_pos (show (L.length : Int) < 9223372036854775807 from hL), B_data, h]
  rfl
theorem takeN_len {L : List UInt8} {n : Nat} {r : List UInt8} (h : takeN L = some (n, r)) : r.length < L.length := by
  have := (takeN_once h).2
  have h2 := tnum_length_pos n
  rw [this, List.length_append]
  omega
/-- A text, and what is left. -/
def takeT (L : List UInt8) : Option (List UInt8 × List UInt8) :=
  match takeN L with
  | some (n, r) => if n ≤ r.length then some (r.take n, r.drop n) else none
  | none => none
theorem takeT_eq {L : List UInt8} {n : Nat} {r : List UInt8} (h : takeN L = some (n, r)) : takeT L = if n ≤ r.length then some (r.take n, r.drop n) else none := by unfold takeT; rw [h]
theorem takeT_none {L : List UInt8} (h : takeN L = none) : takeT L = none := by unfold takeT; rw [h]
theorem takeT_len {L s r : List UInt8} (h : takeT L = some (s, r)) : r.length < L.length := by
  cases hn : takeN L with
  | none => rw [takeT_none hn] at h; cases h
  | some x =>
    obtain ⟨n, l⟩ := x
    rw [takeT_eq hn] at h
    have := takeN_len hn
    by_cases hl : n ≤ l.length
    · rw [if_pos hl] at h
      obtain ⟨rfl, rfl⟩ := Prod.mk.inj (Option.some.inj h)
      rw [List.length_drop]
      omega
    · rw [if_neg hl] at h; cases h
theorem TakeText_eq {L : List UInt8} (hL : okN L) : tally_TakeText.f (B L) = some (match takeT L with | some (s, r) => (B s, B r, true) | none => (B [], B [], false)) := by
  unfold tally_TakeText.f
  cases hn : takeN L with
  | none =>
    rw [TakeNum_none hL hn, takeT_none hn]
    rfl
  | some x =>
    obtain ⟨n, l⟩ := x
    have h1 := (takeN_once hn).1
    have h2 := takeN_len hn
    unfold okN at hL
    rw [TakeNum_some hL hn, takeT_eq hn]
    simp only [Option.bind_some]
    rw [if_true, B_size, u64w _ (by omega) (by omega)]
    by_cases hl : n ≤ l.length
    · rw [if_neg (by omega), if_pos hl, if_pos (by omega), if_pos (by omega)]
      simp only [Int.toNat_natCast]
      rw [B_extract, B_extract, Nat.sub_zero, List.drop_zero, List.take_of_length_le (l := l.drop n) (by rw [List.length_drop]; exact Nat.le_refl _)]
    · rw [if_pos (by omega), if_neg hl]
      rfl
theorem TakeInt_some {L : List UInt8} (hL : okN L) {n : Nat} {r : List UInt8} (h : takeN L = some (n, r)) : tally_TakeInt.f (B L) = some (uz n, B r, true) := by
  unfold tally_TakeInt.f
  rw [TakeNum_some hL h]
  simp only [Option.bind_some]
  rw [take_code n (takeN_once h).1]
theorem TakeInt_none {L : List UInt8} (hL : okN L) (h : takeN L = none) : tally_TakeInt.f (B L) = some (0, B [], false) := by
  unfold tally_TakeInt.f
  rw [TakeNum_none hL h]
  simp only [Option.bind_some]
  have := take_code 0 (by decide)
  rw [show ((0 : Nat) : Int) = (0 : Int) from rfl] at this
  rw [this]
  rfl
/-- So many texts, one behind the other. -/
def takeM : Nat → List UInt8 → Option (List (List UInt8) × List UInt8)
  | 0, L => some ([], L)
  | n + 1, L => match takeT L with
    | some (s, r) => (match takeM n r with | some (l, t) => some (s :: l, t) | none => none)
    | none => none
theorem some_eq (n : Nat) : ∀ (L : List UInt8) (acc : List ByteArray), okN L → acc.length + L.length < 8796093022208 →
    some_f n (B L) acc = some (match takeM n L with | some (l, t) => (acc ++ l.map B, B t, true) | none => ([], B [], false)) := by
  induction n with
  | zero => intro L acc _ _; simp [some_f, takeM]
  | succ n ih =>
    intro L acc hL hl
    rw [some_f, TakeText_eq hL, takeM]
    cases ht : takeT L with
    | none => rfl
    | some x =>
      obtain ⟨s, r⟩ := x
      have h2 := takeT_len ht
      simp only [Option.bind_some]
      rw [if_true, if_pos (by omega), ih r (acc ++ [B s]) (by unfold okN at *; omega) (by rw [List.length_append, List.length_singleton]; omega)]
      cases hm : takeM n r with
      | none => rfl
      | some y =>
        obtain ⟨l, t⟩ := y
        simp
/-- A row, and what is left. -/
def takeR (L : List UInt8) : Option (List (List UInt8) × List UInt8) :=
  match takeN L with
  | some (n, r) => takeM n r
  | none => none
theorem takeR_eq {L : List UInt8} {n : Nat} {r : List UInt8} (h : takeN L = some (n, r)) : takeR L = takeM n r := by unfold takeR; rw [h]
theorem takeR_none {L : List UInt8} (h : takeN L = none) : takeR L = none := by unfold takeR; rw [h]
theorem TakeRow_eq {L : List UInt8} (hL : L.length < 8796093022208) : tally_TakeRow.f (B L) = some (match takeR L with | some (l, t) => (l.map B, B t, true) | none => ([], B [], false)) := by
  unfold tally_TakeRow.f
  have hN : okN L := by unfold okN; omega
  cases hn : takeN L with
  | none =>
    rw [TakeNum_none hN hn, takeR_none hn]
    rfl
  | some x =>
    obtain ⟨n, l⟩ := x
    have h2 := takeN_len hn
    rw [TakeNum_some hN hn, takeR_eq hn]
    simp only [Option.bind_some]
    rw [if_true, Int.toNat_natCast, some_eq n l [] (by unfold okN; omega) (by rw [List.length_nil]; omega)]
    simp
/-! What is put. -/
theorem tnum_length_le' (n : Nat) (hn : n < 18446744073709551616) : (tnum n).length ≤ 10 := by
  have := hA_length_le (n / 128) (by omega)
  unfold tnum
  rw [List.length_append, List.length_singleton]
  omega
theorem Text_f (k : Nat) (S : List UInt8) (hS : S.length < 9223372036854775000) (hk : 24 ≤ k) : tally_Text.f k (B S) = some (B (tnum S.length ++ S)) := by
  unfold tally_Text.f
  rw [B_size, u64w _ (by omega) (by omega), Num_f k _ (by omega) hk]
  have := tnum_length_le' S.length (by omega)
  simp only [Option.bind_some]
  rw [B_size, if_pos (by omega), B_append]
end Go.Proofs.Ytfjjngipjabfpaa.Pure
