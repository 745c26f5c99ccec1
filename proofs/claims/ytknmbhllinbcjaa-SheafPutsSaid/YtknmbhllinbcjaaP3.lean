/- The document's functions on tally: what they answer, plain. -/
import Derived.Test.YtknmbhllinbcjaaP2
set_option linter.unusedVariables false
set_option linter.unusedSimpArgs false
namespace Go.Proofs.Ytknmbhllinbcjaa.Pure
open Go Go.RowKit Go.Proofs.Ytknmbhllinbcjaa.Q Go.Proofs.YtknmbhllinbcjaaW.PrintWords Go.Proofs.YtknmbhllinbcjaaW.PrintLast Go.Proofs.YtknmbhllinbcjaaW.PrintMore
theorem RNum_f (n : Nat) (hn : n < 18446744073709551616) : quittanceref01_Num.f (n : Int) = some (B (tnum n)) := by
  unfold quittanceref01_Num.f
  rw [if_pos ⟨by omega, by omega⟩, Int.toNat_natCast]
/-- What is answered of bytes whose number is taken. -/
def resN (L : List UInt8) : Int × ByteArray × Bool :=
  match takeN L with
  | some (n, r) => ((n : Int), B r, true)
  | none => (0, B [], false)
theorem resN_some {L : List UInt8} {n : Nat} {r : List UInt8} (h : takeN L = some (n, r)) : resN L = ((n : Int), B r, true) := by unfold resN; rw [h]
theorem resN_none {L : List UInt8} (h : takeN L = none) : resN L = (0, B [], false) := by unfold resN; rw [h]
theorem TakeNum_res {L : List UInt8} (hL : okN L) : tally_TakeNum.f (B L) = some (resN L) := by
  cases h : takeN L with
  | none => rw [TakeNum_none hL h, resN_none h]
  | some x => obtain ⟨n, r⟩ := x; rw [TakeNum_some hL h, resN_some h]
theorem bt_get (L : List UInt8) (i : Nat) (hi : i < L.length) : bt (B L) (i : Int) = (L[i].toNat : Int) := by
  rw [bt_B, Int.toNat_natCast, List.getD_eq_getElem?_getD, List.getElem?_eq_getElem hi]
  rfl
theorem rtn (d : Nat) : ∀ (k j : Nat) (L : List UInt8) (n : Int), j + d = 10 → j ≤ L.length → L.length ≤ 3000 → (∀ c ∈ L.take j, 128 ≤ c.toNat) → 0 ≤ n → n < 18446744073709551616 →
    (j = 0 → n = 0) → (0 < j → n = (((vA 0 (L.take j) - 1) % 18446744073709551616 : Nat) : Int)) → quittanceref01_TakeNum.l0 (k + 3 * (d + 1)) (B L) n ((j : Int) + 1) = some (resN L) := by
  induction d with
  | zero =>
    intro k j L n hj hjL hL hp h0 h1 hz hn
    have hv : edge ≤ vA 0 (L.take j) := by
      have hlen : (L.take j).length = 10 := by rw [List.length_take]; omega
      cases hc : L.take j with
      | nil => rw [hc] at hlen; simp at hlen
      | cons c r =>
        rw [hc, List.length_cons] at hlen
        rw [vA]
        have h3 := vA_pow r (128 * 0 + c.toNat % 128 + 1)
        have h5 : 1 * 128 ^ r.length ≤ (128 * 0 + c.toNat % 128 + 1) * 128 ^ r.length := Nat.mul_le_mul_right _ (by omega)
        rw [show r.length = 9 by omega] at h3 h5
        have h6 : (128 : Nat) ^ 9 = 9223372036854775808 := by decide
        unfold edge
        omega
    have ht : takeN L = none := by
      have := tk_ahead (L.take j) (L.drop j) hp 0
      rw [List.take_append_drop, tk_edge _ _ hv] at this
      exact this
    have e : (j : Int) = 10 := by omega
    rw [resN_none ht, e, show k + 3 * (0 + 1) = k + 1 + 1 + 1 from rfl, quittanceref01_TakeNum.l0, B_size]
    by_cases h : (10 : Int) + 1 ≤ (L.length : Int)
    · rw [if_pos h, decide_eq_false (by decide), quittanceref01_TakeNum.j1, if_neg (by decide)]
      rfl
    · rw [if_neg h, quittanceref01_TakeNum.j1, if_neg (by decide)]
      rfl
  | succ d ih =>
    intro k j L n hj hjL hL hp h0 h1 hz hn
    rw [show k + 3 * (d + 1 + 1) = (k + 3 * (d + 1)) + 1 + 1 + 1 by omega, quittanceref01_TakeNum.l0, B_size]
    have hj1 : j + 1 + d = 10 := by omega
    by_cases hlt : j < L.length
    · rw [if_pos (by omega), decide_eq_true (by omega), quittanceref01_TakeNum.j1, if_pos (rfl : true = true)]
      have e1 : wrap64 ((j : Int) + 1 - 1) = (j : Int) := by unfold wrap64; omega
      rw [e1, if_pos (by omega), B_size, if_pos (by omega), bt_get L j hlt]
      have hc := L[j].toNat_lt
      obtain ⟨c, hce⟩ : ∃ c, c = L[j] := ⟨_, rfl⟩
      rw [← hce] at hc ⊢
      rw [u64w (c.toNat : Int) (by omega) (by omega)]
      have htk : L.take (j + 1) = L.take j ++ [c] := by rw [List.take_succ_eq_append_getElem hlt, hce]
      have hdr : L.drop j = c :: L.drop (j + 1) := by rw [List.drop_eq_getElem_cons hlt, hce]
      have htn : takeN L = tk (vA 0 (L.take j)) (c :: L.drop (j + 1)) := by
        have := tk_ahead (L.take j) (L.drop j) hp 0
        rw [List.take_append_drop, hdr] at this
        exact this
      obtain ⟨a, hA⟩ : ∃ a, a = vA 0 (L.take j) := ⟨_, rfl⟩
      rw [← hA] at htn hn
      have haj : (j = 0 → a = 0) ∧ (0 < j → 0 < a) := by
        refine ⟨fun h => ?_, fun h => ?_⟩
        · rw [hA, h]; rfl
        · rw [hA]
          cases hcc : L.take j with
          | nil => have := congrArg List.length hcc; rw [List.length_take, List.length_nil] at this; omega
          | cons c' r => rw [vA]; exact Nat.lt_of_lt_of_le (by omega) (vA_le r _)
      obtain ⟨m, hm⟩ : ∃ m : Int, m = (((128 * a) % 18446744073709551616 : Nat) : Int) := ⟨_, rfl⟩
      have key : ∀ kk : Nat, (if (j : Int) + 1 > 1 then quittanceref01_TakeNum.j2 kk (B L) (IntKind.u64.wrap (128 * (IntKind.u64.wrap (n + 1)))) ((j : Int) + 1) (c.toNat : Int) else quittanceref01_TakeNum.j2 kk (B L) n ((j : Int) + 1) (c.toNat : Int)) =
          quittanceref01_TakeNum.j2 kk (B L) m ((j : Int) + 1) (c.toNat : Int) := by
        intro kk
        by_cases hj0 : j = 0
        · have := haj.1 hj0
          rw [if_neg (by omega), hz hj0, hm, this]
          rfl
        · have h2 := hn (by omega)
          have h3 := haj.2 (by omega)
          rw [if_pos (by omega)]
          congr 1
          rw [hm, h2, IntKind.wrap_u64, IntKind.wrap_u64]
          omega
      rw [key, quittanceref01_TakeNum.j2]
      have e2 : Int.tmod (c.toNat : Int) 128 = ((c.toNat % 128 : Nat) : Int) := by rw [Int.tmod_eq_emod_of_nonneg (by omega)]; omega
      have e3 : IntKind.u64.wrap (m + ((c.toNat % 128 : Nat) : Int)) = (((128 * a + c.toNat % 128) % 18446744073709551616 : Nat) : Int) := by rw [hm, IntKind.wrap_u64]; omega
      have hlt2 : (((128 * a + c.toNat % 128) % 18446744073709551616 : Nat) : Int) < 18446744073709551616 := by
        have := Nat.mod_lt (128 * a + c.toNat % 128) (show 0 < 18446744073709551616 by decide)
        exact Int.ofNat_lt.2 this
      rw [e2, e3]
      by_cases h8 : c.toNat < 128
      · have hV : tnum (128 * a + c.toNat) = L.take (j + 1) := by rw [htk, hA]; exact tnum_vA _ hp c h8
        rw [if_pos (by omega), RNum_f _ (Nat.mod_lt _ (by decide)), Option.bind_some, if_pos (by omega), B_size, if_pos (by omega), B_extract, B_toList, B_toList, show ((j : Int) + 1).toNat = j + 1 by omega, Nat.sub_zero, List.drop_zero, ← hV,
          Nat.mod_eq_of_lt h8]
        rw [tk, if_pos h8] at htn
        by_cases he : edge ≤ a
        · rw [if_pos he] at htn
          rw [resN_none htn, if_neg (by
            intro h
            have := tnum_inj h
            have := Nat.mod_lt (128 * a + c.toNat) (show 0 < 18446744073709551616 by decide)
            unfold edge at he
            omega)]
          rfl
        · rw [if_neg he] at htn
          unfold edge at he
          have hm2 : (128 * a + c.toNat) % 18446744073709551616 = 128 * a + c.toNat := Nat.mod_eq_of_lt (by omega)
          rw [resN_some htn, hm2, if_pos (rfl : tnum (128 * a + c.toNat) = tnum (128 * a + c.toNat)), B_extract, List.take_of_length_le (by rw [List.length_drop]; exact Nat.le_refl _)]
      · rw [if_neg (by omega)]
        have e4 : wrap64 ((j : Int) + 1 + 1) = ((j + 1 : Nat) : Int) + 1 := by unfold wrap64; omega
        rw [e4]
        have hv2 : vA 0 (L.take (j + 1)) = 128 * a + c.toNat % 128 + 1 := by rw [htk, vA_snoc, ← hA]
        refine ih k (j + 1) L _ hj1 hlt hL ?_ (Int.natCast_nonneg _) hlt2 (fun h => absurd h (Nat.succ_ne_zero j)) (fun _ => by rw [hv2, Nat.add_sub_cancel])
        intro b hb
        rw [htk] at hb
        rcases List.mem_append.1 hb with hb | hb
        · exact hp b hb
        · rw [List.mem_singleton.1 hb]; omega
    · have hall : takeN L = none := by
        refine tk_none L 0 fun c hc => hp c ?_
        rw [List.take_of_length_le (by omega)]
        exact hc
      rw [if_neg (by omega), quittanceref01_TakeNum.j1, if_neg (by decide), resN_none hall]
      rfl
theorem RTakeNum_f (k : Nat) (L : List UInt8) (hL : L.length ≤ 3000) (hk : 33 ≤ k) : quittanceref01_TakeNum.f k (B L) = some (resN L) := by
  unfold quittanceref01_TakeNum.f
  obtain ⟨k, rfl⟩ : ∃ m, k = m + 3 * (10 + 1) := ⟨k - 33, by omega⟩
  have := rtn 10 k 0 L 0 rfl (Nat.zero_le _) hL (fun c hc => by cases hc) (by decide) (by decide) (fun _ => rfl) (fun h => absurd h (by decide))
  exact this
/-- What is answered of bytes whose text is taken. -/
def resT (L : List UInt8) : ByteArray × ByteArray × Bool :=
  match takeT L with
  | some (s, r) => (B s, B r, true)
  | none => (B [], B [], false)
theorem TakeText_res {L : List UInt8} (hL : okN L) : tally_TakeText.f (B L) = some (resT L) := TakeText_eq hL
theorem rtt (d : Nat) : ∀ (k j n : Nat) (r : List UInt8), j ≤ n → n < 18446744073709551616 → j + d = r.length + 1 → r.length ≤ 3000 →
    quittanceref01_TakeText.l0 (k + 2 * (d + 1)) (n : Int) (B r) true (j : Int) = some (if n ≤ r.length then (B (r.take n), B (r.drop n), true) else (B [], B [], false)) := by
  induction d with
  | zero =>
    intro k j n r hjn hn hd hr
    rw [show k + 2 * (0 + 1) = k + 1 + 1 from rfl, quittanceref01_TakeText.l0, B_size, if_neg (by omega), quittanceref01_TakeText.j1, if_neg (by decide), if_neg (by omega)]
    rfl
  | succ d ih =>
    intro k j n r hjn hn hd hr
    rw [show k + 2 * (d + 1 + 1) = (k + 2 * (d + 1)) + 1 + 1 by omega, quittanceref01_TakeText.l0, B_size, if_pos (by omega), quittanceref01_TakeText.j1, if_pos (rfl : true = true), u64w _ (by omega) (by omega)]
    by_cases h : j = n
    · subst h
      rw [if_pos rfl, if_pos (by omega), B_size, if_pos (by omega), if_pos (by omega), B_extract, B_extract, Int.toNat_natCast, Nat.sub_zero, List.drop_zero, List.take_of_length_le (l := r.drop j) (by rw [List.length_drop]; exact Nat.le_refl _)]
    · have e : wrap64 ((j : Int) + 1) = ((j + 1 : Nat) : Int) := by unfold wrap64; omega
      rw [if_neg (by omega), e]
      exact ih k (j + 1) n r (by omega) hn (by omega) hr
theorem RTakeText_f (k : Nat) (L : List UInt8) (hL : L.length ≤ 3000) (hk : 7000 ≤ k) : quittanceref01_TakeText.f k (B L) = some (resT L) := by
  unfold quittanceref01_TakeText.f resT
  rw [RTakeNum_f k L hL (by omega), Option.bind_some]
  cases h : takeN L with
  | none =>
    rw [resN_none h, takeT_none h]
    obtain ⟨k, rfl⟩ : ∃ m, k = m + 1 + 1 := ⟨k - 2, by omega⟩
    rw [quittanceref01_TakeText.l0, B_size, if_pos (by decide), quittanceref01_TakeText.j1, if_neg (by decide)]
    rfl
  | some x =>
    obtain ⟨n, r⟩ := x
    have h1 := takeN_len h
    rw [resN_some h, takeT_eq h]
    obtain ⟨m, hm⟩ : ∃ m, k = m + 2 * (r.length + 1 + 1) := ⟨k - 2 * (r.length + 1 + 1), by omega⟩
    have := rtt (r.length + 1) m 0 n r (Nat.zero_le _) (takeN_once h).1 (by omega) (by omega)
    rw [← hm] at this
    refine this.trans ?_
    by_cases hl : n ≤ r.length
    · rw [if_pos hl, if_pos hl]
    · rw [if_neg hl, if_neg hl]
/-- What is answered of bytes whose row is taken. -/
theorem same_l0 (l : List ByteArray) (hl : l.length < 9223372036854775807) (d : Nat) : ∀ (k j : Nat), j + d = l.length → quittanceref01_Same.l0 (k + d + 1) l l (j : Int) = some true := by
  induction d with
  | zero => intro k j h; rw [show k + 0 + 1 = k + 1 from rfl, quittanceref01_Same.l0, if_neg (by omega)]
  | succ d ih =>
    intro k j h
    have e : wrap64 ((j : Int) + 1) = ((j + 1 : Nat) : Int) := by unfold wrap64; omega
    rw [show k + (d + 1) + 1 = (k + d + 1) + 1 by omega, quittanceref01_Same.l0, if_pos (by omega), if_pos (by omega), if_pos (by omega), if_pos rfl, e]
    exact ih k (j + 1) (by omega)
theorem Same_f (k : Nat) (l : List ByteArray) (hl : l.length < 9223372036854775807) (hk : l.length < k) : quittanceref01_Same.f k l l = some true := by
  unfold quittanceref01_Same.f
  obtain ⟨m, hm⟩ : ∃ m, k = m + l.length + 1 := ⟨k - l.length - 1, by omega⟩
  rw [if_pos rfl, hm]
  have := same_l0 l hl l.length m 0 (by omega)
  exact this
end Go.Proofs.Ytknmbhllinbcjaa.Pure
