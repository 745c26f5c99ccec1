/- TallyPuts: the bytes of any number, integer, text, row are the document's. -/
import Derived.Test.YtfjjngipjabfpaaQ9
import Derived.Test.YtfjjngipjabfpaaP4
set_option linter.unusedVariables false
set_option linter.unusedSimpArgs false
namespace Go.Proofs.Ytfjjngipjabfpaa.Pure
open Go Go.RowKit Go.Proofs.Ytfjjngipjabfpaa.Q Go.Proofs.YtfjjngipjabfpaaW.PrintWords Go.Proofs.YtfjjngipjabfpaaW.PrintLast Go.Proofs.YtfjjngipjabfpaaW.PrintMore
theorem long_l0 (a : Nat) : ∀ (k : Nat) (c : Nat), a < 18446744073709551616 → c + (hA a).length < 1000 → (hA a).length < k → tally_Long.l0 k (a : Int) (c : Int) = some ((c + (hA a).length : Nat) : Int) := by
  induction a using Nat.strongRecOn with
  | ind a ih =>
    intro k c ha hc hk
    obtain ⟨k, rfl⟩ : ∃ m, k = m + 1 := ⟨k - 1, by omega⟩
    by_cases h : a = 0
    · subst h
      rw [hA_zero, tally_Long.l0, if_neg (by decide)]
      rfl
    · have hp := hA_pos h
      have hlt : (a - 1) / 128 < a := Nat.lt_of_le_of_lt (Nat.div_le_self _ _) (by omega)
      have hlen : (hA a).length = (hA ((a - 1) / 128)).length + 1 := by rw [hp]; simp
      have e1 : IntKind.u64.wrap ((a : Int) - 1) = ((a - 1 : Nat) : Int) := by rw [u64w _ (by omega) (by omega)]; omega
      have e2 : (((a - 1 : Nat) : Int)) / 128 = (((a - 1) / 128 : Nat) : Int) := by omega
      have e3 : wrap64 ((c : Int) + 1) = ((c + 1 : Nat) : Int) := by unfold wrap64; omega
      rw [tally_Long.l0, if_pos (by omega), e1, e2, e3, ih _ hlt k (c + 1) (by omega) (by omega) (by omega), hlen]
      congr 2
      omega
theorem Long_f (k : Nat) (n : Nat) (hn : n < 18446744073709551616) (hk : 24 ≤ k) : tally_Long.f k (n : Int) = some (((tnum n).length : Nat) : Int) := by
  unfold tally_Long.f
  have hl := hA_length_le (n / 128) (by omega)
  have := long_l0 (n / 128) k 1 (by omega) (by omega) (by omega)
  rw [show (n : Int) / 128 = ((n / 128 : Nat) : Int) by omega]
  refine this.trans ?_
  unfold tnum
  rw [List.length_append, List.length_singleton, Nat.add_comm]
theorem puts_true (k : Nat) (a b : Int) (s : ByteArray) (l : List ByteArray) (r : ByteArray) (hk : 24 ≤ k) : quittancelaw01_TallyPuts.j0 (k + 1) true a b s l r = some true := by
  rw [quittancelaw01_TallyPuts.j0, if_pos (rfl : true = true), head01 k hk]
  rfl
theorem puts_false (k : Nat) (a : Nat) (b : Int) (s : ByteArray) (l : List ByteArray) (r : ByteArray) (ha : a < 18446744073709551616) (hb0 : -9223372036854775808 ≤ b) (hb1 : b < 9223372036854775808) (hs : s.size ≤ 70000) (hl : fine l) (hk : 400 ≤ k) :
    quittancelaw01_TallyPuts.j0 (k + 1) false a b s l r = some true := by
  obtain ⟨S, rfl, _⟩ := B_ex s
  rw [B_size] at hs
  have hl1 := hl.1
  have hT : tally_Text.f k (B S) = some (B (textL (B S))) := by rw [Text_f k S (by omega) (by omega), textL_B]
  rw [quittancelaw01_TallyPuts.j0, if_neg (by decide), Num_f k a ha (by omega), Option.bind_some, RNum_f a ha, Option.bind_some, if_pos (rfl : (B (tnum a)).toList = (B (tnum a)).toList),
    Int_f k b hb0 hb1 (by omega), Option.bind_some, RInt_f b hb0 hb1, Option.bind_some, if_pos (rfl : (B (tnum (zz b))).toList = (B (tnum (zz b))).toList),
    hT, Option.bind_some, RText_f _ (by rw [B_size]; omega), Option.bind_some, if_pos (rfl : (B (textL (B S))).toList = (B (textL (B S))).toList),
    Row_f l hl, Option.bind_some, RRow_f k l hl (by omega), Option.bind_some, if_pos (rfl : (B (rowL l)).toList = (B (rowL l)).toList), Long_f k a ha (by omega), Option.bind_some, Option.bind_some, B_size,
    if_pos (rfl : (((tnum a).length : Nat) : Int) = (((tnum a).length : Nat) : Int)), head01 k (by omega)]
  rfl
theorem TallyPuts (a b : Int) (s : ByteArray) (l : List ByteArray) (r : ByteArray) (ha0 : 0 ≤ a) (ha1 : a < 18446744073709551616) (hb0 : -9223372036854775808 ≤ b) (hb1 : b < 9223372036854775808) (hl : l.length ≤ 9223372036854775807) :
    quittancelaw01_TallyPuts.f (l.length + 400 + 1) a b s l r = some true := by
  unfold quittancelaw01_TallyPuts.f
  by_cases h : (s.size : Int) > 70000
  · rw [if_pos h]
    exact puts_true _ a b s l r (by omega)
  · rw [if_neg h]
    obtain ⟨t, h1, h2⟩ := long_f (l.length + 400 + 1) l hl (by omega)
    rw [h1, Option.bind_some]
    cases t with
    | true => exact puts_true _ a b s l r (by omega)
    | false =>
      obtain ⟨a, rfl⟩ : ∃ n : Nat, a = n := ⟨a.toNat, by omega⟩
      exact puts_false _ a b s l r (by omega) hb0 hb1 (by omega) (h2 rfl) (by omega)
end Go.Proofs.Ytfjjngipjabfpaa.Pure
