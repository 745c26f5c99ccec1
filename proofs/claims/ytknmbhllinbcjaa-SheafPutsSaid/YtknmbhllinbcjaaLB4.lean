/- Leaves torn: beginnings of leaves over beginnings (plain). -/
import Derived.Test.YtknmbhllinbcjaaLB3
import Derived.Test.YtknmbhllinbcjaaLB3b
set_option linter.unusedVariables false
set_option linter.unusedSimpArgs false
set_option linter.unusedSectionVars false
namespace Go.Proofs.Ytknmbhllinbcjaa.Pure
open Go Go.RowKit Go.Proofs.Ytknmbhllinbcjaa.Q Go.Proofs.YtknmbhllinbcjaaW.PrintWords Go.Proofs.YtknmbhllinbcjaaW.PrintLast
theorem numB_append (l m : List UInt8) : numB (l ++ m) = numB l * 256 ^ m.length + numB m := by
  induction m using snoc_rec with
  | h0 => simp [numB]
  | h1 m c ih =>
    rw [← List.append_assoc, numB_snoc, ih, numB_snoc, List.length_append, Nat.pow_add]
    simp only [List.length_cons, List.length_nil, Nat.zero_add, Nat.pow_one]
    rw [Nat.mul_add, ← Nat.mul_assoc (numB l), Nat.mul_comm (numB l * 256 ^ m.length) 256]
    omega
theorem numB_head_le {p q r t : List UInt8} (hq : q.length = t.length) (h : numB (p ++ q) < numB (r ++ t)) : numB p ≤ numB r := by
  rw [numB_append, numB_append, hq] at h
  refine Nat.le_of_not_lt fun hlt => ?_
  have h1 : (numB r + 1) * 256 ^ t.length ≤ numB p * 256 ^ t.length := Nat.mul_le_mul_right _ hlt
  have h2 := numB_lt t
  rw [Nat.add_mul, Nat.one_mul] at h1
  omega
theorem numB_mono {p q r : List UInt8} (h : numB p ≤ numB r) : numB (p ++ q) ≤ numB (r ++ q) := by
  rw [numB_append, numB_append]
  exact Nat.add_le_add_right (Nat.mul_le_mul_right _ h) _
theorem numB_inj {p r : List UInt8} (hp : p.length = 8) (hr : r.length = 8) (h : numB p = numB r) : p = r := by
  rw [← be8_numB p hp, h, be8_numB r hr]
def torn (s : Nat) (S : List UInt8) (n : Nat) (L : List UInt8) : List UInt8 := (leafOf s S).take n ++ L.drop n
section
variable {s n : Nat} {S L : List UInt8} (hS : S.length ≤ 48) (hs : s < 18446744073709551616) (hL : L.length = 64) (hn : n ≤ 64)
include hS hL hn
theorem torn_length : (torn s S n L).length = 64 := by
  have := leafOf_length s S hS
  unfold torn
  simp
  omega
theorem torn_take_lt (h8 : n < 8) : (torn s S n L).take 8 = (be8 s).take n ++ (L.take 8).drop n := by
  have h1 := leafOf_length s S hS
  unfold torn
  rw [List.take_append, List.take_take, List.length_take, ← leafOf_take s S, List.take_take, List.drop_take]
  congr 2 <;> omega
theorem torn_take_ge (h8 : 8 ≤ n) : (torn s S n L).take 8 = be8 s := by
  have h1 := leafOf_length s S hS
  unfold torn
  rw [List.take_append_of_le_length (by simp; omega), List.take_take, Nat.min_eq_left h8, leafOf_take]
theorem torn_drop_le (h : n ≤ 56) : (torn s S n L).drop 56 = L.drop 56 := by
  have h1 := leafOf_length s S hS
  unfold torn
  rw [List.drop_append, List.drop_of_length_le (by simp; omega), List.nil_append, List.drop_drop, List.length_take]
  congr 1
  omega
theorem torn_drop8 (h : n < 8) : (torn s S n L).drop 8 = L.drop 8 := by
  have h1 := leafOf_length s S hS
  unfold torn
  rw [List.drop_append, List.drop_of_length_le (by simp; omega), List.nil_append, List.drop_drop, List.length_take]
  congr 1
  omega
theorem torn_drop_gt (h : 56 < n) : (torn s S n L).drop 56 = (le8 s).take (n - 56) ++ (L.drop 56).drop (n - 56) := by
  have h1 := leafOf_length s S hS
  unfold torn
  rw [List.drop_append_of_le_length (by simp; omega), List.drop_take, leafOf_drop56 s S hS, List.drop_drop]
  congr 2
  omega
theorem torn_mid (h : 56 ≤ n) : ((torn s S n L).drop 8).take 48 = full S := by
  have h1 := leafOf_length s S hS
  have e : ((torn s S n L).drop 8).take 48 = ((torn s S n L).take 56).drop 8 := by rw [List.drop_take]
  rw [e]
  unfold torn
  rw [List.take_append_of_le_length (by simp; omega), List.take_take, Nat.min_eq_left h, List.drop_take, leafOf_drop8 s S hS]
end
def TornInv (L : List UInt8) (last : Int) (content : ByteArray) : Prop :=
  L.length = 64 ∧ footNum L ≤ headNum L ∧ (headNum L ≠ 0 → footNum L = headNum L → last = (headNum L : Nat) ∧ content = B ((L.drop 8).take 48))
theorem torn_step {s n : Nat} {S L : List UInt8} {last : Int} {content : ByteArray} (hS : S.length ≤ 48) (hs : s < 18446744073709551616) (hn : n ≤ 64) (hgt : headNum L < s) (hI : TornInv L last content) :
    headNum L ≤ headNum (torn s S n L) ∧ TornInv (torn s S n L) (if 8 ≤ n then (s : Int) else last) (if 8 ≤ n then B (full S) else content) ∧ (n = 64 → footNum (torn s S n L) = headNum (torn s S n L) ∧ headNum (torn s S n L) ≠ 0) := by
  obtain ⟨hL, hf, hI⟩ := hI
  have hl := torn_length (s := s) hS hL hn
  have es : numB (be8 s) = s := numB_be8 s hs
  by_cases h8 : n < 8
  · have ht := torn_take_lt (s := s) hS hL hn h8
    have hd := torn_drop_le (s := s) hS hL hn (by omega)
    have hd8 := torn_drop8 (s := s) hS hL hn h8
    have hfe : footNum (torn s S n L) = footNum L := by rw [footNum_eq _ hl, footNum_eq _ hL, hd]
    have hle : headNum L ≤ headNum (torn s S n L) := by
      rw [headNum_eq _ hl, headNum_eq _ hL, ht]
      have e1 : L.take 8 = (L.take 8).take n ++ (L.take 8).drop n := (List.take_append_drop n _).symm
      have e2 : be8 s = (be8 s).take n ++ (be8 s).drop n := (List.take_append_drop n _).symm
      rw [headNum_eq _ hL, ← es] at hgt
      have hq : ((L.take 8).drop n).length = ((be8 s).drop n).length := by simp [be8_length]; omega
      have h3 : numB ((L.take 8).take n) ≤ numB ((be8 s).take n) := by
        refine numB_head_le hq ?_
        rw [List.take_append_drop, List.take_append_drop]
        exact hgt
      have h4 := numB_mono (q := (L.take 8).drop n) h3
      rw [List.take_append_drop] at h4
      exact h4
    rw [if_neg (by omega), if_neg (by omega)]
    refine ⟨hle, ⟨hl, by omega, fun h0 he => ?_⟩, fun h => by omega⟩
    have hh : headNum (torn s S n L) = headNum L := by omega
    have ht8 : (torn s S n L).take 8 = L.take 8 := by
      refine numB_inj (by simp; omega) (by simp; omega) ?_
      rw [← headNum_eq _ hl, ← headNum_eq _ hL, hh]
    have hLL : torn s S n L = L := by
      rw [← List.take_append_drop 8 (torn s S n L), ht8, hd8, List.take_append_drop]
    rw [hLL] at h0 he ⊢
    exact hI h0 he
  · have ht := torn_take_ge (s := s) hS hL hn (by omega)
    have hh : headNum (torn s S n L) = s := by rw [headNum_eq _ hl, ht, es]
    rw [if_pos (by omega), if_pos (by omega), hh]
    refine ⟨by omega, ?_⟩
    by_cases h56 : n ≤ 56
    · have hd := torn_drop_le (s := s) hS hL hn h56
      have hfe : footNum (torn s S n L) = footNum L := by rw [footNum_eq _ hl, footNum_eq _ hL, hd]
      refine ⟨⟨hl, by omega, fun h0 he => by omega⟩, fun h => by omega⟩
    · have hd := torn_drop_gt (s := s) hS hL hn (by omega)
      have hfe : footNum (torn s S n L) = numB (((L.drop 56).drop (n - 56)).reverse ++ ((le8 s).take (n - 56)).reverse) := by rw [footNum_eq _ hl, hd, List.reverse_append]
      have ebe : be8 s = ((le8 s).drop (n - 56)).reverse ++ ((le8 s).take (n - 56)).reverse := by rw [← List.reverse_append, List.take_append_drop]; rfl
      have hle : footNum (torn s S n L) ≤ s := by
        rw [hfe]
        have h3 : numB ((L.drop 56).drop (n - 56)).reverse ≤ numB ((le8 s).drop (n - 56)).reverse := by
          refine numB_head_le (q := ((L.drop 56).take (n - 56)).reverse) (t := ((le8 s).take (n - 56)).reverse) (by simp [le8_length]; omega) ?_
          rw [← List.reverse_append, List.take_append_drop, ← ebe, es, ← footNum_eq _ hL]
          omega
        have h4 := numB_mono (q := ((le8 s).take (n - 56)).reverse) h3
        rw [← ebe, es] at h4
        exact h4
      refine ⟨⟨hl, by omega, fun h0 he => ⟨by rw [hh], by rw [torn_mid hS hL hn (by omega)]⟩⟩, fun h => ⟨?_, by omega⟩⟩
      subst h
      rw [hfe, List.drop_of_length_le (by simp; omega), List.reverse_nil, List.nil_append, List.take_of_length_le (by rw [le8_length]; decide)]
      exact es
end Go.Proofs.Ytknmbhllinbcjaa.Pure
