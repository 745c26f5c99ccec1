/- Plain laws of leaf: Put, Ends and Get of the document and of the code are one. Numbers of 64 bits; no other condition. -/
import Derived.Test.YtknmbhllinbcjaaLB1
set_option linter.unusedVariables false
set_option linter.unusedSimpArgs false
namespace Go.Proofs.Ytknmbhllinbcjaa
open Go Go.RowKit Go.Proofs.YtknmbhllinbcjaaW.PrintWords Go.Proofs.Ytknmbhllinbcjaa.Q
theorem byteAt8 (n : Nat) : le8 n = [byteAt n 0, byteAt n 1, byteAt n 2, byteAt n 3, byteAt n 4, byteAt n 5, byteAt n 6, byteAt n 7] := rfl
theorem stampL_eq (X : List UInt8) (hX : X.length = 48) (n : Nat) : stampL (List.replicate 8 0 ++ X ++ List.replicate 8 0) n 8 = be8 n ++ X ++ le8 n := by
  have e : List.replicate 8 (0 : UInt8) = [0, 0, 0, 0, 0, 0, 0, 0] := rfl
  rw [e, be8, byteAt8]
  simp only [stampL, List.append_assoc]
  simp [List.set_append, hX]
theorem leafL_eq (n : Nat) (l : List UInt8) (h : l.length ≤ 48) : leafL n l = be8 n ++ full l ++ le8 n := by
  rw [← stampL_eq (full l) (full_length l h), leafL]
  congr 1
  rw [List.take_of_length_le (by omega), full]
  have e : 56 - l.length = (48 - l.length) + 8 := by omega
  rw [e, ← List.replicate_append_replicate]
  simp only [List.append_assoc]
theorem Full_f {k : Nat} (l : List UInt8) (h : l.length ≤ 48) (hk : 49 ≤ k) : quittanceref02_Full.f k (B l) = some (B (full l)) :=
  full_f (48 - l.length) k l rfl h (by omega)
theorem Full_long {k : Nat} (l : List UInt8) (h : ¬ l.length < 48) (hk : 1 ≤ k) : quittanceref02_Full.f k (B l) = some (B l) := by
  obtain ⟨k, rfl⟩ : ∃ m, k = m + 1 := ⟨k - 1, by omega⟩
  simp only [quittanceref02_Full.f, quittanceref02_Full.l0]
  rw [if_neg (by rw [B_size]; omega)]
theorem Eight_f {k : Nat} (n : Nat) (hn : n < 18446744073709551616) (hk : 9 ≤ k) : quittanceref02_eight.f k n = some (B (be8 n)) := by
  have h := eight_f 8 k n [] 0 (by omega) (by omega) (by omega) hn rfl
  unfold quittanceref02_eight.f
  rw [B_nil]
  have e : ((0 : Nat) : Int) = 0 := rfl
  rw [e] at h
  rw [h, List.append_nil]
  rfl
theorem Turned_f {k : Nat} (l : List UInt8) (hl : l.length ≤ 4611686018427387904) (hk : l.length < k) : quittanceref02_turned.f k (B l) = some (B l.reverse) := by
  have h := turned_f (l.length) k l 0 (by omega) (by omega) hk hl
  unfold quittanceref02_turned.f
  rw [B_nil]
  exact h
theorem Number_f {k : Nat} (l : List UInt8) (hl : l.length ≤ 8) (hk : 9 ≤ k) : quittanceref02_number.f k (B l) = some ((numB l : Nat) : Int) := by
  have h := number_f (l.length) k l 0 (by omega) (by omega) (by omega) hl
  unfold quittanceref02_number.f
  exact h
theorem refPut {k : Nat} (n : Nat) (l : List UInt8) (h0 : n ≠ 0) (hn : n < 18446744073709551616) (hl : l.length ≤ 48) (hk : 49 ≤ k) :
    quittanceref02_Put.f k n (B l) = some (B (be8 n ++ full l ++ le8 n), 0) := by
  unfold quittanceref02_Put.f
  rw [if_neg (by omega), if_neg (by rw [B_size]; omega), Eight_f n hn (by omega)]
  simp only [Option.bind_some]
  rw [Full_f l hl hk]
  simp only [Option.bind_some]
  have h1 := be8_length n
  have h2 := full_length l hl
  have h3 := le8_length n
  rw [if_pos (by simp only [B_size]; omega), Turned_f _ (by omega) (by omega)]
  simp only [Option.bind_some]
  have e : (be8 n).reverse = le8 n := by simp [be8]
  rw [e, B_append, B_append, if_pos (by simp only [B_size, List.length_append]; omega)]
theorem refPut_zero {k : Nat} (s : ByteArray) : quittanceref02_Put.f k 0 s = some (B [], 2) := by
  unfold quittanceref02_Put.f
  rw [if_pos rfl]; rfl
theorem refPut_long {k : Nat} (n : Int) (s : ByteArray) (h0 : n ≠ 0) (hs : 48 < s.size) : quittanceref02_Put.f k n s = some (B [], 3) := by
  unfold quittanceref02_Put.f
  rw [if_neg h0, if_pos (by omega)]; rfl
theorem leafPut (n : Nat) (l : List UInt8) (h0 : n ≠ 0) (hn : n < 18446744073709551616) (hl : l.length ≤ 48) :
    leaf_Put.f n (B l) = some (B (be8 n ++ full l ++ le8 n), 0) := by
  unfold leaf_Put.f
  rw [if_neg (by omega), if_neg (by rw [B_size]; omega), if_pos ⟨by omega, by omega⟩, Int.toNat_natCast, B_data, leafL_eq n l hl]
  rfl
theorem leafPut_zero (s : ByteArray) : leaf_Put.f 0 s = some (B [], 2) := rfl
theorem leafPut_long (n : Int) (s : ByteArray) (h0 : n ≠ 0) (hs : 48 < s.size) : leaf_Put.f n s = some (B [], 3) := by
  unfold leaf_Put.f
  rw [if_neg h0, if_pos (by omega)]; rfl
/-- THE TWO Puts ARE ONE. -/
theorem puts_one {k : Nat} (n : Int) (s : ByteArray) (h0 : 0 ≤ n) (hn : n < 18446744073709551616) (hk : 49 ≤ k) : quittanceref02_Put.f k n s = leaf_Put.f n s := by
  obtain ⟨l, rfl, _⟩ := B_ex s
  obtain ⟨m, rfl⟩ := Int.eq_ofNat_of_zero_le h0
  by_cases hm : m = 0
  · subst hm
    exact (refPut_zero _).trans (leafPut_zero _).symm
  · by_cases hl : l.length ≤ 48
    · rw [refPut m l hm (by omega) hl hk, leafPut m l hm (by omega) hl]
    · rw [refPut_long _ _ (by omega) (by rw [B_size]; omega), leafPut_long _ _ (by omega) (by rw [B_size]; omega)]
theorem wf_u64 {n : Int} (h : (Lit.int .u64 n).wf = true) : 0 ≤ n ∧ n < 18446744073709551616 := by
  have hmin : IntKind.u64.min = 0 := rfl
  have hmax : IntKind.u64.max = 18446744073709551615 := rfl
  simp only [Lit.wf, Bool.and_eq_true, decide_eq_true_eq] at h
  omega
theorem leafPut_some (n : Int) (s : ByteArray) (h0 : 0 ≤ n) (hn : n < 18446744073709551616) : ∃ r, leaf_Put.f n s = some r := by
  unfold leaf_Put.f
  split
  · exact ⟨_, rfl⟩
  · split
    · exact ⟨_, rfl⟩
    · rw [if_pos (by omega)]; exact ⟨_, rfl⟩
end Go.Proofs.Ytknmbhllinbcjaa
