/- Plain laws of leaf: Ends and Get of the document and of the code are one. No condition. -/
import Derived.Test.YtfjjngipjabfpaaLB2
set_option linter.unusedVariables false
set_option linter.unusedSimpArgs false
namespace Go.Proofs.Ytfjjngipjabfpaa
open Go Go.RowKit Go.Proofs.YtfjjngipjabfpaaW.PrintWords Go.Proofs.Ytfjjngipjabfpaa.Q
theorem leNum_byte : ∀ (m : Nat) (f : Nat → UInt8) (j : Nat), j < m → byteAt (leNum f m) j = f j
  | 0, _, _, h => by omega
  | m + 1, f, j, h => by
    rw [leNum_low]
    have hb := (f 0).toNat_lt
    cases j with
    | zero =>
      unfold byteAt
      rw [Nat.pow_zero, Nat.div_one]
      apply UInt8.toNat_inj.1
      rw [UInt8.toNat_ofNat']
      omega
    | succ j =>
      have ih := leNum_byte m (fun i => f (i + 1)) j (by omega)
      rw [← byteAt_div]
      have e : ((f 0).toNat + 256 * leNum (fun i => f (i + 1)) m) / 256 = leNum (fun i => f (i + 1)) m := by omega
      rw [e, ih]
theorem be8_numB (l : List UInt8) (h : l.length = 8) : be8 (numB l) = l := by
  rw [numB_le, h, be8, byteAt8]
  have hb : ∀ j, j < 8 → byteAt (leNum (fun i => l.getD (8 - 1 - i) 0) 8) j = l.getD (8 - 1 - j) 0 := fun j hj => leNum_byte 8 _ j hj
  rw [hb 0 (by decide), hb 1 (by decide), hb 2 (by decide), hb 3 (by decide), hb 4 (by decide), hb 5 (by decide), hb 6 (by decide), hb 7 (by decide)]
  match l, h with
  | [a, b, c, d, e, f, g, i], _ => rfl
theorem numB_be8 (n : Nat) (hn : n < 18446744073709551616) : numB (be8 n) = n := by
  have h1 := numB_le (be8 n)
  rw [be8_length] at h1
  rw [h1]
  have key : ∀ (m : Nat) (n : Nat), n < 256 ^ m → leNum (byteAt n) m = n := by
    intro m
    induction m with
    | zero => intro n hn; simp at hn; simp [leNum, hn]
    | succ m ih =>
      intro n hn
      rw [leNum_low]
      have e : (fun i => byteAt n (i + 1)) = byteAt (n / 256) := by funext i; rw [byteAt_div]
      rw [e, ih (n / 256) (by rw [Nat.pow_succ] at hn; omega)]
      have e0 : (byteAt n 0).toNat = n % 256 := by simp [byteAt]
      omega
  have e : leNum (fun i => (be8 n).getD (8 - 1 - i) 0) 8 = leNum (byteAt n) 8 := by
    apply leNum_congr
    intro i hi
    rw [be8, byteAt8]
    match i, hi with
    | 0, _ => rfl
    | 1, _ => rfl
    | 2, _ => rfl
    | 3, _ => rfl
    | 4, _ => rfl
    | 5, _ => rfl
    | 6, _ => rfl
    | 7, _ => rfl
  rw [e]
  exact key 8 n (by simpa using hn)
theorem headNum_lt (l : List UInt8) : headNum l < 18446744073709551616 := Nat.lt_of_lt_of_le (leNum_lt _ 8) (by decide)
theorem footNum_lt (l : List UInt8) : footNum l < 18446744073709551616 := Nat.lt_of_lt_of_le (leNum_lt _ 8) (by decide)
theorem split64 (l : List UInt8) (h : l.length = 64) : l = l.take 8 ++ (l.drop 8).take 48 ++ l.drop 56 := by
  have h1 : l = l.take 8 ++ l.drop 8 := (List.take_append_drop 8 l).symm
  have h2 : l.drop 8 = (l.drop 8).take 48 ++ (l.drop 8).drop 48 := (List.take_append_drop 48 _).symm
  rw [List.drop_drop] at h2
  rw [List.append_assoc, ← h2, ← h1]
theorem full48 (X : List UInt8) (h : X.length = 48) : full X = X := by simp [full, h]
/-- A leaf is of its stamp just if the foot tells the head's number. -/
theorem leaf_iff (l : List UInt8) (h : l.length = 64) : be8 (headNum l) ++ full ((l.drop 8).take 48) ++ le8 (headNum l) = l ↔ footNum l = headNum l := by
  have hX : ((l.drop 8).take 48).length = 48 := by simp [h]
  have h8 : (l.take 8).length = 8 := by simp [h]
  have f8 : ((l.drop 56).reverse).length = 8 := by simp [h]
  have e1 : be8 (headNum l) = l.take 8 := by rw [headNum_eq l h, be8_numB _ h8]
  have e2 : be8 (footNum l) = (l.drop 56).reverse := by rw [footNum_eq l h, be8_numB _ f8]
  have hle : ∀ n, le8 n = (be8 n).reverse := fun n => by rw [be8, List.reverse_reverse]
  rw [full48 _ hX, e1]
  constructor
  · intro hh
    have h3 := split64 l h
    rw [h3] at hh
    have h4 : le8 (headNum l) = l.drop 56 := by
      have := List.append_inj_right hh (by simp [h])
      rw [← h3] at this
      exact this
    have h5 : be8 (headNum l) = (l.drop 56).reverse := by rw [← h4, hle, List.reverse_reverse]
    have h6 := congrArg numB h5
    rw [numB_be8 _ (headNum_lt l), ← footNum_eq l h] at h6
    exact h6.symm
  · intro hh
    rw [← hh, hle, e2, List.reverse_reverse]
    exact (split64 l h).symm
end Go.Proofs.Ytfjjngipjabfpaa
