/- Plain laws of leaf: Ends and Get of the document and of the code are one. No condition. -/
import Derived.Test.YtknmbhllinbcjaaLB2
set_option linter.unusedVariables false
set_option linter.unusedSimpArgs false
namespace Go.Proofs.Ytknmbhllinbcjaa
open Go Go.RowKit Go.Proofs.YtknmbhllinbcjaaW.PrintWords Go.Proofs.Ytknmbhllinbcjaa.Q
theorem leNum_byte : ∀ (m : Nat) (f : Nat → UInt8) (j : Nat), j < m → byteAt (leNum f m) j = f j
  | 0, _, _, h => by omega
  | m + 1, f, j, h => by
    rw [leNum_low]
    have hb := (f 0).toNat_lt
    cases j with
    | zero =>
      unfold byteAt
      rw [Nat.pow_zero, Nat.div_one]
      apply UInt8.toNat_inj.1
      rw [UInt8.toNat_ofNat']
      omega
    | succ j =>
      have ih := leNum_byte m (fun i => f (i + 1)) j (by omega)
      rw [← byteAt_div]
      have e : ((f 0).toNat + 256 * leNum (fun i => f (i + 1)) m) / 256 = leNum (fun i => f (i + 1)) m := by omega
      rw [e, ih]
theorem be8_numB (l : List UInt8) (h : l.length = 8) : be8 (numB l) = l := by
  rw [numB_le, h, be8, byteAt8]
  have hb : ∀ j, j < 8 → byteAt (leNum (fun i => l.getD (8 - 1 - i) 0) 8) j = l.getD (8 - 1 - j) 0 := fun j hj => leNum_byte 8 _ j hj
  rw [hb 0 (by decide), hb 1 (by decide), hb 2 (by decide), hb 3 (by decide), hb 4 (by decide), hb 5 (by decide), hb 6 (by decide), hb 7 (by decide)]
  match l, h with
  | [a, b, c, d, e, f, g, i], _ => rfl
theorem numB_be8 (n : Nat) (hn : n < 18446744073709551616) : numB (be8 n) = n := by
  have h1 := numB_le (be8 n)
  rw [be8_length] at h1
  rw [h1]
  have key : ∀ (m : Nat) (n : Nat), n < 256 ^ m → leNum (byteAt n) m = n := by
    intro m
    induction m with
    | zero => intro n hn; simp at hn; simp [leNum, hn]
    | succ m ih =>
      intro n hn
      rw [leNum_low]
      have e : (fun i => byteAt n (i + 1)) = byteAt (n / 256) := by funext i; rw [byteAt_div]
      rw [e, ih (n / 256) (by rw [Nat.pow_succ] at hn; omega)]
      have e0 : (byteAt n 0).toNat = n % 256 := by simp [byteAt]
      omega
  have e : leNum (fun i => (be8 n).getD (8 - 1 - i) 0) 8 = leNum (byteAt n) 8 := by
    apply leNum_congr
    intro i hi
    rw [be8, byteAt8]
    match i, hi with
    | 0, _ => rfl
    | 1, _ => rfl
    | 2, _ => rfl
    | 3, _ => rfl
    | 4, _ => rfl
    | 5, _ => rfl
    | 6, _ => rfl
    | 7, _ => rfl
  rw [e]
  exact key 8 n (by simpa using hn)
theorem headNum_lt (l : List UInt8) : headNum l < 18446744073709551616 := Nat.lt_of_lt_of_le (leNum_lt _ 8) (by decide)
theorem footNum_lt (l : List UInt8) : footNum l < 18446744073709551616 := Nat.lt_of_lt_of_le (leNum_lt _ 8) (by decide)
theorem ends_one {k : Nat} (s : ByteArray) (hk : 9 ≤ k) : quittanceref02_Ends.f k s = leaf_Ends.f s := by
  obtain ⟨l, rfl, _⟩ := B_ex s
  unfold quittanceref02_Ends.f leaf_Ends.f
  rw [B_size, B_data]
  by_cases h : l.length = 64
  · rw [if_pos (by omega), if_pos h, if_pos (by omega), if_pos (by omega), B_extract, B_extract]
    rw [Number_f _ (by simp; omega) hk]
    simp only [Option.bind_some]
    rw [if_pos (by omega), Turned_f _ (by simp [h]) (by simp [h]; omega)]
    simp only [Option.bind_some]
    rw [Number_f _ (by simp [h]) hk]
    simp only [Option.bind_some]
    rw [headNum_eq l h, footNum_eq l h, h]
    have e1 : ((l.drop 0).take (8 - 0)) = l.take 8 := rfl
    have e2 : ((l.drop 56).take (64 - 56)) = l.drop 56 := List.take_of_length_le (by simp [h])
    rw [e1, e2]
  · rw [if_neg (by omega), if_neg h]
theorem split64 (l : List UInt8) (h : l.length = 64) : l = l.take 8 ++ (l.drop 8).take 48 ++ l.drop 56 := by
  have h1 : l = l.take 8 ++ l.drop 8 := (List.take_append_drop 8 l).symm
  have h2 : l.drop 8 = (l.drop 8).take 48 ++ (l.drop 8).drop 48 := (List.take_append_drop 48 _).symm
  rw [List.drop_drop] at h2
  rw [List.append_assoc, ← h2, ← h1]
theorem full48 (X : List UInt8) (h : X.length = 48) : full X = X := by simp [full, h]
/-- A leaf is of its stamp just if the foot tells the head's number. -/
theorem leaf_iff (l : List UInt8) (h : l.length = 64) : be8 (headNum l) ++ full ((l.drop 8).take 48) ++ le8 (headNum l) = l ↔ footNum l = headNum l := by
  have hX : ((l.drop 8).take 48).length = 48 := by simp [h]
  have h8 : (l.take 8).length = 8 := by simp [h]
  have f8 : ((l.drop 56).reverse).length = 8 := by simp [h]
  have e1 : be8 (headNum l) = l.take 8 := by rw [headNum_eq l h, be8_numB _ h8]
  have e2 : be8 (footNum l) = (l.drop 56).reverse := by rw [footNum_eq l h, be8_numB _ f8]
  have hle : ∀ n, le8 n = (be8 n).reverse := fun n => by rw [be8, List.reverse_reverse]
  rw [full48 _ hX, e1]
  constructor
  · intro hh
    have h3 := split64 l h
    rw [h3] at hh
    have h4 : le8 (headNum l) = l.drop 56 := by
      have := List.append_inj_right hh (by simp [h])
      rw [← h3] at this
      exact this
    have h5 : be8 (headNum l) = (l.drop 56).reverse := by rw [← h4, hle, List.reverse_reverse]
    have h6 := congrArg numB h5
    rw [numB_be8 _ (headNum_lt l), ← footNum_eq l h] at h6
    exact h6.symm
  · intro hh
    rw [← hh, hle, e2, List.reverse_reverse]
    exact (split64 l h).symm
theorem get_no {k : Nat} (s : ByteArray) (m : Int) (h : quittanceref02_Ends.f k s = some (0, m)) : quittanceref02_Get.f k s = some (0, B [], false) := by
  unfold quittanceref02_Get.f
  rw [h]
  simp only [Option.bind_some]
  rw [if_pos trivial]
  rfl
theorem get_yes {k : Nat} (l : List UInt8) (hl : l.length = 64) (n : Nat) (m : Int) (h : quittanceref02_Ends.f k (B l) = some ((n : Int), m)) (h0 : n ≠ 0) (hn : n < 18446744073709551616) (hk : 49 ≤ k) :
    quittanceref02_Get.f k (B l) = if be8 n ++ full ((l.drop 8).take 48) ++ le8 n = l then some ((n : Int), (B l).extract 8 56, true) else some (0, B [], false) := by
  unfold quittanceref02_Get.f
  rw [h]
  simp only [Option.bind_some]
  rw [if_neg (by omega), if_pos (by omega), if_pos (by rw [B_size]; omega), B_extract]
  have hX : ((l.drop 8).take (56 - 8)).length ≤ 48 := by simp; omega
  rw [refPut n _ h0 hn hX hk]
  simp only [Option.bind_some]
  rw [B_toList, B_toList]
  rfl
theorem get_one {k : Nat} (s : ByteArray) (hk : 49 ≤ k) : quittanceref02_Get.f k s = leaf_Get.f s := by
  obtain ⟨l, rfl, _⟩ := B_ex s
  have he := ends_one (k := k) (B l) (by omega)
  unfold leaf_Ends.f at he
  unfold leaf_Get.f
  rw [B_size, B_data] at he ⊢
  by_cases h : l.length = 64
  · rw [if_pos h] at he
    by_cases h0 : headNum l = 0
    · rw [if_neg (fun hh => hh.2.1 h0)]
      rw [h0] at he
      exact get_no _ _ he
    · rw [get_yes l h _ _ he h0 (headNum_lt l) hk]
      by_cases hf : footNum l = headNum l
      · rw [if_pos ((leaf_iff l h).2 hf), if_pos ⟨h, h0, hf⟩]
      · rw [if_neg (fun e => hf ((leaf_iff l h).1 e)), if_neg (fun hh => hf hh.2.2)]
        rfl
  · rw [if_neg h] at he
    rw [if_neg (fun hh => h hh.1)]
    exact get_no _ _ he
end Go.Proofs.Ytknmbhllinbcjaa
