/- LeafBack: a leaf that was put is got back; each byte of its ends counts. -/
import Derived.Test.YtfelfllgieclbaaQ6
import Derived.Test.YtfelfllgieclbaaB3
set_option linter.unusedVariables false
set_option linter.unusedSimpArgs false
namespace Go.Proofs.Ytfelfllgieclbaa.Pure
open Go Go.RowKit Go.Proofs.Ytfelfllgieclbaa.Q Go.Proofs.YtfelfllgieclbaaW.PrintWords Go.Proofs.YtfelfllgieclbaaW.PrintLast
theorem head02b : ∀ k, 3 ≤ k → quittancelaw02_head.f k = some true := by
  intro k hk
  have h : quittancelaw02_head.f 3 = some true := by kernel_rfl
  exact at_rounds (fun k => quittancelaw02_head.mono k) hk h
def leafOf (n : Nat) (l : List UInt8) : List UInt8 := be8 n ++ full l ++ le8 n
theorem leafOf_length (n : Nat) (l : List UInt8) (h : l.length ≤ 48) : (leafOf n l).length = 64 := by
  unfold leafOf; rw [List.length_append, List.length_append, be8_length, le8_length, full_length l h]
theorem leafOf_take (n : Nat) (l : List UInt8) : (leafOf n l).take 8 = be8 n := by
  unfold leafOf; rw [List.append_assoc, List.take_append_of_le_length (by rw [be8_length]; exact Nat.le_refl _), List.take_of_length_le (by rw [be8_length]; exact Nat.le_refl _)]
theorem leafOf_drop8 (n : Nat) (l : List UInt8) (h : l.length ≤ 48) : ((leafOf n l).drop 8).take 48 = full l := by
  unfold leafOf; rw [List.append_assoc, List.drop_append_of_le_length (by rw [be8_length]; exact Nat.le_refl _), List.drop_of_length_le (by rw [be8_length]; exact Nat.le_refl _), List.nil_append,
    List.take_append_of_le_length (by rw [full_length l h]; exact Nat.le_refl _), List.take_of_length_le (by rw [full_length l h]; exact Nat.le_refl _)]
theorem leafOf_drop56 (n : Nat) (l : List UInt8) (h : l.length ≤ 48) : (leafOf n l).drop 56 = le8 n := by
  unfold leafOf
  have h1 : (be8 n ++ full l).length = 56 := by rw [List.length_append, be8_length, full_length l h]
  rw [List.drop_append_of_le_length (by omega), List.drop_of_length_le (by omega), List.nil_append]
theorem leafOf_head (n : Nat) (l : List UInt8) (h : l.length ≤ 48) (hn : n < 18446744073709551616) : headNum (leafOf n l) = n := by
  rw [headNum_eq _ (leafOf_length n l h), leafOf_take, numB_be8 n hn]
theorem leafOf_foot (n : Nat) (l : List UInt8) (h : l.length ≤ 48) (hn : n < 18446744073709551616) : footNum (leafOf n l) = n := by
  rw [footNum_eq _ (leafOf_length n l h), leafOf_drop56 n l h]
  exact numB_be8 n hn
theorem get_leafOf (n : Nat) (l : List UInt8) (h0 : n ≠ 0) (h : l.length ≤ 48) (hn : n < 18446744073709551616) : leaf_Get.f (B (leafOf n l)) = some ((n : Int), B (full l), true) := by
  unfold leaf_Get.f
  rw [B_size, B_data, if_pos ⟨leafOf_length n l h, by rw [leafOf_head n l h hn]; exact h0, by rw [leafOf_head n l h hn, leafOf_foot n l h hn]⟩, leafOf_head n l h hn, B_extract, leafOf_drop8 n l h]
theorem ends_leafOf (n : Nat) (l : List UInt8) (h : l.length ≤ 48) (hn : n < 18446744073709551616) : leaf_Ends.f (B (leafOf n l)) = some ((n : Int), (n : Int)) := by
  unfold leaf_Ends.f
  rw [B_size, B_data, if_pos (leafOf_length n l h), leafOf_head n l h hn, leafOf_foot n l h hn]
/-- The ends of a leaf mirror each other. -/
theorem mirror (l : List UInt8) (h : l.length = 64) (he : footNum l = headNum l) (i : Nat) (hi : i < 8) : l.getD i 0 = l.getD (63 - i) 0 := by
  have h1 := be8_numB (l.take 8) (by simp; omega)
  have h2 := be8_numB ((l.drop 56).reverse) (by simp; omega)
  rw [← headNum_eq l h] at h1
  rw [← footNum_eq l h, he, h1] at h2
  have h3 := congrArg (fun m => m.getD i 0) h2
  simp only [List.getD_eq_getElem?_getD] at h3 ⊢
  rw [List.getElem?_take_of_lt hi] at h3
  rw [h3, List.getElem?_reverse (by simp; omega), List.getElem?_drop]
  congr 2
  simp
  omega
theorem get_changed (l : List UInt8) (h : l.length = 64) (he : footNum l = headNum l) (k : Nat) (hk : k < 8 ∨ 56 ≤ k ∧ k < 64) (c : UInt8) (hc : l.getD k 0 ≠ c) : leaf_Get.f (B (l.set k c)) = some (0, ⟨#[]⟩, false) := by
  unfold leaf_Get.f
  rw [B_size, B_data, if_neg]
  rintro ⟨h1, _, h2⟩
  have hl : k < l.length := by omega
  have m1 : l.getD k 0 = l.getD (63 - k) 0 := by
    rcases hk with hk | ⟨hk, hk'⟩
    · exact mirror l h he k hk
    · have := mirror l h he (63 - k) (by omega)
      rw [this]
      congr 1
      omega
  have m2 : (l.set k c).getD k 0 = (l.set k c).getD (63 - k) 0 := by
    rcases hk with hk | ⟨hk, hk'⟩
    · exact mirror _ h1 h2 k hk
    · have := mirror _ h1 h2 (63 - k) (by omega)
      rw [this]
      congr 1
      omega
  simp only [List.getD_eq_getElem?_getD] at m1 m2 hc
  rw [List.getElem?_set_self hl, List.getElem?_set_ne (by omega), ← m1] at m2
  exact hc m2.symm
theorem set_cut (l : List UInt8) (k : Nat) (h : k < l.length) (c : UInt8) : l.take k ++ [c] ++ l.drop (k + 1) = l.set k c := by
  rw [List.set_eq_take_append_cons_drop, if_pos h, List.append_assoc]
  rfl
theorem back_j1 (k : Nat) (c x : Int) (l : List UInt8) (h : l.length = 64) (he : footNum l = headNum l) (hx : (0 ≤ x ∧ x < 8) ∨ (56 ≤ x ∧ x < 64)) (h0 : 0 ≤ c) (h1 : c < 256)
    (hh : quittancelaw02_head.f k = some true) : quittancelaw02_LeafBack.j1 (k + 1) c (B l) x = some true := by
  obtain ⟨i, rfl⟩ : ∃ i : Nat, x = i := ⟨x.toNat, by omega⟩
  have hi : i < l.length := by omega
  rw [quittancelaw02_LeafBack.j1]
  rw [if_pos (by omega), if_pos (by rw [B_size]; omega), hh, bt_B]
  simp only [Int.toNat_natCast]
  by_cases hc : ((l.getD i 0).toNat : Int) = c
  · rw [if_pos hc]
    rfl
  · rw [if_neg hc, if_pos (by rw [B_size]; omega)]
    rw [show ((some ([c] : List Int) : Option (List Int)).bind) = fun f => f [c] from rfl]
    simp only []
    have hcc : l.getD i 0 ≠ UInt8.ofNat c.toNat := by
      intro e
      refine hc ?_
      rw [e]
      simp
      omega
    have hw : wrap64 ((i : Int) + 1) = ((i + 1 : Nat) : Int) := by rw [wrap64_in' _ (by omega) (by omega)]; rfl
    rw [strOf_one c h0 h1, B_extract, hw]
    simp only [Int.toNat_natCast]
    rw [B_extract, B_append, B_append, B_size, B_size, B_size, B_size, B_size, Nat.sub_zero, List.drop_zero, List.take_of_length_le (l := l.drop (i + 1)) (by rw [List.length_drop]; omega), set_cut l i hi]
    rw [get_changed l h he i (by omega) _ hcc]
    rw [if_pos (by simp; omega), if_pos (by omega), if_pos (by omega), if_pos (by simp; omega)]
    rfl
theorem at_sixteen (a : Int) (h0 : 0 ≤ a) (h1 : a < 256) : (if (wrap64 (Int.tmod a 16)) ≥ 8 then (56 ≤ wrap64 ((wrap64 (Int.tmod a 16)) + 48) ∧ wrap64 ((wrap64 (Int.tmod a 16)) + 48) < 64) else (0 ≤ wrap64 (Int.tmod a 16) ∧ wrap64 (Int.tmod a 16) < 8)) := by
  have e : Int.tmod a 16 = a % 16 := Int.tmod_eq_emod_of_nonneg h0
  rw [e]
  have e2 : wrap64 (a % 16) = a % 16 := wrap64_in' _ (by omega) (by omega)
  rw [e2]
  by_cases h : a % 16 ≥ 8
  · rw [if_pos h, wrap64_in' _ (by omega) (by omega)]
    omega
  · rw [if_neg h]
    omega
theorem back_j0 (k : Nat) (c : Int) (l : List UInt8) (a n : Int) (t : ByteArray) (h : l.length = 64) (he : footNum l = headNum l) (ha0 : 0 ≤ a) (ha1 : a < 256) (h0 : 0 ≤ c) (h1 : c < 256)
    (hh : quittancelaw02_head.f k = some true) : quittancelaw02_LeafBack.j0 (k + 1 + 1) c (B l) false n t a c = some true := by
  rw [quittancelaw02_LeafBack.j0, if_neg (by decide)]
  have h16 := at_sixteen a ha0 ha1
  by_cases h8 : (wrap64 (Int.tmod a 16)) ≥ 8
  · rw [if_pos h8] at h16 ⊢
    exact back_j1 k c _ l h he (Or.inr h16) h0 h1 hh
  · rw [if_neg h8] at h16 ⊢
    exact back_j1 k c _ l h he (Or.inl h16) h0 h1 hh
theorem LeafBack (n : Int) (s : ByteArray) (a c : Int) (hn0 : 0 ≤ n) (hn1 : n < 18446744073709551616) (ha0 : 0 ≤ a) (ha1 : a < 256) (hc0 : 0 ≤ c) (hc1 : c < 256) : quittancelaw02_LeafBack.f 60 n s a c = some true := by
  obtain ⟨l, rfl, _⟩ := B_ex s
  unfold quittancelaw02_LeafBack.f
  rw [head02b 60 (by decide)]
  by_cases h0 : n = 0
  · subst h0
    rw [leafPut_zero]
    simp only [Option.bind_some]
    rw [if_neg (by decide), if_pos trivial, if_pos (by rw [B_toList])]
  · by_cases hs : 48 < (B l).size
    · rw [leafPut_long n _ h0 hs]
      simp only [Option.bind_some]
      rw [if_neg (by decide), if_neg h0, if_pos (by omega), if_pos (by rw [B_toList])]
    · obtain ⟨m, rfl⟩ : ∃ m : Nat, n = m := ⟨n.toNat, by omega⟩
      rw [B_size] at hs
      have hl : l.length ≤ 48 := by omega
      have hm : m < 18446744073709551616 := by omega
      have hm0 : m ≠ 0 := by omega
      rw [leafPut m l hm0 hm hl]
      have e : be8 m ++ full l ++ le8 m = leafOf m l := rfl
      rw [e]
      simp only [Option.bind_some, if_true]
      rw [get_leafOf m l hm0 hl hm, ends_leafOf m l hl hm, Full_f l hl (by decide)]
      simp only [Option.bind_some, if_true]
      have hz : (((B (leafOf m l)).size : Int) != 64) = false := by rw [B_size, leafOf_length m l hl]; rfl
      rw [hz]
      exact back_j0 58 c _ a _ _ (leafOf_length m l hl) (by rw [leafOf_foot m l hl hm, leafOf_head m l hl hm]) ha0 ha1 hc0 hc1 (head02b 58 (by decide))
end Go.Proofs.Ytfelfllgieclbaa.Pure
