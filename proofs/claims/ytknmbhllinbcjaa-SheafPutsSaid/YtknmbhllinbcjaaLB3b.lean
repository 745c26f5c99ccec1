/- LeafBack: a leaf that was put is got back; each byte of its ends counts. -/
import Derived.Test.YtknmbhllinbcjaaLB3
import Derived.Test.YtknmbhllinbcjaaLB3
set_option linter.unusedVariables false
set_option linter.unusedSimpArgs false
namespace Go.Proofs.Ytknmbhllinbcjaa.Pure
open Go Go.RowKit Go.Proofs.Ytknmbhllinbcjaa.Q Go.Proofs.YtknmbhllinbcjaaW.PrintWords Go.Proofs.YtknmbhllinbcjaaW.PrintLast
def leafOf (n : Nat) (l : List UInt8) : List UInt8 := be8 n ++ full l ++ le8 n
theorem leafOf_length (n : Nat) (l : List UInt8) (h : l.length ≤ 48) : (leafOf n l).length = 64 := by
  unfold leafOf; rw [List.length_append, List.length_append, be8_length, le8_length, full_length l h]
theorem leafOf_take (n : Nat) (l : List UInt8) : (leafOf n l).take 8 = be8 n := by
  unfold leafOf; rw [List.append_assoc, List.take_append_of_le_length (by rw [be8_length]; exact Nat.le_refl _), List.take_of_length_le (by rw [be8_length]; exact Nat.le_refl _)]
theorem leafOf_drop8 (n : Nat) (l : List UInt8) (h : l.length ≤ 48) : ((leafOf n l).drop 8).take 48 = full l := by
  unfold leafOf; rw [List.append_assoc, List.drop_append_of_le_length (by rw [be8_length]; exact Nat.le_refl _), List.drop_of_length_le (by rw [be8_length]; exact Nat.le_refl _), List.nil_append,
    List.take_append_of_le_length (by rw [full_length l h]; exact Nat.le_refl _), List.take_of_length_le (by rw [full_length l h]; exact Nat.le_refl _)]
theorem leafOf_drop56 (n : Nat) (l : List UInt8) (h : l.length ≤ 48) : (leafOf n l).drop 56 = le8 n := by
  unfold leafOf
  have h1 : (be8 n ++ full l).length = 56 := by rw [List.length_append, be8_length, full_length l h]
  rw [List.drop_append_of_le_length (by omega), List.drop_of_length_le (by omega), List.nil_append]
theorem leafOf_head (n : Nat) (l : List UInt8) (h : l.length ≤ 48) (hn : n < 18446744073709551616) : headNum (leafOf n l) = n := by
  rw [headNum_eq _ (leafOf_length n l h), leafOf_take, numB_be8 n hn]
theorem leafOf_foot (n : Nat) (l : List UInt8) (h : l.length ≤ 48) (hn : n < 18446744073709551616) : footNum (leafOf n l) = n := by
  rw [footNum_eq _ (leafOf_length n l h), leafOf_drop56 n l h]
  exact numB_be8 n hn
theorem get_leafOf (n : Nat) (l : List UInt8) (h0 : n ≠ 0) (h : l.length ≤ 48) (hn : n < 18446744073709551616) : leaf_Get.f (B (leafOf n l)) = some ((n : Int), B (full l), true) := by
  unfold leaf_Get.f
  rw [B_size, B_data, if_pos ⟨leafOf_length n l h, by rw [leafOf_head n l h hn]; exact h0, by rw [leafOf_head n l h hn, leafOf_foot n l h hn]⟩, leafOf_head n l h hn, B_extract, leafOf_drop8 n l h]
theorem ends_leafOf (n : Nat) (l : List UInt8) (h : l.length ≤ 48) (hn : n < 18446744073709551616) : leaf_Ends.f (B (leafOf n l)) = some ((n : Int), (n : Int)) := by
  unfold leaf_Ends.f
  rw [B_size, B_data, if_pos (leafOf_length n l h), leafOf_head n l h hn, leafOf_foot n l h hn]
end Go.Proofs.Ytknmbhllinbcjaa.Pure
