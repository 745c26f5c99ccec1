/- Plain lemmas on byte strings as lists. No condition beyond each lemma's own. -/
import Derived.Test.YtlafanbilodafaaQ0
set_option linter.unusedVariables false
set_option linter.unusedSimpArgs false
namespace Go.Proofs.Ytlafanbilodafaa
open Go Go.RowKit Go.Proofs.YtlafanbilodafaaW.PrintWords
/-- A string of these bytes. -/
def B (l : List UInt8) : ByteArray := ⟨l.toArray⟩
theorem B_ex (s : ByteArray) : ∃ l, s = B l ∧ s.data.toList = l := ⟨s.data.toList, by simp [B], rfl⟩
theorem B_data (l : List UInt8) : (B l).data.toList = l := by simp [B]
theorem B_size (l : List UInt8) : (B l).size = l.length := by simp [B, ByteArray.size]
theorem B_toList (l : List UInt8) : (B l).toList = l := by unfold B; exact ByteArray.toList_mk l
theorem B_inj {l m : List UInt8} (h : B l = B m) : l = m := by have := congrArg (fun s => s.data.toList) h; simpa [B] using this
theorem B_append (l m : List UInt8) : B l ++ B m = B (l ++ m) := ByteArray.mk_append_mk l m
theorem B_extract (l : List UInt8) (a b : Nat) : (B l).extract a b = B ((l.drop a).take (b - a)) := ByteArray.extract_mk l a b
theorem B_nil : (⟨#[]⟩ : ByteArray) = B [] := rfl
theorem B_lit (l : List UInt8) : (ByteArray.mk l.toArray) = B l := rfl
theorem size_of_B {s : ByteArray} {l : List UInt8} (h : s.data.toList = l) : s.size = l.length := by rw [← h]; exact Array.length_toList.symm
theorem bt_B (l : List UInt8) (i : Int) : bt (B l) i = ((l.getD i.toNat 0).toNat : Int) := by
  unfold bt
  by_cases h : i.toNat < (B l).size
  · rw [dif_pos h]
    have h2 : i.toNat < l.length := by rw [B_size] at h; exact h
    congr 2
    rw [List.getD_eq_getElem?_getD, List.getElem?_eq_getElem h2]
    simp [B, ByteArray.getElem_eq_getElem_data]
  · rw [dif_neg h, List.getD_eq_getElem?_getD, List.getElem?_eq_none (by rw [B_size] at h; omega)]
    rfl
theorem strOf_one (x : Int) (h0 : 0 ≤ x) (h1 : x < 256) : strOfNums [x] = B [UInt8.ofNat x.toNat] := by
  simp [strOfNums, B]
theorem wrap64_in' (n : Int) (h0 : -9223372036854775808 ≤ n) (h1 : n < 9223372036854775808) : wrap64 n = n := by unfold wrap64; omega
end Go.Proofs.Ytlafanbilodafaa
