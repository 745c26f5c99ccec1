/- The law TopSplit, whatever it is handed; what a row asks of its function. -/
import Derived.Test.YtmjohabfikpahaaVK
import Derived.OpenShut
import Derived.ChangeArms
import Derived.ChangeSlices
import Derived.Deep.Slices
import Derived.Carry
import Derived.MapPlaces
set_option linter.unusedVariables false
namespace Go.Proofs.Ytmjohabfikpahaa
open Go Go.RowKit
theorem cell_lt {w : World} {b j : Nat} {v : Value} (h : w.cell? ⟨b, j, none⟩ = some v) : b < w.heap.size := by
  by_cases c : b < w.heap.size
  · exact c
  · have e : w.heap[b]? = none := by simp; omega
    unfold World.cell? at h
    rw [e] at h
    simp at h
theorem law_calls (t : Int) (A : Option Addr) (zs : List Int) (n c : Nat) (w : World) (hI : Ints w A zs) (hn : n = zs.length) (hz : ∀ z ∈ zs, I64 z) (hl : zs.length ≤ 9223372036854775807) :
    Calls Try.prog 3 #[.int .i64 t, .slice A n c] w fun e w' => e = .returned (.bool true) ∧ Below w.heap.size w w' := by
  by_cases h : Takes t zs
  · obtain ⟨T, rfl⟩ : ∃ T : Nat, t = (T : Int) := ⟨t.toNat, by have := h.2.1; omega⟩
    exact (law_taken T A zs n c w hI hn hz h).mono fun e w' ⟨h1, h2⟩ => ⟨h1, h2.below (Nat.le_refl _) (by simp)⟩
  · exact (law_refused t A zs n c w hI hn hz hl h).mono fun e w' ⟨h1, h2⟩ => ⟨h1, h2.below (Nat.le_refl _) (by simp)⟩
theorem wf_I64 {n : Int} (h : (Lit.int .i64 n).wf = true) : I64 n := by
  simp [Lit.wf, IntKind.min, IntKind.max, IntKind.signed, IntKind.bits] at h
  unfold I64
  omega
theorem ints_of {w : World} {a : Addr} {zs : List Int} (h : ∀ i, i < zs.length → w.cell? (a.add i) = some (.int .i64 (zs.getD i 0))) (m : Nat) (hm : m ≤ zs.length) : Ints w (some a) (zs.take m) := fun h0 => by
  rw [List.length_take] at h0
  obtain ⟨b, off, rfl, hc⟩ := Go.ints_at h (by omega)
  refine ⟨b, off, rfl, cell_lt (hc 0 (by omega)), fun j hj => ?_⟩
  rw [List.length_take] at hj
  rw [hc j (by omega)]
  congr 2
  rw [List.getD_eq_getElem?_getD, List.getD_eq_getElem?_getD, List.getElem?_take_of_lt (by omega)]
namespace Op
open Go Go.RowKit Go.ChangeShapes Go.WideShapes
def ArgsCall2 (f : FuncId) (t t1 : TypeId) : Prop :=
  ∀ (H : Type) (enc : TypeId × Value → H) (W : World) (base : Nat) (v v1 : Value) (d d1 : DataW H) (p p1 : List MemPlace), Value.okWide Try.prog W .any base t v → Value.okWide Try.prog W .any base t1 v1 →
    DataW.Trod enc Try.prog W 0 (fun _ => true) true t v d p → DataW.Trod enc Try.prog W 0 (fun _ => true) true t1 v1 d1 p1 → Calls Try.prog f #[v, v1] W fun e w' => e = .returned (.bool true) ∧ Below W.heap.size W w'
end Op
end Go.Proofs.Ytmjohabfikpahaa
