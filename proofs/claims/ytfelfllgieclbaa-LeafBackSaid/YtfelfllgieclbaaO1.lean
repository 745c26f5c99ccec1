/- What a law's row asks of its function, of one argument. -/
import Derived.Test.YtfelfllgieclbaaO0
namespace Go.Proofs.Ytfelfllgieclbaa.Op
open Go Go.RowKit Go.ChangeShapes Go.WideShapes Go.Proofs.YtfelfllgieclbaaW.PrintWords Go.Proofs.YtfelfllgieclbaaW.PrintLast Go.Proofs.YtfelfllgieclbaaW.PrintMore
def ArgsCall (f : FuncId) (t : TypeId) : Prop :=
  ∀ (H : Type) (enc : TypeId × Value → H) (W : World) (base : Nat) (v : Value) (d : DataW H) (p : List MemPlace), Value.okWide Try.prog W .any base t v →
    DataW.Trod enc Try.prog W 0 (fun _ => true) true t v d p → Calls Try.prog f #[v] W fun e w' => e = .returned (.bool true) ∧ Below W.heap.size W w'
theorem agg_toList {cs : Array Value} {l : List Value} (h : (Value.agg cs).cells.toList = l) : Value.agg cs = .agg ⟨l⟩ := by
  have : (Value.agg cs).cells = cs := rfl
  rw [this] at h
  rw [← h]
end Go.Proofs.Ytfelfllgieclbaa.Op
