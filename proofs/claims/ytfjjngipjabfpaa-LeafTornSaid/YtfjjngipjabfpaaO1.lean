/- What a law's row asks of its function, of one argument. -/
import Derived.Test.YtfjjngipjabfpaaO0
namespace Go.Proofs.Ytfjjngipjabfpaa.Op
open Go Go.RowKit Go.ChangeShapes Go.WideShapes Go.Proofs.YtfjjngipjabfpaaW.PrintWords Go.Proofs.YtfjjngipjabfpaaW.PrintLast Go.Proofs.YtfjjngipjabfpaaW.PrintMore
def ArgsCall (f : FuncId) (t : TypeId) : Prop :=
  ∀ (H : Type) (enc : TypeId × Value → H) (W : World) (base : Nat) (v : Value) (d : DataW H) (p : List MemPlace), Value.okWide Try.prog W .any base t v →
    DataW.Trod enc Try.prog W 0 (fun _ => true) true t v d p → Calls Try.prog f #[v] W fun e w' => e = .returned (.bool true) ∧ Below W.heap.size W w'
def ArgsCall2 (f : FuncId) (t t1 : TypeId) : Prop :=
  ∀ (H : Type) (enc : TypeId × Value → H) (W : World) (base : Nat) (v v1 : Value) (d d1 : DataW H) (p p1 : List MemPlace), Value.okWide Try.prog W .any base t v → Value.okWide Try.prog W .any base t1 v1 →
    DataW.Trod enc Try.prog W 0 (fun _ => true) true t v d p → DataW.Trod enc Try.prog W 0 (fun _ => true) true t1 v1 d1 p1 → Calls Try.prog f #[v, v1] W fun e w' => e = .returned (.bool true) ∧ Below W.heap.size W w'
theorem agg_toList {cs : Array Value} {l : List Value} (h : (Value.agg cs).cells.toList = l) : Value.agg cs = .agg ⟨l⟩ := by
  have : (Value.agg cs).cells = cs := rfl
  rw [this] at h
  rw [← h]
end Go.Proofs.Ytfjjngipjabfpaa.Op
