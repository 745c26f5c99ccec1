/- TallyBack: an item that was put is taken off again unchanged, and what stood behind it is left. No condition. -/
import Derived.Test.YtfjjngipjabfpaaRows
import Derived.Test.YtfjjngipjabfpaaO1
import Derived.Test.YtfjjngipjabfpaaO2
import Derived.Test.YtfjjngipjabfpaaPureTallyBack
import Derived.WalkKit
import Derived.ProofKit
import Derived.OpenShut
import Derived.ChangeOld
import Derived.Below
import Derived.SizedLaws
-- BY genrow.py (wip/tools), and the reading of the argument
namespace Go.Proofs.Ytfjjngipjabfpaa.tallyBack
open Go Go.ChangeShapes Go.WideShapes Go.ChangeAt Go.RowKit Go.Proofs.Ytfjjngipjabfpaa.Op Go.Proofs.Ytfjjngipjabfpaa.Q Go.Proofs.Ytfjjngipjabfpaa.Pure Go.Proofs.YtfjjngipjabfpaaW.PrintWords Go.Proofs.YtfjjngipjabfpaaW.PrintLast Go.Proofs.YtfjjngipjabfpaaW.PrintMore
set_option linter.unusedVariables false
set_option linter.unusedSimpArgs false
theorem own : ownKnob Try.prog.godebug = none := by kernel_rfl
theorem laidOut_ : laidOutB Try.prog = true := by kernel_rfl
set_option maxRecDepth 100000 in
theorem args_calls : ArgsCall 5 48 := by
  intro H enc W base v d p hv ht
  obtain ⟨a, b, s, A, c, l, r, rfl, a0, a1, b0, b1, hl, hc, hC⟩ := item_open hv ht
  exact quittancelaw01_TallyBack.calls _ a b s A c l r true W hC hc (TallyBack a b s l r a0 a1 b0 b1 hl) rfl
set_option maxRecDepth 100000 in
theorem lifted (os : Os) (started : os.Started) (H : Type) (enc : TypeId × Value → H) :
    ReturnsInHanded {} Try.checked os 5 .any (Rows.tallyBackSpec.pre6 enc Try.prog Try.f5 Rows.tallyBackRow.domain false) (Rows.tallyBackSpec.post enc Try.prog Try.f5 false true false false) := by
  refine returnsInHanded_of_change_sized (C := Try.checked) own started (by kernel_rfl) Try.func5
    (ChangeSpec.witness6 (enc := enc) (C := Try.checked) false ⟨#[], #[.agg #[.int .u64 0, .int .i64 0, .string ByteArray.empty, .slice none 0 0, .string ByteArray.empty]], []⟩ 8 (by kernel_rfl) (by kernel_rfl) (by kernel_rfl) (by kernel_rfl)) ?_
  intro W base args ds gs before hval0 hW hcnd hsz0 _
  have hval : ∀ (j : Nat) t v, Try.f5.params[j]? = some t → args[j]? = some v → Value.okWide Try.prog W .any base t v := hval0
  have hW' := hW
  obtain ⟨p, q, hA0, hV, rfl, hfz, hnd⟩ := hW
  have hA : DataW.TrodAll enc Try.prog W 0 (fun _ => true) true Try.f5.params.toList args.toList ds p := hA0
  rw [Try.params5] at hA hval
  obtain ⟨v0, vs0, d0, ds0, p0, q0, hargs, rfl, rfl, h0, r0⟩ := trodAll_cons hA
  obtain ⟨rfl, rfl, rfl⟩ := trodAll_nil r0
  obtain rfl : args = #[v0] := by cases args; simp_all
  obtain ⟨rfl, rfl⟩ := trodVars_none hV
  have hlt0 : ∀ x ∈ p0, x.block < W.heap.size := fun x hx => by simpa using hW'.lt x (by simp [hx])
  have hv0 := hval 0 _ v0 rfl rfl
  clear hA0 hval0 hsz0
  refine (args_calls H enc W base v0 d0 p0 hv0 h0).mono fun e W' ⟨he, bel⟩ => ?_
  subst he
  exact ⟨_, rfl, _, _, _, [], _, [], hW', trodAll_mk1 (shut_bool Try.underlying4 _), (trodAll_cons_mk (Below.trod laidOut_ (by kernel_rfl) (of_decide_eq_true (by kernel_rfl)) h0 bel hlt0) trodAll_mk0), rfl, bel.frame _, fun h => by cases h⟩
theorem named : Try.prog.funcNamed Rows.tallyBackRow.func = some 5 := by kernel_rfl
theorem closed : joinedFacts Try.prog 5 Try.f5 Rows.tallyBackSpec Rows.tallyBackRow = true := by kernel_rfl
theorem over : Rows.tallyBackRow.holds Try.pinned (OpenSpec.ofChange Rows.tallyBackSpec) :=
  OpenClaim.holds_of_wide 5 Try.f5 rfl rfl rfl rfl rfl rfl rfl ⟨rfl, rfl, rfl, rfl, rfl⟩ rfl rfl rfl rfl rfl named Try.func5 closed
    (of_decide_eq_true (by kernel_rfl)) (by unfold Func.isWrapper; first | (rw [if_pos (by decide +kernel)]; kernel_rfl) | (rw [if_neg (by decide +kernel)]; exact ⟨rfl, rfl⟩))
    (fun os started H enc _ => lifted os started H enc)
theorem proved : Rows.TallyBackSaid := over
#print axioms proved
end Go.Proofs.Ytfjjngipjabfpaa.tallyBack
namespace Go.Proofs.Ytfjjngipjabfpaa
/-- The row, under a short name, for the claim. -/
theorem tallyBack_holds : Rows.TallyBackSaid := tallyBack.proved
end Go.Proofs.Ytfjjngipjabfpaa
