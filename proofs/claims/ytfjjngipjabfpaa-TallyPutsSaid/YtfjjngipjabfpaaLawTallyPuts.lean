/- TallyPuts: of every number, integer, text and row the bytes are those that the document gives. No condition. -/
import Derived.Test.YtfjjngipjabfpaaRows
import Derived.Test.YtfjjngipjabfpaaO1
import Derived.Test.YtfjjngipjabfpaaO2
import Derived.Test.YtfjjngipjabfpaaPureTallyPuts
import Derived.WalkKit
import Derived.ProofKit
import Derived.OpenShut
import Derived.ChangeOld
import Derived.Below
import Derived.SizedLaws
-- BY genrow.py (wip/tools), and the reading of the argument
namespace Go.Proofs.Ytfjjngipjabfpaa.tallyPuts
open Go Go.ChangeShapes Go.WideShapes Go.ChangeAt Go.RowKit Go.Proofs.Ytfjjngipjabfpaa.Op Go.Proofs.Ytfjjngipjabfpaa.Q Go.Proofs.Ytfjjngipjabfpaa.Pure Go.Proofs.YtfjjngipjabfpaaW.PrintWords Go.Proofs.YtfjjngipjabfpaaW.PrintLast Go.Proofs.YtfjjngipjabfpaaW.PrintMore
set_option linter.unusedVariables false
set_option linter.unusedSimpArgs false
theorem own : ownKnob Try.prog.godebug = none := by kernel_rfl
theorem laidOut_ : laidOutB Try.prog = true := by kernel_rfl
set_option maxRecDepth 100000 in
theorem args_calls : ArgsCall 9 48 := by
  intro H enc W base v d p hv ht
  obtain ⟨a, b, s, A, c, l, r, rfl, a0, a1, b0, b1, hl, hc, hC⟩ := item_open hv ht
  exact quittancelaw01_TallyPuts.calls _ a b s A c l r true W hC hc (TallyPuts a b s l r a0 a1 b0 b1 hl) rfl
set_option maxRecDepth 100000 in
theorem lifted (os : Os) (started : os.Started) (H : Type) (enc : TypeId × Value → H) :
    ReturnsInHanded {} Try.checked os 9 .any (Rows.tallyPutsSpec.pre6 enc Try.prog Try.f9 Rows.tallyPutsRow.domain false) (Rows.tallyPutsSpec.post enc Try.prog Try.f9 false true false false) := by
  refine returnsInHanded_of_change_sized (C := Try.checked) own started (by kernel_rfl) Try.func9
    (ChangeSpec.witness6 (enc := enc) (C := Try.checked) false ⟨#[], #[.agg #[.int .u64 0, .int .i64 0, .string ByteArray.empty, .slice none 0 0, .string ByteArray.empty]], []⟩ 8 (by kernel_rfl) (by kernel_rfl) (by kernel_rfl) (by kernel_rfl)) ?_
  intro W base args ds gs before hval0 hW hcnd hsz0 _
  have hval : ∀ (j : Nat) t v, Try.f9.params[j]? = some t → args[j]? = some v → Value.okWide Try.prog W .any base t v := hval0
  have hW' := hW
  obtain ⟨p, q, hA0, hV, rfl, hfz, hnd⟩ := hW
  have hA : DataW.TrodAll enc Try.prog W 0 (fun _ => true) true Try.f9.params.toList args.toList ds p := hA0
  rw [Try.params9] at hA hval
  obtain ⟨v0, vs0, d0, ds0, p0, q0, hargs, rfl, rfl, h0, r0⟩ := trodAll_cons hA
  obtain ⟨rfl, rfl, rfl⟩ := trodAll_nil r0
  obtain rfl : args = #[v0] := by cases args; simp_all
  obtain ⟨rfl, rfl⟩ := trodVars_none hV
  have hlt0 : ∀ x ∈ p0, x.block < W.heap.size := fun x hx => by simpa using hW'.lt x (by simp [hx])
  have hv0 := hval 0 _ v0 rfl rfl
  clear hA0 hval0 hsz0
  refine (args_calls H enc W base v0 d0 p0 hv0 h0).mono fun e W' ⟨he, bel⟩ => ?_
  subst he
  exact ⟨_, rfl, _, _, _, [], _, [], hW', trodAll_mk1 (shut_bool Try.underlying4 _), (trodAll_cons_mk (Below.trod laidOut_ (by kernel_rfl) (of_decide_eq_true (by kernel_rfl)) h0 bel hlt0) trodAll_mk0), rfl, bel.frame _, fun h => by cases h⟩
theorem named : Try.prog.funcNamed Rows.tallyPutsRow.func = some 9 := by kernel_rfl
theorem closed : joinedFacts Try.prog 9 Try.f9 Rows.tallyPutsSpec Rows.tallyPutsRow = true := by kernel_rfl
theorem over : Rows.tallyPutsRow.holds Try.pinned (OpenSpec.ofChange Rows.tallyPutsSpec) :=
  OpenClaim.holds_of_wide 9 Try.f9 rfl rfl rfl rfl rfl rfl rfl ⟨rfl, rfl, rfl, rfl, rfl⟩ rfl rfl rfl rfl rfl named Try.func9 closed
    (of_decide_eq_true (by kernel_rfl)) (by unfold Func.isWrapper; first | (rw [if_pos (by decide +kernel)]; kernel_rfl) | (rw [if_neg (by decide +kernel)]; exact ⟨rfl, rfl⟩))
    (fun os started H enc _ => lifted os started H enc)
theorem proved : Rows.TallyPutsSaid := over
#print axioms proved
end Go.Proofs.Ytfjjngipjabfpaa.tallyPuts
namespace Go.Proofs.Ytfjjngipjabfpaa
/-- The row, under a short name, for the claim. -/
theorem tallyPuts_holds : Rows.TallyPutsSaid := tallyPuts.proved
end Go.Proofs.Ytfjjngipjabfpaa
