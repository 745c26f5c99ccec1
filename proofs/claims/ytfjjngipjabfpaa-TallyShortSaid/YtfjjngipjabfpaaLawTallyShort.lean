/- TallyShort: off a true beginning of the bytes of an item no item of its kind can be taken. No condition. -/
import Derived.Test.YtfjjngipjabfpaaRows
import Derived.Test.YtfjjngipjabfpaaO1
import Derived.Test.YtfjjngipjabfpaaO2
import Derived.Test.YtfjjngipjabfpaaPureTallyShort
import Derived.WalkKit
import Derived.ProofKit
import Derived.OpenShut
import Derived.ChangeOld
import Derived.Below
import Derived.SizedLaws
-- BY genrow.py (wip/tools), and the reading of the argument
namespace Go.Proofs.Ytfjjngipjabfpaa.tallyShort
open Go Go.ChangeShapes Go.WideShapes Go.ChangeAt Go.RowKit Go.Proofs.Ytfjjngipjabfpaa.Op Go.Proofs.Ytfjjngipjabfpaa.Q Go.Proofs.Ytfjjngipjabfpaa.Pure Go.Proofs.YtfjjngipjabfpaaW.PrintWords Go.Proofs.YtfjjngipjabfpaaW.PrintLast Go.Proofs.YtfjjngipjabfpaaW.PrintMore
set_option linter.unusedVariables false
set_option linter.unusedSimpArgs false
theorem own : ownKnob Try.prog.godebug = none := by kernel_rfl
theorem laidOut_ : laidOutB Try.prog = true := by kernel_rfl
theorem wf_u32 {n : Int} (h : (Lit.int .u32 n).wf = true) : 0 ≤ n ∧ n < 4294967296 := by
  simp [Lit.wf, IntKind.min, IntKind.max, IntKind.signed, IntKind.bits] at h
  omega
set_option maxRecDepth 100000 in
theorem args_calls : ArgsCall2 7 48 28 := by
  intro H enc W base v v1 d d1 p p1 hv hv1 ht ht1
  obtain ⟨a, b, s, A, c, l, r, rfl, a0, a1, b0, b1, hl, hc, hC⟩ := item_open hv ht
  obtain ⟨cut, rfl, _, _, w1⟩ := open_int Try.underlying28 hv1 ht1
  obtain ⟨c0, c1⟩ := wf_u32 w1
  exact quittancelaw01_TallyShort.calls _ a b s A c l r cut true W hC hc (TallyShort a b s l r cut a0 a1 b0 b1 hl c0 c1)
set_option maxRecDepth 100000 in
theorem lifted (os : Os) (started : os.Started) (H : Type) (enc : TypeId × Value → H) :
    ReturnsInHanded {} Try.checked os 7 .any (Rows.tallyShortSpec.pre6 enc Try.prog Try.f7 Rows.tallyShortRow.domain false) (Rows.tallyShortSpec.post enc Try.prog Try.f7 false true false false) := by
  refine returnsInHanded_of_change_sized (C := Try.checked) own started (by kernel_rfl) Try.func7
    (ChangeSpec.witness6 (enc := enc) (C := Try.checked) false ⟨#[], #[.agg #[.int .u64 0, .int .i64 0, .string ByteArray.empty, .slice none 0 0, .string ByteArray.empty], .int .u32 0], []⟩ 8 (by kernel_rfl) (by kernel_rfl) (by kernel_rfl) (by kernel_rfl)) ?_
  intro W base args ds gs before hval0 hW hcnd hsz0 _
  have hval : ∀ (j : Nat) t v, Try.f7.params[j]? = some t → args[j]? = some v → Value.okWide Try.prog W .any base t v := hval0
  have hW' := hW
  obtain ⟨p, q, hA0, hV, rfl, hfz, hnd⟩ := hW
  have hA : DataW.TrodAll enc Try.prog W 0 (fun _ => true) true Try.f7.params.toList args.toList ds p := hA0
  rw [Try.params7] at hA hval
  obtain ⟨v0, vs0, d0, ds0, p0, q0, hargs, rfl, rfl, h0, r0⟩ := trodAll_cons hA
  obtain ⟨v1, vs1, d1, ds1, p1, q1, hargs1, rfl, rfl, h1, r1⟩ := trodAll_cons r0
  obtain ⟨rfl, rfl, rfl⟩ := trodAll_nil r1
  subst hargs1
  obtain rfl : args = #[v0, v1] := by cases args; simp_all
  obtain ⟨rfl, rfl⟩ := trodVars_none hV
  have hlt0 : ∀ x ∈ p0, x.block < W.heap.size := fun x hx => by simpa using hW'.lt x (by simp [hx])
  have hlt1 : ∀ x ∈ p1, x.block < W.heap.size := fun x hx => by simpa using hW'.lt x (by simp [hx])
  have hv0 := hval 0 _ v0 rfl rfl
  have hv1 := hval 1 _ v1 rfl rfl
  clear hA0 hval0 hsz0
  refine (args_calls H enc W base v0 v1 d0 d1 p0 p1 hv0 hv1 h0 h1).mono fun e W' ⟨he, bel⟩ => ?_
  subst he
  exact ⟨_, rfl, _, _, _, [], _, [], hW', trodAll_mk1 (shut_bool Try.underlying4 _), (trodAll_cons_mk (Below.trod laidOut_ (by kernel_rfl) (of_decide_eq_true (by kernel_rfl)) h0 bel hlt0) (trodAll_cons_mk (Below.trod laidOut_ (by kernel_rfl) (of_decide_eq_true (by kernel_rfl)) h1 bel hlt1) trodAll_mk0)), rfl, bel.frame _, fun h => by cases h⟩
theorem named : Try.prog.funcNamed Rows.tallyShortRow.func = some 7 := by kernel_rfl
theorem closed : joinedFacts Try.prog 7 Try.f7 Rows.tallyShortSpec Rows.tallyShortRow = true := by kernel_rfl
theorem over : Rows.tallyShortRow.holds Try.pinned (OpenSpec.ofChange Rows.tallyShortSpec) :=
  OpenClaim.holds_of_wide 7 Try.f7 rfl rfl rfl rfl rfl rfl rfl ⟨rfl, rfl, rfl, rfl, rfl⟩ rfl rfl rfl rfl rfl named Try.func7 closed
    (of_decide_eq_true (by kernel_rfl)) (by unfold Func.isWrapper; first | (rw [if_pos (by decide +kernel)]; kernel_rfl) | (rw [if_neg (by decide +kernel)]; exact ⟨rfl, rfl⟩))
    (fun os started H enc _ => lifted os started H enc)
theorem proved : Rows.TallyShortSaid := over
#print axioms proved
end Go.Proofs.Ytfjjngipjabfpaa.tallyShort
namespace Go.Proofs.Ytfjjngipjabfpaa
/-- The row, under a short name, for the claim. -/
theorem tallyShort_holds : Rows.TallyShortSaid := tallyShort.proved
end Go.Proofs.Ytfjjngipjabfpaa
