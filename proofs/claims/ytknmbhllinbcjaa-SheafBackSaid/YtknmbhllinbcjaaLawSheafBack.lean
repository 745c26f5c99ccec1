/- SheafBack: a sheaf that was put is got back whatever sectors follow, too few sectors give none, and what was got gives, put again, the first sectors. No condition. -/
import Derived.Test.YtknmbhllinbcjaaRows
import Derived.Test.YtknmbhllinbcjaaOA
import Derived.Test.YtknmbhllinbcjaaPureSheafBack
import Derived.WalkKit
import Derived.ProofKit
import Derived.OpenShut
import Derived.ChangeOld
import Derived.Below
import Derived.SizedLaws
-- BY genrow.py (wip/tools), and the reading of the argument
namespace Go.Proofs.Ytknmbhllinbcjaa.sheafBack
open Go Go.ChangeShapes Go.WideShapes Go.ChangeAt Go.RowKit Go.Proofs.Ytknmbhllinbcjaa.Op Go.Proofs.Ytknmbhllinbcjaa.Q Go.Proofs.Ytknmbhllinbcjaa.Pure Go.Proofs.YtknmbhllinbcjaaW.PrintWords Go.Proofs.YtknmbhllinbcjaaW.PrintLast Go.Proofs.YtknmbhllinbcjaaW.PrintMore
set_option linter.unusedVariables false
set_option linter.unusedSimpArgs false
theorem own : ownKnob Try.prog.godebug = none := by kernel_rfl
theorem laidOut_ : laidOutB Try.prog = true := by kernel_rfl
set_option maxRecDepth 100000 in
theorem args_calls : ArgsCall3 5 22 9 24 := by
  intro H enc W base v v1 v2 d d1 d2 p p1 p2 hv hv1 hv2 ht ht1 ht2
  obtain ⟨a, len, cap, rfl⟩ := okWide_slice Try.underlying24 hv2
  obtain ⟨a0, rfl, rfl, rfl, w0⟩ := open_int Try.underlying22 hv ht
  obtain ⟨a1, rfl, rfl, rfl, y1⟩ := Go.ChangeMaps.open_string Try.underlying9 hv1 ht1
  obtain ⟨n, hf⟩ := ht2
  obtain ⟨l, hK, hl, hok⟩ := opens_slice (e' := 9) Try.underlying24 (opens_string Try.underlying9) (by kernel_rfl) _ _ _ _ _ _ _ _ _ hf
  obtain ⟨A, c, e, hc, hC⟩ := hK
  have e2 : [Value.slice a len cap] = [Value.slice A l.length c] := e
  obtain ⟨rfl, rfl, rfl⟩ := Value.slice.inj (List.cons.inj e2).1
  obtain ⟨h0a, h0b⟩ := wf_u64 w0
  exact quittancelaw04_SheafBack.calls _ a0 a1 _ _ l true W hC hc (SheafBack a0 a1 l h0a h0b hl)
set_option maxRecDepth 100000 in
theorem lifted (os : Os) (started : os.Started) (H : Type) (enc : TypeId × Value → H) :
    ReturnsInHanded {} Try.checked os 5 .any (Rows.sheafBackSpec.pre6 enc Try.prog Try.f5 Rows.sheafBackRow.domain false) (Rows.sheafBackSpec.post enc Try.prog Try.f5 false true false false) := by
  refine returnsInHanded_of_change_sized (C := Try.checked) own started (by kernel_rfl) Try.func5
    (ChangeSpec.witness6 (enc := enc) (C := Try.checked) false ⟨#[], #[.int .u64 0, .string ByteArray.empty, .slice none 0 0], []⟩ 8 (by kernel_rfl) (by kernel_rfl) (by kernel_rfl) (by kernel_rfl)) ?_
  intro W base args ds gs before hval0 hW hcnd hsz0 _
  have hval : ∀ (j : Nat) t v, Try.f5.params[j]? = some t → args[j]? = some v → Value.okWide Try.prog W .any base t v := hval0
  have hW' := hW
  obtain ⟨p, q, hA0, hV, rfl, hfz, hnd⟩ := hW
  have hA : DataW.TrodAll enc Try.prog W 0 (fun _ => true) true Try.f5.params.toList args.toList ds p := hA0
  rw [Try.params5] at hA hval
  obtain ⟨v0, vs0, d0, ds0, p0, q0, hargs, rfl, rfl, h0, r0⟩ := trodAll_cons hA
  obtain ⟨v1, vs1, d1, ds1, p1, q1, hargs1, rfl, rfl, h1, r1⟩ := trodAll_cons r0
  obtain ⟨v2, vs2, d2, ds2, p2, q2, hargs2, rfl, rfl, h2, r2⟩ := trodAll_cons r1
  obtain ⟨rfl, rfl, rfl⟩ := trodAll_nil r2
  subst hargs1
  subst hargs2
  obtain rfl : args = #[v0, v1, v2] := by cases args; simp_all
  obtain ⟨rfl, rfl⟩ := trodVars_none hV
  have hlt0 : ∀ x ∈ p0, x.block < W.heap.size := fun x hx => by simpa using hW'.lt x (by simp [hx])
  have hlt1 : ∀ x ∈ p1, x.block < W.heap.size := fun x hx => by simpa using hW'.lt x (by simp [hx])
  have hlt2 : ∀ x ∈ p2, x.block < W.heap.size := fun x hx => by simpa using hW'.lt x (by simp [hx])
  have hv0 := hval 0 _ v0 rfl rfl
  have hv1 := hval 1 _ v1 rfl rfl
  have hv2 := hval 2 _ v2 rfl rfl
  clear hA0 hval0 hsz0
  refine (args_calls H enc W base v0 v1 v2 d0 d1 d2 p0 p1 p2 hv0 hv1 hv2 h0 h1 h2).mono fun e W' ⟨he, bel⟩ => ?_
  subst he
  exact ⟨_, rfl, _, _, _, [], _, [], hW', trodAll_mk1 (shut_bool Try.underlying4 _), (trodAll_cons_mk (Below.trod laidOut_ (by kernel_rfl) (of_decide_eq_true (by kernel_rfl)) h0 bel hlt0) (trodAll_cons_mk (Below.trod laidOut_ (by kernel_rfl) (of_decide_eq_true (by kernel_rfl)) h1 bel hlt1) (trodAll_cons_mk (Below.trod laidOut_ (by kernel_rfl) (of_decide_eq_true (by kernel_rfl)) h2 bel hlt2) trodAll_mk0))), rfl, bel.frame _, fun h => by cases h⟩
theorem named : Try.prog.funcNamed Rows.sheafBackRow.func = some 5 := by kernel_rfl
theorem closed : joinedFacts Try.prog 5 Try.f5 Rows.sheafBackSpec Rows.sheafBackRow = true := by kernel_rfl
theorem over : Rows.sheafBackRow.holds Try.pinned (OpenSpec.ofChange Rows.sheafBackSpec) :=
  OpenClaim.holds_of_wide 5 Try.f5 rfl rfl rfl rfl rfl rfl rfl ⟨rfl, rfl, rfl, rfl, rfl⟩ rfl rfl rfl rfl rfl named Try.func5 closed
    (of_decide_eq_true (by kernel_rfl)) (by unfold Func.isWrapper; first | (rw [if_pos (by decide +kernel)]; kernel_rfl) | (rw [if_neg (by decide +kernel)]; exact ⟨rfl, rfl⟩))
    (fun os started H enc _ => lifted os started H enc)
theorem proved : Rows.SheafBackSaid := over
#print axioms proved
end Go.Proofs.Ytknmbhllinbcjaa.sheafBack
namespace Go.Proofs.Ytknmbhllinbcjaa
/-- The row, under a short name, for the claim. -/
theorem sheafBack_holds : Rows.SheafBackSaid := sheafBack.proved
end Go.Proofs.Ytknmbhllinbcjaa
