/- SheafTorn: where beginnings of sheaves with growing stamps are written over sectors, what stands from any place on is of one writing, and a sheaf that was written whole is there. No condition. -/
import Derived.Test.YtknmbhllinbcjaaRows
import Derived.Test.YtknmbhllinbcjaaOA
import Derived.Test.YtknmbhllinbcjaaPureSheafTorn
import Derived.Test.YtknmbhllinbcjaaQ7
import Derived.WalkKit
import Derived.ProofKit
import Derived.OpenShut
import Derived.ChangeOld
import Derived.Below
import Derived.SizedLaws
-- BY genrow.py (wip/tools), and the reading of the argument
namespace Go.Proofs.Ytknmbhllinbcjaa.sheafTorn
open Go Go.ChangeShapes Go.WideShapes Go.ChangeAt Go.RowKit Go.Proofs.Ytknmbhllinbcjaa.Op Go.Proofs.Ytknmbhllinbcjaa.Q Go.Proofs.Ytknmbhllinbcjaa.Pure Go.Proofs.YtknmbhllinbcjaaW.PrintWords Go.Proofs.YtknmbhllinbcjaaW.PrintLast Go.Proofs.YtknmbhllinbcjaaW.PrintMore
set_option linter.unusedVariables false
set_option linter.unusedSimpArgs false
theorem own : ownKnob Try.prog.godebug = none := by kernel_rfl
theorem laidOut_ : laidOutB Try.prog = true := by kernel_rfl
theorem over_opens : Opens Try.prog 44 k44 (fun x => (Lit.int .u8 x.f0).wf = true ∧ (Lit.int .u16 x.f1).wf = true ∧ x.f3.length ≤ maxLen) := by
  have h3 := opensF_one (off := 3) (f := ⟨ "At", 42, 3, false, "", "", 24⟩) (opens_slice (e' := 3) Try.underlying42 (opens_int Try.underlying3) (by kernel_rfl)) rfl (by kernel_rfl)
  have h2 := opensF_cons (off := 2) (f := ⟨ "S", 9, 2, false, "", "", 8⟩) (opens_string Try.underlying9) rfl (by kernel_rfl) rfl h3
  have h1 := opensF_cons (off := 1) (f := ⟨ "More", 41, 1, false, "", "", 2⟩) (opens_int Try.underlying41) rfl (by kernel_rfl) rfl h2
  have h0 := opensF_cons (off := 0) (f := ⟨ "From", 5, 0, false, "", "", 0⟩) (opens_int Try.underlying5) rfl (by kernel_rfl) rfl h1
  have h := opens_struct Try.underlying44 h0 (by kernel_rfl)
  exact opens_mono (opens_iso h (fun x : S44 => (x.f0, x.f1, x.f2, x.f3)) (fun a => ⟨a.1, a.2.1, a.2.2.1, a.2.2.2⟩) (fun _ => rfl)) (fun a h => ⟨h.1, h.2.1, h.2.2.2.1⟩)
theorem wf_u8 {n : Int} (h : (Lit.int .u8 n).wf = true) : 0 ≤ n ∧ n < 256 := by
  simp [Lit.wf, IntKind.min, IntKind.max, IntKind.signed, IntKind.bits] at h
  omega
theorem wf_u16 {n : Int} (h : (Lit.int .u16 n).wf = true) : 0 ≤ n ∧ n < 65536 := by
  simp [Lit.wf, IntKind.min, IntKind.max, IntKind.signed, IntKind.bits] at h
  omega
set_option maxRecDepth 100000 in
theorem args_calls : ArgsCall 6 38 := by
  intro H enc W base v d p hv ht
  obtain ⟨a, len, cap, rfl⟩ := okWide_slice Try.underlying38 hv
  obtain ⟨n, hf⟩ := ht
  obtain ⟨l, hK, hl, hok⟩ := opens_slice (e' := 44) Try.underlying38 over_opens (by kernel_rfl) _ _ _ _ _ _ _ _ _ hf
  obtain ⟨A, c, e, hc, hC⟩ := hK
  have e2 : [Value.slice a len cap] = [Value.slice A l.length c] := e
  obtain ⟨rfl, rfl, rfl⟩ := Value.slice.inj (List.cons.inj e2).1
  exact quittancelaw04_SheafTorn.calls _ _ _ l true W hC hc (SheafTorn l hl (fun x hx => ⟨wf_u8 (hok x hx).1, wf_u16 (hok x hx).2.1, (hok x hx).2.2⟩)) rfl
set_option maxRecDepth 100000 in
theorem lifted (os : Os) (started : os.Started) (H : Type) (enc : TypeId × Value → H) :
    ReturnsInHanded {} Try.checked os 6 .any (Rows.sheafTornSpec.pre6 enc Try.prog Try.f6 Rows.sheafTornRow.domain false) (Rows.sheafTornSpec.post enc Try.prog Try.f6 false true false false) := by
  refine returnsInHanded_of_change_sized (C := Try.checked) own started (by kernel_rfl) Try.func6
    (ChangeSpec.witness6 (enc := enc) (C := Try.checked) false ⟨#[], #[.slice none 0 0], []⟩ 8 (by kernel_rfl) (by kernel_rfl) (by kernel_rfl) (by kernel_rfl)) ?_
  intro W base args ds gs before hval0 hW hcnd hsz0 _
  have hval : ∀ (j : Nat) t v, Try.f6.params[j]? = some t → args[j]? = some v → Value.okWide Try.prog W .any base t v := hval0
  have hW' := hW
  obtain ⟨p, q, hA0, hV, rfl, hfz, hnd⟩ := hW
  have hA : DataW.TrodAll enc Try.prog W 0 (fun _ => true) true Try.f6.params.toList args.toList ds p := hA0
  rw [Try.params6] at hA hval
  obtain ⟨v0, vs0, d0, ds0, p0, q0, hargs, rfl, rfl, h0, r0⟩ := trodAll_cons hA
  obtain ⟨rfl, rfl, rfl⟩ := trodAll_nil r0
  obtain rfl : args = #[v0] := by cases args; simp_all
  obtain ⟨rfl, rfl⟩ := trodVars_none hV
  have hlt0 : ∀ x ∈ p0, x.block < W.heap.size := fun x hx => by simpa using hW'.lt x (by simp [hx])
  have hv0 := hval 0 _ v0 rfl rfl
  clear hA0 hval0 hsz0
  refine (args_calls H enc W base v0 d0 p0 hv0 h0).mono fun e W' ⟨he, bel⟩ => ?_
  subst he
  exact ⟨_, rfl, _, _, _, [], _, [], hW', trodAll_mk1 (shut_bool Try.underlying4 _), (trodAll_cons_mk (Below.trod laidOut_ (by kernel_rfl) (of_decide_eq_true (by kernel_rfl)) h0 bel hlt0) trodAll_mk0), rfl, bel.frame _, fun h => by cases h⟩
theorem named : Try.prog.funcNamed Rows.sheafTornRow.func = some 6 := by kernel_rfl
theorem closed : joinedFacts Try.prog 6 Try.f6 Rows.sheafTornSpec Rows.sheafTornRow = true := by kernel_rfl
theorem over : Rows.sheafTornRow.holds Try.pinned (OpenSpec.ofChange Rows.sheafTornSpec) :=
  OpenClaim.holds_of_wide 6 Try.f6 rfl rfl rfl rfl rfl rfl rfl ⟨rfl, rfl, rfl, rfl, rfl⟩ rfl rfl rfl rfl rfl named Try.func6 closed
    (of_decide_eq_true (by kernel_rfl)) (by unfold Func.isWrapper; first | (rw [if_pos (by decide +kernel)]; kernel_rfl) | (rw [if_neg (by decide +kernel)]; exact ⟨rfl, rfl⟩))
    (fun os started H enc _ => lifted os started H enc)
theorem proved : Rows.SheafTornSaid := over
#print axioms proved
end Go.Proofs.Ytknmbhllinbcjaa.sheafTorn
namespace Go.Proofs.Ytknmbhllinbcjaa
/-- The row, under a short name, for the claim. -/
theorem sheafTorn_holds : Rows.SheafTornSaid := sheafTorn.proved
end Go.Proofs.Ytknmbhllinbcjaa
