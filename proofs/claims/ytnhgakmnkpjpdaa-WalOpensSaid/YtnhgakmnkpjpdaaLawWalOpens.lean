/- WalOpens: of a drive of any sectors the log is the document's, or is refused; and a commit and a save go on as the document's do. No condition. -/
import Derived.Test.YtnhgakmnkpjpdaaRows
import Derived.Test.YtnhgakmnkpjpdaaOA
import Derived.Test.YtnhgakmnkpjpdaaXN
import Derived.WalkKit
import Derived.ProofKit
import Derived.OpenShut
import Derived.ChangeOld
import Derived.Below
import Derived.SizedLaws
-- BY genrow.py (wip/tools), and the reading of the argument
namespace Go.Proofs.Ytnhgakmnkpjpdaa.walOpens
open Go.Proofs.Ytnhgakmnkpjpdaa.Q Go Go.ChangeShapes Go.WideShapes Go.ChangeAt Go.RowKit Go.Proofs.Ytnhgakmnkpjpdaa.Op Go.Proofs.YtnhgakmnkpjpdaaW.PrintWords Go.Proofs.YtnhgakmnkpjpdaaW.PrintLast Go.Proofs.YtnhgakmnkpjpdaaW.PrintMore
set_option linter.unusedVariables false
set_option linter.unusedSimpArgs false
theorem own : ownKnob Try.prog.godebug = none := by kernel_rfl
theorem laidOut_ : laidOutB Try.prog = true := by kernel_rfl
set_option maxRecDepth 100000 in
theorem args_calls : ArgsCall3 3 22 22 22 := by
  intro H enc W base v v1 v2 d d1 d2 p p1 p2 hv hv1 hv2 ht ht1 ht2
  obtain ⟨a, len, cap, rfl⟩ := okWide_slice Try.underlying22 hv
  obtain ⟨a1, len1, cap1, rfl⟩ := okWide_slice Try.underlying22 hv1
  obtain ⟨a2, len2, cap2, rfl⟩ := okWide_slice Try.underlying22 hv2
  obtain ⟨n, hf⟩ := ht
  obtain ⟨n1, hf1⟩ := ht1
  obtain ⟨n2, hf2⟩ := ht2
  obtain ⟨l, hK, hl, hok⟩ := opens_slice (e' := 9) Try.underlying22 (opens_string Try.underlying9) (by kernel_rfl) _ _ _ _ _ _ _ _ _ hf
  obtain ⟨l1, hK1, hl1, hok1⟩ := opens_slice (e' := 9) Try.underlying22 (opens_string Try.underlying9) (by kernel_rfl) _ _ _ _ _ _ _ _ _ hf1
  obtain ⟨l2, hK2, hl2, hok2⟩ := opens_slice (e' := 9) Try.underlying22 (opens_string Try.underlying9) (by kernel_rfl) _ _ _ _ _ _ _ _ _ hf2
  obtain ⟨A, c, e, hc, hC⟩ := hK
  obtain ⟨A1, c1, e1, hc1, hC1⟩ := hK1
  obtain ⟨A2, c2, e2, hc2, hC2⟩ := hK2
  have f : [Value.slice a len cap] = [Value.slice A l.length c] := e
  have f1 : [Value.slice a1 len1 cap1] = [Value.slice A1 l1.length c1] := e1
  have f2 : [Value.slice a2 len2 cap2] = [Value.slice A2 l2.length c2] := e2
  obtain ⟨rfl, rfl, rfl⟩ := Value.slice.inj (List.cons.inj f).1
  obtain ⟨rfl, rfl, rfl⟩ := Value.slice.inj (List.cons.inj f1).1
  obtain ⟨rfl, rfl, rfl⟩ := Value.slice.inj (List.cons.inj f2).1
  exact opens_calls W _ _ l hC hc _ _ l1 hC1 hc1 _ _ l2 hC2 hc2
set_option maxRecDepth 100000 in
theorem lifted (os : Os) (started : os.Started) (H : Type) (enc : TypeId × Value → H) :
    ReturnsInHanded {} Try.checked os 3 .any (Rows.walOpensSpec.pre6 enc Try.prog Try.f3 Rows.walOpensRow.domain false) (Rows.walOpensSpec.post enc Try.prog Try.f3 false true false false) := by
  refine returnsInHanded_of_change_sized (C := Try.checked) own started (by kernel_rfl) Try.func3
    (ChangeSpec.witness6 (enc := enc) (C := Try.checked) false ⟨#[], #[.slice none 0 0, .slice none 0 0, .slice none 0 0], []⟩ 8 (by kernel_rfl) (by kernel_rfl) (by kernel_rfl) (by kernel_rfl)) ?_
  intro W base args ds gs before hval0 hW hcnd hsz0 _
  have hval : ∀ (j : Nat) t v, Try.f3.params[j]? = some t → args[j]? = some v → Value.okWide Try.prog W .any base t v := hval0
  have hW' := hW
  obtain ⟨p, q, hA0, hV, rfl, hfz, hnd⟩ := hW
  have hA : DataW.TrodAll enc Try.prog W 0 (fun _ => true) true Try.f3.params.toList args.toList ds p := hA0
  rw [Try.params3] at hA hval
  obtain ⟨v0, vs0, d0, ds0, p0, q0, hargs, rfl, rfl, h0, r0⟩ := trodAll_cons hA
  obtain ⟨v1, vs1, d1, ds1, p1, q1, hargs1, rfl, rfl, h1, r1⟩ := trodAll_cons r0
  obtain ⟨v2, vs2, d2, ds2, p2, q2, hargs2, rfl, rfl, h2, r2⟩ := trodAll_cons r1
  obtain ⟨rfl, rfl, rfl⟩ := trodAll_nil r2
  subst hargs1
  subst hargs2
  obtain rfl : args = #[v0, v1, v2] := by cases args; simp_all
  obtain ⟨rfl, rfl⟩ := trodVars_none hV
  have hlt0 : ∀ x ∈ p0, x.block < W.heap.size := fun x hx => by simpa using hW'.lt x (by simp [hx])
  have hlt1 : ∀ x ∈ p1, x.block < W.heap.size := fun x hx => by simpa using hW'.lt x (by simp [hx])
  have hlt2 : ∀ x ∈ p2, x.block < W.heap.size := fun x hx => by simpa using hW'.lt x (by simp [hx])
  have hv0 := hval 0 _ v0 rfl rfl
  have hv1 := hval 1 _ v1 rfl rfl
  have hv2 := hval 2 _ v2 rfl rfl
  clear hA0 hval0 hsz0
  refine (args_calls H enc W base v0 v1 v2 d0 d1 d2 p0 p1 p2 hv0 hv1 hv2 h0 h1 h2).mono fun e W' ⟨he, bel⟩ => ?_
  subst he
  exact ⟨_, rfl, _, _, _, [], _, [], hW', trodAll_mk1 (shut_bool Try.underlying4 _), (trodAll_cons_mk (Below.trod laidOut_ (by kernel_rfl) (of_decide_eq_true (by kernel_rfl)) h0 bel hlt0) (trodAll_cons_mk (Below.trod laidOut_ (by kernel_rfl) (of_decide_eq_true (by kernel_rfl)) h1 bel hlt1) (trodAll_cons_mk (Below.trod laidOut_ (by kernel_rfl) (of_decide_eq_true (by kernel_rfl)) h2 bel hlt2) trodAll_mk0))), rfl, bel.frame _, fun h => by cases h⟩
theorem named : Try.prog.funcNamed Rows.walOpensRow.func = some 3 := by kernel_rfl
theorem closed : joinedFacts Try.prog 3 Try.f3 Rows.walOpensSpec Rows.walOpensRow = true := by kernel_rfl
theorem over : Rows.walOpensRow.holds Try.pinned (OpenSpec.ofChange Rows.walOpensSpec) :=
  OpenClaim.holds_of_wide 3 Try.f3 rfl rfl rfl rfl rfl rfl rfl ⟨rfl, rfl, rfl, rfl, rfl⟩ rfl rfl rfl rfl rfl named Try.func3 closed
    (of_decide_eq_true (by kernel_rfl)) (by unfold Func.isWrapper; first | (rw [if_pos (by decide +kernel)]; kernel_rfl) | (rw [if_neg (by decide +kernel)]; exact ⟨rfl, rfl⟩))
    (fun os started H enc _ => lifted os started H enc)
theorem proved : Rows.WalOpensSaid := over
#print axioms proved
end Go.Proofs.Ytnhgakmnkpjpdaa.walOpens
namespace Go.Proofs.Ytnhgakmnkpjpdaa
/-- The row, under a short name, for the claim. -/
theorem walOpens_holds : Rows.WalOpensSaid := walOpens.proved
end Go.Proofs.Ytnhgakmnkpjpdaa
