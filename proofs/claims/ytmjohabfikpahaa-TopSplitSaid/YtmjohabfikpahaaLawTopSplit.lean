/- TopSplit: of every total and all weights, the slices are the document's, and all else is refused. No condition. -/
import Derived.Test.YtmjohabfikpahaaRows
import Derived.Test.YtmjohabfikpahaaOA
import Derived.WalkKit
import Derived.ProofKit
import Derived.OpenShut
import Derived.ChangeOld
import Derived.Below
import Derived.SizedLaws
-- BY genrow.py (wip/tools), and the reading of the argument
namespace Go.Proofs.Ytmjohabfikpahaa.topSplit
open Go Go.ChangeShapes Go.WideShapes Go.ChangeAt Go.RowKit Go.Proofs.Ytmjohabfikpahaa.Op
set_option linter.unusedVariables false
set_option linter.unusedSimpArgs false
theorem own : ownKnob Try.prog.godebug = none := by kernel_rfl
theorem laidOut_ : laidOutB Try.prog = true := by kernel_rfl
theorem args_calls : ArgsCall2 3 2 22 := by
  intro H enc W base v v1 d d1 p p1 hv hv1 ht ht1
  obtain ⟨a, len, cap, rfl⟩ := okWide_slice Try.underlying22 hv1
  obtain ⟨a0, rfl, rfl, rfl, w0⟩ := open_int Try.underlying2 hv ht
  obtain ⟨n, hf⟩ := ht1
  rcases open_ints Try.underlying22 Try.underlying2 (by kernel_rfl) hf with ⟨e, _⟩ | ⟨ad, len', cap', zs, e, hb, hl, hm, hlen, _, hc, hw⟩
  · have e2 : [Value.slice a len cap] = [Value.slice none 0 0] := e
    obtain ⟨rfl, rfl, rfl⟩ := Value.slice.inj (List.cons.inj e2).1
    exact law_calls a0 none [] 0 0 W (fun h => absurd h (by simp)) rfl (fun z hz => by simp at hz) (by simp)
  · have e2 : [Value.slice a len cap] = [Value.slice (some ad) len' cap'] := e
    obtain ⟨rfl, rfl, rfl⟩ := Value.slice.inj (List.cons.inj e2).1
    simp only [if_true] at hlen
    have hmax : maxLen = 9223372036854775807 := rfl
    exact law_calls a0 (some ad) (zs.take len) len cap W (ints_of hc len (by omega)) (by rw [List.length_take]; omega) (fun z hz => wf_I64 (hw z (List.mem_of_mem_take hz))) (by rw [List.length_take]; omega)
set_option maxRecDepth 100000 in
theorem lifted (os : Os) (started : os.Started) (H : Type) (enc : TypeId × Value → H) :
    ReturnsInHanded {} Try.checked os 3 .any (Rows.topSplitSpec.pre6 enc Try.prog Try.f3 Rows.topSplitRow.domain false) (Rows.topSplitSpec.post enc Try.prog Try.f3 false true false false) := by
  refine returnsInHanded_of_change_sized (C := Try.checked) own started (by kernel_rfl) Try.func3
    (ChangeSpec.witness6 (enc := enc) (C := Try.checked) false ⟨#[], #[.int .i64 0, .slice none 0 0], []⟩ 8 (by kernel_rfl) (by kernel_rfl) (by kernel_rfl) (by kernel_rfl)) ?_
  intro W base args ds gs before hval0 hW hcnd hsz0 _
  have hval : ∀ (j : Nat) t v, Try.f3.params[j]? = some t → args[j]? = some v → Value.okWide Try.prog W .any base t v := hval0
  have hW' := hW
  obtain ⟨p, q, hA0, hV, rfl, hfz, hnd⟩ := hW
  have hA : DataW.TrodAll enc Try.prog W 0 (fun _ => true) true Try.f3.params.toList args.toList ds p := hA0
  rw [Try.params3] at hA hval
  obtain ⟨v0, vs0, d0, ds0, p0, q0, hargs, rfl, rfl, h0, r0⟩ := trodAll_cons hA
  obtain ⟨v1, vs1, d1, ds1, p1, q1, hargs1, rfl, rfl, h1, r1⟩ := trodAll_cons r0
  obtain ⟨rfl, rfl, rfl⟩ := trodAll_nil r1
  subst hargs1
  obtain rfl : args = #[v0, v1] := by cases args; simp_all
  obtain ⟨rfl, rfl⟩ := trodVars_none hV
  have hlt0 : ∀ x ∈ p0, x.block < W.heap.size := fun x hx => by simpa using hW'.lt x (by simp [hx])
  have hlt1 : ∀ x ∈ p1, x.block < W.heap.size := fun x hx => by simpa using hW'.lt x (by simp [hx])
  have hv0 := hval 0 _ v0 rfl rfl
  have hv1 := hval 1 _ v1 rfl rfl
  clear hA0 hval0 hsz0
  refine (args_calls H enc W base v0 v1 d0 d1 p0 p1 hv0 hv1 h0 h1).mono fun e W' ⟨he, bel⟩ => ?_
  subst he
  exact ⟨_, rfl, _, _, _, [], _, [], hW', trodAll_mk1 (shut_bool Try.underlying4 _), (trodAll_cons_mk (Below.trod laidOut_ (by kernel_rfl) (of_decide_eq_true (by kernel_rfl)) h0 bel hlt0) (trodAll_cons_mk (Below.trod laidOut_ (by kernel_rfl) (of_decide_eq_true (by kernel_rfl)) h1 bel hlt1) trodAll_mk0)), rfl, bel.frame _, fun h => by cases h⟩
theorem named : Try.prog.funcNamed Rows.topSplitRow.func = some 3 := by kernel_rfl
theorem closed : joinedFacts Try.prog 3 Try.f3 Rows.topSplitSpec Rows.topSplitRow = true := by kernel_rfl
theorem over : Rows.topSplitRow.holds Try.pinned (OpenSpec.ofChange Rows.topSplitSpec) :=
  OpenClaim.holds_of_wide 3 Try.f3 rfl rfl rfl rfl rfl rfl rfl ⟨rfl, rfl, rfl, rfl, rfl⟩ rfl rfl rfl rfl rfl named Try.func3 closed
    (of_decide_eq_true (by kernel_rfl)) (by unfold Func.isWrapper; first | (rw [if_pos (by decide +kernel)]; kernel_rfl) | (rw [if_neg (by decide +kernel)]; exact ⟨rfl, rfl⟩))
    (fun os started H enc _ => lifted os started H enc)
theorem proved : Rows.TopSplitSaid := over
#print axioms proved
end Go.Proofs.Ytmjohabfikpahaa.topSplit
namespace Go.Proofs.Ytmjohabfikpahaa
/-- The row, under a short name, for the claim. -/
theorem topSplit_holds : Rows.TopSplitSaid := topSplit.proved
end Go.Proofs.Ytmjohabfikpahaa
