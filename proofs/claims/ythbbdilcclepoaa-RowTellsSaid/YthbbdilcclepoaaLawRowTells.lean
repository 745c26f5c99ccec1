/- RowTells: a row has the document's sheaves, errors, numbers and sectors, opened again at any time, and no other sector is touched. No condition. -/
import Derived.Test.YthbbdilcclepoaaRows
import Derived.Test.YthbbdilcclepoaaOA
import Derived.Test.YthbbdilcclepoaaS1
import Derived.WalkKit
import Derived.ProofKit
import Derived.OpenShut
import Derived.ChangeOld
import Derived.Below
import Derived.SizedLaws
-- BY genrow.py (wip/tools), and the reading of the argument
namespace Go.Proofs.Ythbbdilcclepoaa.rowTells
open Go.Proofs.Ythbbdilcclepoaa.Q Go Go.ChangeShapes Go.WideShapes Go.ChangeAt Go.RowKit Go.Proofs.Ythbbdilcclepoaa.Op Go.Proofs.YthbbdilcclepoaaW.PrintWords Go.Proofs.YthbbdilcclepoaaW.PrintLast Go.Proofs.YthbbdilcclepoaaW.PrintMore
set_option linter.unusedVariables false
set_option linter.unusedSimpArgs false
theorem own : ownKnob Try.prog.godebug = none := by kernel_rfl
theorem laidOut_ : laidOutB Try.prog = true := by kernel_rfl
theorem wf_u8 {n : Int} (h : (Lit.int .u8 n).wf = true) : 0 ≤ n ∧ n < 256 := by
  simp [Lit.wf, IntKind.min, IntKind.max, IntKind.signed, IntKind.bits] at h
  omega
theorem wf_u64 {n : Int} (h : (Lit.int .u64 n).wf = true) : 0 ≤ n ∧ n < 18446744073709551616 := by
  simp [Lit.wf, IntKind.min, IntKind.max, IntKind.signed, IntKind.bits] at h
  omega
theorem wf_i16 {n : Int} (h : (Lit.int .i16 n).wf = true) : -32768 ≤ n ∧ n < 32768 := by
  simp [Lit.wf, IntKind.min, IntKind.max, IntKind.signed, IntKind.bits] at h
  omega
theorem crash_opens : Opens Try.prog 42 k42 (fun x => (Lit.int .u64 x.f0).wf = true ∧ (Lit.int .i64 x.f1).wf = true ∧ (Lit.int .i64 x.f2).wf = true) := by
  have h2 := opensF_one (off := 2) (f := ⟨ "At", 3, 2, false, "", "", 16⟩) (opens_int Try.underlying3) rfl (by kernel_rfl)
  have h1 := opensF_cons (off := 1) (f := ⟨ "Torn", 3, 1, false, "", "", 8⟩) (opens_int Try.underlying3) rfl (by kernel_rfl) rfl h2
  have h0 := opensF_cons (off := 0) (f := ⟨ "Keep", 40, 0, false, "", "", 0⟩) (opens_int Try.underlying40) rfl (by kernel_rfl) rfl h1
  have h := opens_struct Try.underlying42 h0 (by kernel_rfl)
  exact opens_mono (opens_iso h (fun x : S42 => (x.f0, x.f1, x.f2)) (fun a => ⟨a.1, a.2.1, a.2.2⟩) (fun _ => rfl)) (fun a h => ⟨h.1, h.2.1, h.2.2⟩)
theorem act_opens : Opens Try.prog 44 k44 (fun x => (Lit.int .u8 x.f0).wf = true ∧ (Lit.int .i16 x.f1).wf = true ∧ x.f2.size ≤ maxLen ∧ (Lit.int .u8 x.f3).wf = true ∧ (Lit.int .u64 x.f4.f0).wf = true ∧ (Lit.int .i64 x.f4.f1).wf = true ∧ (Lit.int .i64 x.f4.f2).wf = true) := by
  have h4 := opensF_one (off := 4) (f := ⟨ "C", 42, 4, false, "", "", 32⟩) crash_opens rfl (by kernel_rfl)
  have h3 := opensF_cons (off := 3) (f := ⟨ "Fuse", 5, 3, false, "", "", 24⟩) (opens_int Try.underlying5) rfl (by kernel_rfl) rfl h4
  have h2 := opensF_cons (off := 2) (f := ⟨ "S", 9, 2, false, "", "", 8⟩) (opens_string Try.underlying9) rfl (by kernel_rfl) rfl h3
  have h1 := opensF_cons (off := 1) (f := ⟨ "More", 39, 1, false, "", "", 2⟩) (opens_int Try.underlying39) rfl (by kernel_rfl) rfl h2
  have h0 := opensF_cons (off := 0) (f := ⟨ "What", 5, 0, false, "", "", 0⟩) (opens_int Try.underlying5) rfl (by kernel_rfl) rfl h1
  have h := opens_struct Try.underlying44 h0 (by kernel_rfl)
  exact opens_mono (opens_iso h (fun x : S44 => (x.f0, x.f1, x.f2, x.f3, x.f4)) (fun a => ⟨a.1, a.2.1, a.2.2.1, a.2.2.2.1, a.2.2.2.2⟩) (fun _ => rfl)) (fun a h => ⟨h.1, h.2.1, h.2.2.1, h.2.2.2.1, h.2.2.2.2⟩)
set_option maxRecDepth 100000 in
theorem args_calls : ArgsCall3 4 5 5 36 := by
  intro H enc W base v v1 v2 d d1 d2 p p1 p2 hv hv1 hv2 ht ht1 ht2
  obtain ⟨a, len, cap, rfl⟩ := okWide_slice Try.underlying36 hv2
  obtain ⟨a1, rfl, rfl, rfl, w1⟩ := open_int Try.underlying5 hv ht
  obtain ⟨a2, rfl, rfl, rfl, w2⟩ := open_int Try.underlying5 hv1 ht1
  obtain ⟨n, hf⟩ := ht2
  obtain ⟨l, hK, hl, hok⟩ := opens_slice (e' := 44) Try.underlying36 act_opens (by kernel_rfl) _ _ _ _ _ _ _ _ _ hf
  obtain ⟨A, c, e, hc, hC⟩ := hK
  have e2 : [Value.slice a len cap] = [Value.slice A l.length c] := e
  obtain ⟨rfl, rfl, rfl⟩ := Value.slice.inj (List.cons.inj e2).1
  refine tells_calls W a1 a2 (wf_u8 w1) (wf_u8 w2) _ _ l hC hc (by unfold maxLen at hl; omega) (fun x hx => ?_)
  obtain ⟨h0, h1, h2, h3, -⟩ := hok x hx
  exact ⟨(wf_u8 h0).1, (wf_u8 h0).2, by unfold maxLen at h2; omega⟩
set_option maxRecDepth 100000 in
theorem lifted (os : Os) (started : os.Started) (H : Type) (enc : TypeId × Value → H) :
    ReturnsInHanded {} Try.checked os 4 .any (Rows.rowTellsSpec.pre6 enc Try.prog Try.f4 Rows.rowTellsRow.domain false) (Rows.rowTellsSpec.post enc Try.prog Try.f4 false true false false) := by
  refine returnsInHanded_of_change_sized (C := Try.checked) own started (by kernel_rfl) Try.func4
    (ChangeSpec.witness6 (enc := enc) (C := Try.checked) false ⟨#[], #[.int .u8 0, .int .u8 0, .slice none 0 0], []⟩ 8 (by kernel_rfl) (by kernel_rfl) (by kernel_rfl) (by kernel_rfl)) ?_
  intro W base args ds gs before hval0 hW hcnd hsz0 _
  have hval : ∀ (j : Nat) t v, Try.f4.params[j]? = some t → args[j]? = some v → Value.okWide Try.prog W .any base t v := hval0
  have hW' := hW
  obtain ⟨p, q, hA0, hV, rfl, hfz, hnd⟩ := hW
  have hA : DataW.TrodAll enc Try.prog W 0 (fun _ => true) true Try.f4.params.toList args.toList ds p := hA0
  rw [Try.params4] at hA hval
  obtain ⟨v0, vs0, d0, ds0, p0, q0, hargs, rfl, rfl, h0, r0⟩ := trodAll_cons hA
  obtain ⟨v1, vs1, d1, ds1, p1, q1, hargs1, rfl, rfl, h1, r1⟩ := trodAll_cons r0
  obtain ⟨v2, vs2, d2, ds2, p2, q2, hargs2, rfl, rfl, h2, r2⟩ := trodAll_cons r1
  obtain ⟨rfl, rfl, rfl⟩ := trodAll_nil r2
  subst hargs1
  subst hargs2
  obtain rfl : args = #[v0, v1, v2] := by cases args; simp_all
  obtain ⟨rfl, rfl⟩ := trodVars_none hV
  have hlt0 : ∀ x ∈ p0, x.block < W.heap.size := fun x hx => by simpa using hW'.lt x (by simp [hx])
  have hlt1 : ∀ x ∈ p1, x.block < W.heap.size := fun x hx => by simpa using hW'.lt x (by simp [hx])
  have hlt2 : ∀ x ∈ p2, x.block < W.heap.size := fun x hx => by simpa using hW'.lt x (by simp [hx])
  have hv0 := hval 0 _ v0 rfl rfl
  have hv1 := hval 1 _ v1 rfl rfl
  have hv2 := hval 2 _ v2 rfl rfl
  clear hA0 hval0 hsz0
  refine (args_calls H enc W base v0 v1 v2 d0 d1 d2 p0 p1 p2 hv0 hv1 hv2 h0 h1 h2).mono fun e W' ⟨he, bel⟩ => ?_
  subst he
  exact ⟨_, rfl, _, _, _, [], _, [], hW', trodAll_mk1 (shut_bool Try.underlying4 _), (trodAll_cons_mk (Below.trod laidOut_ (by kernel_rfl) (of_decide_eq_true (by kernel_rfl)) h0 bel hlt0) (trodAll_cons_mk (Below.trod laidOut_ (by kernel_rfl) (of_decide_eq_true (by kernel_rfl)) h1 bel hlt1) (trodAll_cons_mk (Below.trod laidOut_ (by kernel_rfl) (of_decide_eq_true (by kernel_rfl)) h2 bel hlt2) trodAll_mk0))), rfl, bel.frame _, fun h => by cases h⟩
theorem named : Try.prog.funcNamed Rows.rowTellsRow.func = some 4 := by kernel_rfl
theorem closed : joinedFacts Try.prog 4 Try.f4 Rows.rowTellsSpec Rows.rowTellsRow = true := by kernel_rfl
theorem over : Rows.rowTellsRow.holds Try.pinned (OpenSpec.ofChange Rows.rowTellsSpec) :=
  OpenClaim.holds_of_wide 4 Try.f4 rfl rfl rfl rfl rfl rfl rfl ⟨rfl, rfl, rfl, rfl, rfl⟩ rfl rfl rfl rfl rfl named Try.func4 closed
    (of_decide_eq_true (by kernel_rfl)) (by unfold Func.isWrapper; first | (rw [if_pos (by decide +kernel)]; kernel_rfl) | (rw [if_neg (by decide +kernel)]; exact ⟨rfl, rfl⟩))
    (fun os started H enc _ => lifted os started H enc)
theorem proved : Rows.RowTellsSaid := over
#print axioms proved
end Go.Proofs.Ythbbdilcclepoaa.rowTells
namespace Go.Proofs.Ythbbdilcclepoaa
/-- The row, under a short name, for the claim. -/
theorem rowTells_holds : Rows.RowTellsSaid := rowTells.proved
end Go.Proofs.Ythbbdilcclepoaa
