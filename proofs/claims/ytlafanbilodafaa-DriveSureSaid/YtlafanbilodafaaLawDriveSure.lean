/- DriveSure: behind a sync a failure changes nothing; a sector that was not written to stays as it was. No condition. -/
import Derived.Test.YtlafanbilodafaaRows
import Derived.Test.YtlafanbilodafaaOA
import Derived.Test.YtlafanbilodafaaDE
import Derived.WalkKit
import Derived.ProofKit
import Derived.OpenShut
import Derived.ChangeOld
import Derived.Below
import Derived.SizedLaws
-- BY genrow.py (wip/tools), and the reading of the argument
namespace Go.Proofs.Ytlafanbilodafaa.driveSure
open Go.Proofs.Ytlafanbilodafaa.Q Go Go.ChangeShapes Go.WideShapes Go.ChangeAt Go.RowKit Go.Proofs.Ytlafanbilodafaa.Op Go.Proofs.YtlafanbilodafaaW.PrintWords Go.Proofs.YtlafanbilodafaaW.PrintLast Go.Proofs.YtlafanbilodafaaW.PrintMore
set_option linter.unusedVariables false
set_option linter.unusedSimpArgs false
theorem own : ownKnob Try.prog.godebug = none := by kernel_rfl
theorem laidOut_ : laidOutB Try.prog = true := by kernel_rfl
theorem wf_u8 {n : Int} (h : (Lit.int .u8 n).wf = true) : 0 ≤ n ∧ n < 256 := by
  simp [Lit.wf, IntKind.min, IntKind.max, IntKind.signed, IntKind.bits] at h
  omega
theorem wf_u64 {n : Int} (h : (Lit.int .u64 n).wf = true) : 0 ≤ n ∧ n < 18446744073709551616 := by
  simp [Lit.wf, IntKind.min, IntKind.max, IntKind.signed, IntKind.bits] at h
  omega
theorem wf_i64 {n : Int} (h : (Lit.int .i64 n).wf = true) : -9223372036854775808 ≤ n ∧ n < 9223372036854775808 := by
  simp [Lit.wf, IntKind.min, IntKind.max, IntKind.signed, IntKind.bits] at h
  omega
theorem crash_opens : Opens Try.prog 33 k33 (fun x => (Lit.int .u64 x.f0).wf = true ∧ (Lit.int .i64 x.f1).wf = true ∧ (Lit.int .i64 x.f2).wf = true) := by
  have h2 := opensF_one (off := 2) (f := ⟨ "At", 3, 2, false, "", "", 16⟩) (opens_int Try.underlying3) rfl (by kernel_rfl)
  have h1 := opensF_cons (off := 1) (f := ⟨ "Torn", 3, 1, false, "", "", 8⟩) (opens_int Try.underlying3) rfl (by kernel_rfl) rfl h2
  have h0 := opensF_cons (off := 0) (f := ⟨ "Keep", 31, 0, false, "", "", 0⟩) (opens_int Try.underlying31) rfl (by kernel_rfl) rfl h1
  have h := opens_struct Try.underlying33 h0 (by kernel_rfl)
  exact opens_mono (opens_iso h (fun x : S33 => (x.f0, x.f1, x.f2)) (fun a => ⟨a.1, a.2.1, a.2.2⟩) (fun _ => rfl)) (fun a h => ⟨h.1, h.2.1, h.2.2⟩)
theorem act_opens : Opens Try.prog 38 k38 (fun x => (Lit.int .u8 x.f0).wf = true ∧ (Lit.int .i64 x.f1).wf = true ∧ x.f2.size ≤ maxLen ∧ (Lit.int .u64 x.f3.f0).wf = true ∧ (Lit.int .i64 x.f3.f1).wf = true ∧ (Lit.int .i64 x.f3.f2).wf = true) := by
  have h3 := opensF_one (off := 3) (f := ⟨ "C", 33, 3, false, "", "", 32⟩) crash_opens rfl (by kernel_rfl)
  have h2 := opensF_cons (off := 2) (f := ⟨ "S", 9, 2, false, "", "", 16⟩) (opens_string Try.underlying9) rfl (by kernel_rfl) rfl h3
  have h1 := opensF_cons (off := 1) (f := ⟨ "N", 3, 1, false, "", "", 8⟩) (opens_int Try.underlying3) rfl (by kernel_rfl) rfl h2
  have h0 := opensF_cons (off := 0) (f := ⟨ "What", 5, 0, false, "", "", 0⟩) (opens_int Try.underlying5) rfl (by kernel_rfl) rfl h1
  have h := opens_struct Try.underlying38 h0 (by kernel_rfl)
  exact opens_mono (opens_iso h (fun x : S38 => (x.f0, x.f1, x.f2, x.f3)) (fun a => ⟨a.1, a.2.1, a.2.2.1, a.2.2.2⟩) (fun _ => rfl)) (fun a h => ⟨h.1, h.2.1, h.2.2.1, h.2.2.2⟩)
set_option maxRecDepth 100000 in
theorem args_calls : ArgsCall3 4 36 36 33 := by
  intro H enc W base v v1 v2 d d1 d2 p p1 p2 hv hv1 hv2 ht ht1 ht2
  obtain ⟨a, len, cap, rfl⟩ := okWide_slice Try.underlying36 hv
  obtain ⟨a1, len1, cap1, rfl⟩ := okWide_slice Try.underlying36 hv1
  obtain ⟨cs, rfl, hsz⟩ := okWide_struct Try.underlying33 hv2
  obtain ⟨n, hf⟩ := ht
  obtain ⟨n1, hf1⟩ := ht1
  obtain ⟨n2, hf2⟩ := ht2
  obtain ⟨l, hK, hl, hok⟩ := opens_slice (e' := 38) Try.underlying36 act_opens (by kernel_rfl) _ _ _ _ _ _ _ _ _ hf
  obtain ⟨A, c, e, hc, hC⟩ := hK
  have e2 : [Value.slice a len cap] = [Value.slice A l.length c] := e
  obtain ⟨rfl, rfl, rfl⟩ := Value.slice.inj (List.cons.inj e2).1
  obtain ⟨m, hK1, hl1, hok1⟩ := opens_slice (e' := 38) Try.underlying36 act_opens (by kernel_rfl) _ _ _ _ _ _ _ _ _ hf1
  obtain ⟨A1, c1, e1, hc1, hC1⟩ := hK1
  have e3 : [Value.slice a1 len1 cap1] = [Value.slice A1 m.length c1] := e1
  obtain ⟨rfl, rfl, rfl⟩ := Value.slice.inj (List.cons.inj e3).1
  obtain ⟨x, hK2, hw, -⟩ := crash_opens _ _ _ _ _ _ _ _ _ hf2
  rw [agg_toList (k33_open hK2)]
  exact DriveSure_calls W _ _ l hC hc hl _ _ m hC1 hc1 hl1 x.f0 x.f1 x.f2 (wf_u64 hw)
set_option maxRecDepth 100000 in
theorem lifted (os : Os) (started : os.Started) (H : Type) (enc : TypeId × Value → H) :
    ReturnsInHanded {} Try.checked os 4 .any (Rows.driveSureSpec.pre6 enc Try.prog Try.f4 Rows.driveSureRow.domain false) (Rows.driveSureSpec.post enc Try.prog Try.f4 false true false false) := by
  refine returnsInHanded_of_change_sized (C := Try.checked) own started (by kernel_rfl) Try.func4
    (ChangeSpec.witness6 (enc := enc) (C := Try.checked) false ⟨#[], #[.slice none 0 0, .slice none 0 0, .agg #[.int .u64 0, .int .i64 0, .int .i64 0]], []⟩ 8 (by kernel_rfl) (by kernel_rfl) (by kernel_rfl) (by kernel_rfl)) ?_
  intro W base args ds gs before hval0 hW hcnd hsz0 _
  have hval : ∀ (j : Nat) t v, Try.f4.params[j]? = some t → args[j]? = some v → Value.okWide Try.prog W .any base t v := hval0
  have hW' := hW
  obtain ⟨p, q, hA0, hV, rfl, hfz, hnd⟩ := hW
  have hA : DataW.TrodAll enc Try.prog W 0 (fun _ => true) true Try.f4.params.toList args.toList ds p := hA0
  rw [Try.params4] at hA hval
  obtain ⟨v0, vs0, d0, ds0, p0, q0, hargs, rfl, rfl, h0, r0⟩ := trodAll_cons hA
  obtain ⟨v1, vs1, d1, ds1, p1, q1, hargs1, rfl, rfl, h1, r1⟩ := trodAll_cons r0
  obtain ⟨v2, vs2, d2, ds2, p2, q2, hargs2, rfl, rfl, h2, r2⟩ := trodAll_cons r1
  obtain ⟨rfl, rfl, rfl⟩ := trodAll_nil r2
  subst hargs1
  subst hargs2
  obtain rfl : args = #[v0, v1, v2] := by cases args; simp_all
  obtain ⟨rfl, rfl⟩ := trodVars_none hV
  have hlt0 : ∀ x ∈ p0, x.block < W.heap.size := fun x hx => by simpa using hW'.lt x (by simp [hx])
  have hlt1 : ∀ x ∈ p1, x.block < W.heap.size := fun x hx => by simpa using hW'.lt x (by simp [hx])
  have hlt2 : ∀ x ∈ p2, x.block < W.heap.size := fun x hx => by simpa using hW'.lt x (by simp [hx])
  have hv0 := hval 0 _ v0 rfl rfl
  have hv1 := hval 1 _ v1 rfl rfl
  have hv2 := hval 2 _ v2 rfl rfl
  clear hA0 hval0 hsz0
  refine (args_calls H enc W base v0 v1 v2 d0 d1 d2 p0 p1 p2 hv0 hv1 hv2 h0 h1 h2).mono fun e W' ⟨he, bel⟩ => ?_
  subst he
  exact ⟨_, rfl, _, _, _, [], _, [], hW', trodAll_mk1 (shut_bool Try.underlying4 _), (trodAll_cons_mk (Below.trod laidOut_ (by kernel_rfl) (of_decide_eq_true (by kernel_rfl)) h0 bel hlt0) (trodAll_cons_mk (Below.trod laidOut_ (by kernel_rfl) (of_decide_eq_true (by kernel_rfl)) h1 bel hlt1) (trodAll_cons_mk (Below.trod laidOut_ (by kernel_rfl) (of_decide_eq_true (by kernel_rfl)) h2 bel hlt2) trodAll_mk0))), rfl, bel.frame _, fun h => by cases h⟩
theorem named : Try.prog.funcNamed Rows.driveSureRow.func = some 4 := by kernel_rfl
theorem closed : joinedFacts Try.prog 4 Try.f4 Rows.driveSureSpec Rows.driveSureRow = true := by kernel_rfl
theorem over : Rows.driveSureRow.holds Try.pinned (OpenSpec.ofChange Rows.driveSureSpec) :=
  OpenClaim.holds_of_wide 4 Try.f4 rfl rfl rfl rfl rfl rfl rfl ⟨rfl, rfl, rfl, rfl, rfl⟩ rfl rfl rfl rfl rfl named Try.func4 closed
    (of_decide_eq_true (by kernel_rfl)) (by unfold Func.isWrapper; first | (rw [if_pos (by decide +kernel)]; kernel_rfl) | (rw [if_neg (by decide +kernel)]; exact ⟨rfl, rfl⟩))
    (fun os started H enc _ => lifted os started H enc)
theorem proved : Rows.DriveSureSaid := over
#print axioms proved
end Go.Proofs.Ytlafanbilodafaa.driveSure
namespace Go.Proofs.Ytlafanbilodafaa
/-- The row, under a short name, for the claim. -/
theorem driveSure_holds : Rows.DriveSureSaid := driveSure.proved
end Go.Proofs.Ytlafanbilodafaa
