/- DrivePlays: a drive is the document's, whatever is done to it. No condition. -/
import Derived.Test.YtlafanbilodafaaRows
import Derived.Test.YtlafanbilodafaaOA
import Derived.Test.YtlafanbilodafaaDL
import Derived.WalkKit
import Derived.ProofKit
import Derived.OpenShut
import Derived.ChangeOld
import Derived.Below
import Derived.SizedLaws
-- BY genrow.py (wip/tools), and the reading of the argument
namespace Go.Proofs.Ytlafanbilodafaa.drivePlays
open Go.Proofs.Ytlafanbilodafaa.Q Go Go.ChangeShapes Go.WideShapes Go.ChangeAt Go.RowKit Go.Proofs.Ytlafanbilodafaa.Op Go.Proofs.YtlafanbilodafaaW.PrintWords Go.Proofs.YtlafanbilodafaaW.PrintLast Go.Proofs.YtlafanbilodafaaW.PrintMore
set_option linter.unusedVariables false
set_option linter.unusedSimpArgs false
theorem own : ownKnob Try.prog.godebug = none := by kernel_rfl
theorem laidOut_ : laidOutB Try.prog = true := by kernel_rfl
theorem wf_u8 {n : Int} (h : (Lit.int .u8 n).wf = true) : 0 ≤ n ∧ n < 256 := by
  simp [Lit.wf, IntKind.min, IntKind.max, IntKind.signed, IntKind.bits] at h
  omega
theorem wf_u64 {n : Int} (h : (Lit.int .u64 n).wf = true) : 0 ≤ n ∧ n < 18446744073709551616 := by
  simp [Lit.wf, IntKind.min, IntKind.max, IntKind.signed, IntKind.bits] at h
  omega
theorem wf_i64 {n : Int} (h : (Lit.int .i64 n).wf = true) : -9223372036854775808 ≤ n ∧ n < 9223372036854775808 := by
  simp [Lit.wf, IntKind.min, IntKind.max, IntKind.signed, IntKind.bits] at h
  omega
theorem crash_opens : Opens Try.prog 33 k33 (fun x => (Lit.int .u64 x.f0).wf = true ∧ (Lit.int .i64 x.f1).wf = true ∧ (Lit.int .i64 x.f2).wf = true) := by
  have h2 := opensF_one (off := 2) (f := ⟨ "At", 3, 2, false, "", "", 16⟩) (opens_int Try.underlying3) rfl (by kernel_rfl)
  have h1 := opensF_cons (off := 1) (f := ⟨ "Torn", 3, 1, false, "", "", 8⟩) (opens_int Try.underlying3) rfl (by kernel_rfl) rfl h2
  have h0 := opensF_cons (off := 0) (f := ⟨ "Keep", 31, 0, false, "", "", 0⟩) (opens_int Try.underlying31) rfl (by kernel_rfl) rfl h1
  have h := opens_struct Try.underlying33 h0 (by kernel_rfl)
  exact opens_mono (opens_iso h (fun x : S33 => (x.f0, x.f1, x.f2)) (fun a => ⟨a.1, a.2.1, a.2.2⟩) (fun _ => rfl)) (fun a h => ⟨h.1, h.2.1, h.2.2⟩)
theorem act_opens : Opens Try.prog 38 k38 (fun x => (Lit.int .u8 x.f0).wf = true ∧ (Lit.int .i64 x.f1).wf = true ∧ x.f2.size ≤ maxLen ∧ (Lit.int .u64 x.f3.f0).wf = true ∧ (Lit.int .i64 x.f3.f1).wf = true ∧ (Lit.int .i64 x.f3.f2).wf = true) := by
  have h3 := opensF_one (off := 3) (f := ⟨ "C", 33, 3, false, "", "", 32⟩) crash_opens rfl (by kernel_rfl)
  have h2 := opensF_cons (off := 2) (f := ⟨ "S", 9, 2, false, "", "", 16⟩) (opens_string Try.underlying9) rfl (by kernel_rfl) rfl h3
  have h1 := opensF_cons (off := 1) (f := ⟨ "N", 3, 1, false, "", "", 8⟩) (opens_int Try.underlying3) rfl (by kernel_rfl) rfl h2
  have h0 := opensF_cons (off := 0) (f := ⟨ "What", 5, 0, false, "", "", 0⟩) (opens_int Try.underlying5) rfl (by kernel_rfl) rfl h1
  have h := opens_struct Try.underlying38 h0 (by kernel_rfl)
  exact opens_mono (opens_iso h (fun x : S38 => (x.f0, x.f1, x.f2, x.f3)) (fun a => ⟨a.1, a.2.1, a.2.2.1, a.2.2.2⟩) (fun _ => rfl)) (fun a h => ⟨h.1, h.2.1, h.2.2.1, h.2.2.2⟩)
set_option maxRecDepth 100000 in
theorem args_calls : ArgsCall2 5 3 36 := by
  intro H enc W base v v1 d d1 p p1 hv hv1 ht ht1
  obtain ⟨a, len, cap, rfl⟩ := okWide_slice Try.underlying36 hv1
  obtain ⟨a0, rfl, rfl, rfl, w0⟩ := open_int Try.underlying3 hv ht
  obtain ⟨n, hf⟩ := ht1
  obtain ⟨l, hK, hl, hok⟩ := opens_slice (e' := 38) Try.underlying36 act_opens (by kernel_rfl) _ _ _ _ _ _ _ _ _ hf
  obtain ⟨A, c, e, hc, hC⟩ := hK
  have e2 : [Value.slice a len cap] = [Value.slice A l.length c] := e
  obtain ⟨rfl, rfl, rfl⟩ := Value.slice.inj (List.cons.inj e2).1
  refine DrivePlays_calls W a0 _ _ l hC hc hl (fun x hx => ?_)
  obtain ⟨h0, h1, h2, h3, -, -⟩ := hok x hx
  exact ⟨wf_u8 h0, (wf_i64 h1).2, h2, wf_u64 h3⟩
set_option maxRecDepth 100000 in
theorem lifted (os : Os) (started : os.Started) (H : Type) (enc : TypeId × Value → H) :
    ReturnsInHanded {} Try.checked os 5 .any (Rows.drivePlaysSpec.pre6 enc Try.prog Try.f5 Rows.drivePlaysRow.domain false) (Rows.drivePlaysSpec.post enc Try.prog Try.f5 false true false false) := by
  refine returnsInHanded_of_change_sized (C := Try.checked) own started (by kernel_rfl) Try.func5
    (ChangeSpec.witness6 (enc := enc) (C := Try.checked) false ⟨#[], #[.int .i64 0, .slice none 0 0], []⟩ 8 (by kernel_rfl) (by kernel_rfl) (by kernel_rfl) (by kernel_rfl)) ?_
  intro W base args ds gs before hval0 hW hcnd hsz0 _
  have hval : ∀ (j : Nat) t v, Try.f5.params[j]? = some t → args[j]? = some v → Value.okWide Try.prog W .any base t v := hval0
  have hW' := hW
  obtain ⟨p, q, hA0, hV, rfl, hfz, hnd⟩ := hW
  have hA : DataW.TrodAll enc Try.prog W 0 (fun _ => true) true Try.f5.params.toList args.toList ds p := hA0
  rw [Try.params5] at hA hval
  obtain ⟨v0, vs0, d0, ds0, p0, q0, hargs, rfl, rfl, h0, r0⟩ := trodAll_cons hA
  obtain ⟨v1, vs1, d1, ds1, p1, q1, hargs1, rfl, rfl, h1, r1⟩ := trodAll_cons r0
  obtain ⟨rfl, rfl, rfl⟩ := trodAll_nil r1
  subst hargs1
  obtain rfl : args = #[v0, v1] := by cases args; simp_all
  obtain ⟨rfl, rfl⟩ := trodVars_none hV
  have hlt0 : ∀ x ∈ p0, x.block < W.heap.size := fun x hx => by simpa using hW'.lt x (by simp [hx])
  have hlt1 : ∀ x ∈ p1, x.block < W.heap.size := fun x hx => by simpa using hW'.lt x (by simp [hx])
  have hv0 := hval 0 _ v0 rfl rfl
  have hv1 := hval 1 _ v1 rfl rfl
  clear hA0 hval0 hsz0
  refine (args_calls H enc W base v0 v1 d0 d1 p0 p1 hv0 hv1 h0 h1).mono fun e W' ⟨he, bel⟩ => ?_
  subst he
  exact ⟨_, rfl, _, _, _, [], _, [], hW', trodAll_mk1 (shut_bool Try.underlying4 _), (trodAll_cons_mk (Below.trod laidOut_ (by kernel_rfl) (of_decide_eq_true (by kernel_rfl)) h0 bel hlt0) (trodAll_cons_mk (Below.trod laidOut_ (by kernel_rfl) (of_decide_eq_true (by kernel_rfl)) h1 bel hlt1) trodAll_mk0)), rfl, bel.frame _, fun h => by cases h⟩
theorem named : Try.prog.funcNamed Rows.drivePlaysRow.func = some 5 := by kernel_rfl
theorem closed : joinedFacts Try.prog 5 Try.f5 Rows.drivePlaysSpec Rows.drivePlaysRow = true := by kernel_rfl
theorem over : Rows.drivePlaysRow.holds Try.pinned (OpenSpec.ofChange Rows.drivePlaysSpec) :=
  OpenClaim.holds_of_wide 5 Try.f5 rfl rfl rfl rfl rfl rfl rfl ⟨rfl, rfl, rfl, rfl, rfl⟩ rfl rfl rfl rfl rfl named Try.func5 closed
    (of_decide_eq_true (by kernel_rfl)) (by unfold Func.isWrapper; first | (rw [if_pos (by decide +kernel)]; kernel_rfl) | (rw [if_neg (by decide +kernel)]; exact ⟨rfl, rfl⟩))
    (fun os started H enc _ => lifted os started H enc)
theorem proved : Rows.DrivePlaysSaid := over
#print axioms proved
end Go.Proofs.Ytlafanbilodafaa.drivePlays
namespace Go.Proofs.Ytlafanbilodafaa
/-- The row, under a short name, for the claim. -/
theorem drivePlays_holds : Rows.DrivePlaysSaid := drivePlays.proved
end Go.Proofs.Ytlafanbilodafaa
