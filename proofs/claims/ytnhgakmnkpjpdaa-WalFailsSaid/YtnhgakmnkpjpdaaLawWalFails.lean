/- WalFails: behind a failure, within any write of any call, the log that is opened has the transactions that it had, or those and the one under way, or the base that was to be saved; opened once more it is so again. No condition. -/
import Derived.Test.YtnhgakmnkpjpdaaRows
import Derived.Test.YtnhgakmnkpjpdaaOA
import Derived.Test.YtnhgakmnkpjpdaaUF
import Derived.Test.YtnhgakmnkpjpdaaQ0
import Derived.WalkKit
import Derived.ProofKit
import Derived.OpenShut
import Derived.ChangeOld
import Derived.Below
import Derived.SizedLaws
-- BY genrow.py (wip/tools), and the reading of the argument
namespace Go.Proofs.Ytnhgakmnkpjpdaa.walFails
open Go.Proofs.Ytnhgakmnkpjpdaa.Q Go Go.ChangeShapes Go.WideShapes Go.ChangeAt Go.RowKit Go.Proofs.Ytnhgakmnkpjpdaa.Op Go.Proofs.YtnhgakmnkpjpdaaW.PrintWords Go.Proofs.YtnhgakmnkpjpdaaW.PrintLast Go.Proofs.YtnhgakmnkpjpdaaW.PrintMore
set_option linter.unusedVariables false
set_option linter.unusedSimpArgs false
theorem own : ownKnob Try.prog.godebug = none := by kernel_rfl
theorem laidOut_ : laidOutB Try.prog = true := by kernel_rfl
theorem wf_u8 {n : Int} (h : (Lit.int .u8 n).wf = true) : 0 ≤ n ∧ n < 256 := by
  simp [Lit.wf, IntKind.min, IntKind.max, IntKind.signed, IntKind.bits] at h
  omega
theorem wf_u64 {n : Int} (h : (Lit.int .u64 n).wf = true) : 0 ≤ n ∧ n < 18446744073709551616 := by
  simp [Lit.wf, IntKind.min, IntKind.max, IntKind.signed, IntKind.bits] at h
  omega
theorem crash_opens : Opens Try.prog 30 k30 (fun x => (Lit.int .u64 x.f0).wf = true ∧ (Lit.int .i64 x.f1).wf = true ∧ (Lit.int .i64 x.f2).wf = true) := by
  have h2 := opensF_one (off := 2) (f := ⟨ "At", 3, 2, false, "", "", 16⟩) (opens_int Try.underlying3) rfl (by kernel_rfl)
  have h1 := opensF_cons (off := 1) (f := ⟨ "Torn", 3, 1, false, "", "", 8⟩) (opens_int Try.underlying3) rfl (by kernel_rfl) rfl h2
  have h0 := opensF_cons (off := 0) (f := ⟨ "Keep", 28, 0, false, "", "", 0⟩) (opens_int Try.underlying28) rfl (by kernel_rfl) rfl h1
  have h := opens_struct Try.underlying30 h0 (by kernel_rfl)
  exact opens_mono (opens_iso h (fun x : S30 => (x.f0, x.f1, x.f2)) (fun a => ⟨a.1, a.2.1, a.2.2⟩) (fun _ => rfl)) (fun a h => ⟨h.1, h.2.1, h.2.2⟩)
theorem act_opens : Opens Try.prog 32 k32 (fun x => (Lit.int .u8 x.f0).wf = true ∧ (Lit.int .u8 x.f2).wf = true ∧ (Lit.int .u64 x.f3.f0).wf = true) := by
  have h3 := opensF_one (off := 3) (f := ⟨ "C", 30, 3, false, "", "", 40⟩) crash_opens rfl (by kernel_rfl)
  have h2 := opensF_cons (off := 2) (f := ⟨ "Fuse", 5, 2, false, "", "", 32⟩) (opens_int Try.underlying5) rfl (by kernel_rfl) rfl h3
  have h1 := opensF_cons (off := 1) (f := ⟨ "L", 22, 1, false, "", "", 8⟩) (opens_slice (e' := 9) Try.underlying22 (opens_string Try.underlying9) (by kernel_rfl)) rfl (by kernel_rfl) rfl h2
  have h0 := opensF_cons (off := 0) (f := ⟨ "What", 5, 0, false, "", "", 0⟩) (opens_int Try.underlying5) rfl (by kernel_rfl) rfl h1
  have h := opens_struct Try.underlying32 h0 (by kernel_rfl)
  exact opens_mono (opens_iso h (fun x : S32 => (x.f0, x.f1, x.f2, x.f3)) (fun a => ⟨a.1, a.2.1, a.2.2.1, a.2.2.2⟩) (fun _ => rfl)) (fun a h => ⟨h.1, h.2.2.1, h.2.2.2.1⟩)
set_option maxRecDepth 100000 in
theorem args_calls : ArgsCall2 4 5 33 := by
  intro H enc W base v v1 d d1 p p1 hv hv1 ht ht1
  obtain ⟨a, len, cap, rfl⟩ := okWide_slice Try.underlying33 hv1
  obtain ⟨a1, rfl, rfl, rfl, w1⟩ := open_int Try.underlying5 hv ht
  obtain ⟨n, hf⟩ := ht1
  obtain ⟨l, hK, hl, hok⟩ := opens_slice (e' := 32) Try.underlying33 act_opens (by kernel_rfl) _ _ _ _ _ _ _ _ _ hf
  obtain ⟨A, c, e, hc, hC⟩ := hK
  have e2 : [Value.slice a len cap] = [Value.slice A l.length c] := e
  obtain ⟨rfl, rfl, rfl⟩ := Value.slice.inj (List.cons.inj e2).1
  refine fails_calls W a1 (wf_u8 w1) _ _ l hC hc (fun x hx => ?_)
  obtain ⟨h0, h1, h2⟩ := hok x hx
  exact ⟨wf_u8 h0, wf_u8 h1, wf_u64 h2⟩
set_option maxRecDepth 100000 in
theorem lifted (os : Os) (started : os.Started) (H : Type) (enc : TypeId × Value → H) :
    ReturnsInHanded {} Try.checked os 4 .any (Rows.walFailsSpec.pre6 enc Try.prog Try.f4 Rows.walFailsRow.domain false) (Rows.walFailsSpec.post enc Try.prog Try.f4 false true false false) := by
  refine returnsInHanded_of_change_sized (C := Try.checked) own started (by kernel_rfl) Try.func4
    (ChangeSpec.witness6 (enc := enc) (C := Try.checked) false ⟨#[], #[.int .u8 0, .slice none 0 0], []⟩ 8 (by kernel_rfl) (by kernel_rfl) (by kernel_rfl) (by kernel_rfl)) ?_
  intro W base args ds gs before hval0 hW hcnd hsz0 _
  have hval : ∀ (j : Nat) t v, Try.f4.params[j]? = some t → args[j]? = some v → Value.okWide Try.prog W .any base t v := hval0
  have hW' := hW
  obtain ⟨p, q, hA0, hV, rfl, hfz, hnd⟩ := hW
  have hA : DataW.TrodAll enc Try.prog W 0 (fun _ => true) true Try.f4.params.toList args.toList ds p := hA0
  rw [Try.params4] at hA hval
  obtain ⟨v0, vs0, d0, ds0, p0, q0, hargs, rfl, rfl, h0, r0⟩ := trodAll_cons hA
  obtain ⟨v1, vs1, d1, ds1, p1, q1, hargs1, rfl, rfl, h1, r1⟩ := trodAll_cons r0
  obtain ⟨rfl, rfl, rfl⟩ := trodAll_nil r1
  subst hargs1
  obtain rfl : args = #[v0, v1] := by cases args; simp_all
  obtain ⟨rfl, rfl⟩ := trodVars_none hV
  have hlt0 : ∀ x ∈ p0, x.block < W.heap.size := fun x hx => by simpa using hW'.lt x (by simp [hx])
  have hlt1 : ∀ x ∈ p1, x.block < W.heap.size := fun x hx => by simpa using hW'.lt x (by simp [hx])
  have hv0 := hval 0 _ v0 rfl rfl
  have hv1 := hval 1 _ v1 rfl rfl
  clear hA0 hval0 hsz0
  refine (args_calls H enc W base v0 v1 d0 d1 p0 p1 hv0 hv1 h0 h1).mono fun e W' ⟨he, bel⟩ => ?_
  subst he
  exact ⟨_, rfl, _, _, _, [], _, [], hW', trodAll_mk1 (shut_bool Try.underlying4 _), (trodAll_cons_mk (Below.trod laidOut_ (by kernel_rfl) (of_decide_eq_true (by kernel_rfl)) h0 bel hlt0) (trodAll_cons_mk (Below.trod laidOut_ (by kernel_rfl) (of_decide_eq_true (by kernel_rfl)) h1 bel hlt1) trodAll_mk0)), rfl, bel.frame _, fun h => by cases h⟩
theorem named : Try.prog.funcNamed Rows.walFailsRow.func = some 4 := by kernel_rfl
theorem closed : joinedFacts Try.prog 4 Try.f4 Rows.walFailsSpec Rows.walFailsRow = true := by kernel_rfl
theorem over : Rows.walFailsRow.holds Try.pinned (OpenSpec.ofChange Rows.walFailsSpec) :=
  OpenClaim.holds_of_wide 4 Try.f4 rfl rfl rfl rfl rfl rfl rfl ⟨rfl, rfl, rfl, rfl, rfl⟩ rfl rfl rfl rfl rfl named Try.func4 closed
    (of_decide_eq_true (by kernel_rfl)) (by unfold Func.isWrapper; first | (rw [if_pos (by decide +kernel)]; kernel_rfl) | (rw [if_neg (by decide +kernel)]; exact ⟨rfl, rfl⟩))
    (fun os started H enc _ => lifted os started H enc)
theorem proved : Rows.WalFailsSaid := over
#print axioms proved
end Go.Proofs.Ytnhgakmnkpjpdaa.walFails
namespace Go.Proofs.Ytnhgakmnkpjpdaa
/-- The row, under a short name, for the claim. -/
theorem walFails_holds : Rows.WalFailsSaid := walFails.proved
end Go.Proofs.Ytnhgakmnkpjpdaa
