/- WalTells: without failures a log has the document's transactions, errors, numbers and sectors, opened again at any time. No condition. -/
import Derived.Test.YtnhgakmnkpjpdaaGreatRows
import Derived.Test.YtnhgakmnkpjpdaaGreatOA
import Derived.Test.YtnhgakmnkpjpdaaGreatZC
import Derived.Test.YtnhgakmnkpjpdaaGreatQ0
import Derived.WalkKit
import Derived.ProofKit
import Derived.OpenShut
import Derived.ChangeOld
import Derived.Below
import Derived.SizedLaws
-- BY genrow.py (wip/tools), and the reading of the argument
namespace Go.Proofs.YtnhgakmnkpjpdaaGreat.walTells
open Go.Proofs.YtnhgakmnkpjpdaaGreat.Q Go Go.ChangeShapes Go.WideShapes Go.ChangeAt Go.RowKit Go.Proofs.YtnhgakmnkpjpdaaGreat.Op Go.Proofs.YtnhgakmnkpjpdaaGreatW.PrintWords Go.Proofs.YtnhgakmnkpjpdaaGreatW.PrintLast Go.Proofs.YtnhgakmnkpjpdaaGreatW.PrintMore
set_option linter.unusedVariables false
set_option linter.unusedSimpArgs false
theorem own : ownKnob Tryz.prog.godebug = none := by kernel_rfl
theorem laidOut_ : laidOutB Tryz.prog = true := by kernel_rfl
theorem wf_u8 {n : Int} (h : (Lit.int .u8 n).wf = true) : 0 ≤ n ∧ n < 256 := by
  simp [Lit.wf, IntKind.min, IntKind.max, IntKind.signed, IntKind.bits] at h
  omega
theorem crash_opens : Opens Tryz.prog 38 k38 (fun x => (Lit.int .u64 x.f0).wf = true ∧ (Lit.int .i64 x.f1).wf = true ∧ (Lit.int .i64 x.f2).wf = true) := by
  have h2 := opensF_one (off := 2) (f := ⟨ "At", 3, 2, false, "", "", 16⟩) (opens_int Tryz.underlying3) rfl (by kernel_rfl)
  have h1 := opensF_cons (off := 1) (f := ⟨ "Torn", 3, 1, false, "", "", 8⟩) (opens_int Tryz.underlying3) rfl (by kernel_rfl) rfl h2
  have h0 := opensF_cons (off := 0) (f := ⟨ "Keep", 36, 0, false, "", "", 0⟩) (opens_int Tryz.underlying36) rfl (by kernel_rfl) rfl h1
  have h := opens_struct Tryz.underlying38 h0 (by kernel_rfl)
  exact opens_mono (opens_iso h (fun x : S38 => (x.f0, x.f1, x.f2)) (fun a => ⟨a.1, a.2.1, a.2.2⟩) (fun _ => rfl)) (fun a h => ⟨h.1, h.2.1, h.2.2⟩)
theorem act_opens : Opens Tryz.prog 40 k40 (fun x => (Lit.int .u8 x.f0).wf = true) := by
  have h3 := opensF_one (off := 3) (f := ⟨ "C", 38, 3, false, "", "", 40⟩) crash_opens rfl (by kernel_rfl)
  have h2 := opensF_cons (off := 2) (f := ⟨ "Fuse", 5, 2, false, "", "", 32⟩) (opens_int Tryz.underlying5) rfl (by kernel_rfl) rfl h3
  have h1 := opensF_cons (off := 1) (f := ⟨ "L", 32, 1, false, "", "", 8⟩) (opens_slice (e' := 9) Tryz.underlying32 (opens_string Tryz.underlying9) (by kernel_rfl)) rfl (by kernel_rfl) rfl h2
  have h0 := opensF_cons (off := 0) (f := ⟨ "What", 5, 0, false, "", "", 0⟩) (opens_int Tryz.underlying5) rfl (by kernel_rfl) rfl h1
  have h := opens_struct Tryz.underlying40 h0 (by kernel_rfl)
  exact opens_mono (opens_iso h (fun x : S40 => (x.f0, x.f1, x.f2, x.f3)) (fun a => ⟨a.1, a.2.1, a.2.2.1, a.2.2.2⟩) (fun _ => rfl)) (fun a h => h.1)
set_option maxRecDepth 100000 in
theorem args_calls : ArgsCall2 3 5 22 := by
  intro H enc W base v v1 d d1 p p1 hv hv1 ht ht1
  obtain ⟨a, len, cap, rfl⟩ := okWide_slice Tryz.underlying22 hv1
  obtain ⟨a1, rfl, rfl, rfl, w1⟩ := open_int Tryz.underlying5 hv ht
  obtain ⟨n, hf⟩ := ht1
  obtain ⟨l, hK, hl, hok⟩ := opens_slice (e' := 40) Tryz.underlying22 act_opens (by kernel_rfl) _ _ _ _ _ _ _ _ _ hf
  obtain ⟨A, c, e, hc, hC⟩ := hK
  have e2 : [Value.slice a len cap] = [Value.slice A l.length c] := e
  obtain ⟨rfl, rfl, rfl⟩ := Value.slice.inj (List.cons.inj e2).1
  exact tells_calls W a1 (wf_u8 w1) _ _ l hC hc (fun x hx => wf_u8 (hok x hx))
set_option maxRecDepth 100000 in
theorem lifted (os : Os) (started : os.Started) (H : Type) (enc : TypeId × Value → H) :
    ReturnsInHanded {} Tryz.checked os 3 .any (Rows.walTellsSpec.pre6 enc Tryz.prog Tryz.f3 Rows.walTellsRow.domain false) (Rows.walTellsSpec.post enc Tryz.prog Tryz.f3 false true false false) := by
  refine returnsInHanded_of_change_sized (C := Tryz.checked) own started (by kernel_rfl) Tryz.func3
    (ChangeSpec.witness6 (enc := enc) (C := Tryz.checked) false ⟨#[], #[.int .u8 0, .slice none 0 0], []⟩ 8 (by kernel_rfl) (by kernel_rfl) (by kernel_rfl) (by kernel_rfl)) ?_
  intro W base args ds gs before hval0 hW hcnd hsz0 _
  have hval : ∀ (j : Nat) t v, Tryz.f3.params[j]? = some t → args[j]? = some v → Value.okWide Tryz.prog W .any base t v := hval0
  have hW' := hW
  obtain ⟨p, q, hA0, hV, rfl, hfz, hnd⟩ := hW
  have hA : DataW.TrodAll enc Tryz.prog W 0 (fun _ => true) true Tryz.f3.params.toList args.toList ds p := hA0
  rw [Tryz.params3] at hA hval
  obtain ⟨v0, vs0, d0, ds0, p0, q0, hargs, rfl, rfl, h0, r0⟩ := trodAll_cons hA
  obtain ⟨v1, vs1, d1, ds1, p1, q1, hargs1, rfl, rfl, h1, r1⟩ := trodAll_cons r0
  obtain ⟨rfl, rfl, rfl⟩ := trodAll_nil r1
  subst hargs1
  obtain rfl : args = #[v0, v1] := by cases args; simp_all
  obtain ⟨rfl, rfl⟩ := trodVars_none hV
  have hlt0 : ∀ x ∈ p0, x.block < W.heap.size := fun x hx => by simpa using hW'.lt x (by simp [hx])
  have hlt1 : ∀ x ∈ p1, x.block < W.heap.size := fun x hx => by simpa using hW'.lt x (by simp [hx])
  have hv0 := hval 0 _ v0 rfl rfl
  have hv1 := hval 1 _ v1 rfl rfl
  clear hA0 hval0 hsz0
  refine (args_calls H enc W base v0 v1 d0 d1 p0 p1 hv0 hv1 h0 h1).mono fun e W' ⟨he, bel⟩ => ?_
  subst he
  exact ⟨_, rfl, _, _, _, [], _, [], hW', trodAll_mk1 (shut_bool Tryz.underlying4 _), (trodAll_cons_mk (Below.trod laidOut_ (by kernel_rfl) (of_decide_eq_true (by kernel_rfl)) h0 bel hlt0) (trodAll_cons_mk (Below.trod laidOut_ (by kernel_rfl) (of_decide_eq_true (by kernel_rfl)) h1 bel hlt1) trodAll_mk0)), rfl, bel.frame _, fun h => by cases h⟩
theorem named : Tryz.prog.funcNamed Rows.walTellsRow.func = some 3 := by kernel_rfl
theorem closed : joinedFacts Tryz.prog 3 Tryz.f3 Rows.walTellsSpec Rows.walTellsRow = true := by kernel_rfl
theorem over : Rows.walTellsRow.holds Tryz.pinned (OpenSpec.ofChange Rows.walTellsSpec) :=
  OpenClaim.holds_of_wide 3 Tryz.f3 rfl rfl rfl rfl rfl rfl rfl ⟨rfl, rfl, rfl, rfl, rfl⟩ rfl rfl rfl rfl rfl named Tryz.func3 closed
    (of_decide_eq_true (by kernel_rfl)) (by unfold Func.isWrapper; first | (rw [if_pos (by decide +kernel)]; kernel_rfl) | (rw [if_neg (by decide +kernel)]; exact ⟨rfl, rfl⟩))
    (fun os started H enc _ => lifted os started H enc)
theorem proved : Rows.WalTellsSaid := over
#print axioms proved
end Go.Proofs.YtnhgakmnkpjpdaaGreat.walTells
namespace Go.Proofs.YtnhgakmnkpjpdaaGreat
/-- The row, under a short name, for the claim. -/
theorem walTells_holds : Rows.WalTellsSaid := walTells.proved
end Go.Proofs.YtnhgakmnkpjpdaaGreat
