/- LeafBack: a leaf that was put is got back with its stamp and its content, and with one byte of its ends changed it is a leaf no more. No condition. -/
import Derived.Test.YtfelfllgieclbaaRows
import Derived.Test.YtfelfllgieclbaaF0
import Derived.Test.YtfelfllgieclbaaO1
import Derived.Test.YtfelfllgieclbaaPureLeafBack
import Derived.WalkKit
import Derived.ProofKit
import Derived.OpenShut
import Derived.ChangeOld
import Derived.Below
import Derived.SizedLaws
-- BY genrow.py (wip/tools), and the reading of the argument
namespace Go.Proofs.Ytfelfllgieclbaa.leafBack
open Go Go.ChangeShapes Go.WideShapes Go.ChangeAt Go.RowKit Go.Proofs.Ytfelfllgieclbaa.Op Go.Proofs.Ytfelfllgieclbaa.Q Go.Proofs.Ytfelfllgieclbaa.Pure Go.Proofs.YtfelfllgieclbaaW.PrintWords Go.Proofs.YtfelfllgieclbaaW.PrintLast Go.Proofs.YtfelfllgieclbaaW.PrintMore
set_option linter.unusedVariables false
set_option linter.unusedSimpArgs false
theorem own : ownKnob Try.prog.godebug = none := by kernel_rfl
def near : Kd (Int × ByteArray × Int × Int) := Kd.pair (Kd.int .u64) (Kd.pair Kd.string (Kd.pair (Kd.int .u8) (Kd.int .u8)))
theorem near_opens : Opens Try.prog 36 near (fun a => (Lit.int .u64 a.1).wf = true ∧ a.2.1.size ≤ maxLen ∧ (Lit.int .u8 a.2.2.1).wf = true ∧ (Lit.int .u8 a.2.2.2).wf = true) := by
  have h3 := opensF_one (off := 3) (f := ⟨ "C", 5, 3, false, "", "", 25⟩) (opens_int Try.underlying5) rfl (by kernel_rfl)
  have h2 := opensF_cons (off := 2) (f := ⟨ "At", 5, 2, false, "", "", 24⟩) (opens_int Try.underlying5) rfl (by kernel_rfl) rfl h3
  have h1 := opensF_cons (off := 1) (f := ⟨ "S", 9, 1, false, "", "", 8⟩) (opens_string Try.underlying9) rfl (by kernel_rfl) rfl h2
  have h0 := opensF_cons (off := 0) (f := ⟨ "Stamp", 22, 0, false, "", "", 0⟩) (opens_int Try.underlying22) rfl (by kernel_rfl) rfl h1
  exact opens_struct Try.underlying36 h0 (by kernel_rfl)
theorem wf_u8 {n : Int} (h : (Lit.int .u8 n).wf = true) : 0 ≤ n ∧ n < 256 := by
  simp [Lit.wf, IntKind.min, IntKind.max, IntKind.signed, IntKind.bits] at h
  omega
set_option maxRecDepth 100000 in
theorem args_calls : ArgsCall 5 36 := by
  intro H enc W base v d p hv ht
  obtain ⟨cs, rfl, _⟩ := okWide_struct Try.underlying36 hv
  obtain ⟨n, hf⟩ := ht
  obtain ⟨⟨a, s, b, c⟩, hK, hk⟩ := near_opens _ _ _ _ _ _ _ _ _ hf
  obtain ⟨ha, _, hb, hc⟩ := hk
  obtain ⟨_, _, e, rfl, _, _, rfl, rfl, _, _, rfl, rfl, rfl⟩ := hK
  rw [agg_toList e]
  obtain ⟨a0, a1⟩ := wf_u64 ha
  obtain ⟨b0, b1⟩ := wf_u8 hb
  obtain ⟨c0, c1⟩ := wf_u8 hc
  exact quittancelaw02_LeafBack.calls 60 a s b c true W (LeafBack a s b c a0 a1 b0 b1 c0 c1)
set_option maxRecDepth 100000 in
theorem lifted (os : Os) (started : os.Started) (H : Type) (enc : TypeId × Value → H) :
    ReturnsInHanded {} Try.checked os 5 .any (Rows.leafBackSpec.pre6 enc Try.prog Try.f5 Rows.leafBackRow.domain false) (Rows.leafBackSpec.post enc Try.prog Try.f5 false true false false) := by
  refine returnsInHanded_of_change_sized (C := Try.checked) own started (by kernel_rfl) Try.func5
    (ChangeSpec.witness6 (enc := enc) (C := Try.checked) false ⟨#[], #[.agg #[.int .u64 0, .string ByteArray.empty, .int .u8 0, .int .u8 0]], []⟩ 8 (by kernel_rfl) (by kernel_rfl) (by kernel_rfl) (by kernel_rfl)) ?_
  intro W base args ds gs before hval0 hW hcnd hsz0 _
  have hval : ∀ (j : Nat) t v, Try.f5.params[j]? = some t → args[j]? = some v → Value.okWide Try.prog W .any base t v := hval0
  have hW' := hW
  obtain ⟨p, q, hA0, hV, rfl, hfz, hnd⟩ := hW
  have hA : DataW.TrodAll enc Try.prog W 0 (fun _ => true) true Try.f5.params.toList args.toList ds p := hA0
  rw [Try.params5] at hA hval
  obtain ⟨v0, vs0, d0, ds0, p0, q0, hargs, rfl, rfl, h0, r0⟩ := trodAll_cons hA
  obtain ⟨rfl, rfl, rfl⟩ := trodAll_nil r0
  obtain rfl : args = #[v0] := by cases args; simp_all
  obtain ⟨rfl, rfl⟩ := trodVars_none hV
  have hlt0 : ∀ x ∈ p0, x.block < W.heap.size := fun x hx => by simpa using hW'.lt x (by simp [hx])
  have hv0 := hval 0 _ v0 rfl rfl
  clear hA0 hval0 hsz0
  refine (args_calls H enc W base v0 d0 p0 hv0 h0).mono fun e W' ⟨he, bel⟩ => ?_
  subst he
  exact ⟨_, rfl, _, _, _, [], _, [], hW', trodAll_mk1 (shut_bool Try.underlying4 _), (trodAll_cons_mk (Below.trod fact_laidOut (by kernel_rfl) (of_decide_eq_true (by kernel_rfl)) h0 bel hlt0) trodAll_mk0), rfl, bel.frame _, fun h => by cases h⟩
theorem named : Try.prog.funcNamed Rows.leafBackRow.func = some 5 := by kernel_rfl
theorem closed : joinedFacts Try.prog 5 Try.f5 Rows.leafBackSpec Rows.leafBackRow = true := by
  unfold joinedFacts
  repeat' (with_reducible refine and2 ?_ ?_)
  all_goals first
    | with_reducible exact fact_mayEnter
    | with_reducible exact fact_laidOut
    | with_reducible exact fact_mapsRowed
    | with_reducible exact fact_stopsHeard
    | (with_reducible rw [fact_liftsFinal]; kernel_rfl)
    | (with_reducible rw [fact_make]; kernel_rfl)
    | (as_aux_lemma => kernel_rfl)
theorem over : Rows.leafBackRow.holds Try.pinned (OpenSpec.ofChange Rows.leafBackSpec) :=
  OpenClaim.holds_of_wide 5 Try.f5 rfl rfl rfl rfl rfl rfl rfl ⟨rfl, rfl, rfl, rfl, rfl⟩ rfl rfl rfl rfl rfl named Try.func5 closed
    (of_decide_eq_true (by kernel_rfl)) (by unfold Func.isWrapper; first | (rw [if_pos (by decide +kernel)]; kernel_rfl) | (rw [if_neg (by decide +kernel)]; exact ⟨rfl, rfl⟩))
    (fun os started H enc _ => lifted os started H enc)
theorem proved : Rows.LeafBackSaid := over
#print axioms proved
end Go.Proofs.Ytfelfllgieclbaa.leafBack
namespace Go.Proofs.Ytfelfllgieclbaa
/-- The row, under a short name, for the claim. -/
theorem leafBack_holds : Rows.LeafBackSaid := leafBack.proved
end Go.Proofs.Ytfelfllgieclbaa
