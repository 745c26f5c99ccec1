/- Reading an item of the statements on tally. -/
import Derived.Test.YtfjjngipjabfpaaO1
import Derived.Test.YtfjjngipjabfpaaP4
set_option linter.unusedVariables false
namespace Go.Proofs.Ytfjjngipjabfpaa.Op
open Go Go.RowKit Go.ChangeShapes Go.WideShapes Go.Proofs.Ytfjjngipjabfpaa.Pure Go.Proofs.YtfjjngipjabfpaaW.PrintWords Go.Proofs.YtfjjngipjabfpaaW.PrintLast Go.Proofs.YtfjjngipjabfpaaW.PrintMore
def item : Kd (Int × Int × ByteArray × List ByteArray × ByteArray) := Kd.pair (Kd.int .u64) (Kd.pair (Kd.int .i64) (Kd.pair Kd.string (Kd.pair (Kd.slice 9 Kd.string) Kd.string)))
theorem item_opens : Opens Try.prog 48 item (fun a => (Lit.int .u64 a.1).wf = true ∧ (Lit.int .i64 a.2.1).wf = true ∧ a.2.2.1.size ≤ maxLen ∧ (a.2.2.2.1.length ≤ maxLen ∧ ∀ s, s ∈ a.2.2.2.1 → s.size ≤ maxLen) ∧ a.2.2.2.2.size ≤ maxLen) := by
  have h4 := opensF_one (off := 4) (f := ⟨ "Rest", 9, 4, false, "", "", 56⟩) (opens_string Try.underlying9) rfl (by kernel_rfl)
  have h3 := opensF_cons (off := 3) (f := ⟨ "L", 42, 3, false, "", "", 32⟩) (opens_slice (e' := 9) Try.underlying42 (opens_string Try.underlying9) (by kernel_rfl)) rfl (by kernel_rfl) rfl h4
  have h2 := opensF_cons (off := 2) (f := ⟨ "S", 9, 2, false, "", "", 16⟩) (opens_string Try.underlying9) rfl (by kernel_rfl) rfl h3
  have h1 := opensF_cons (off := 1) (f := ⟨ "I", 2, 1, false, "", "", 8⟩) (opens_int Try.underlying2) rfl (by kernel_rfl) rfl h2
  have h0 := opensF_cons (off := 0) (f := ⟨ "N", 25, 0, false, "", "", 0⟩) (opens_int Try.underlying25) rfl (by kernel_rfl) rfl h1
  exact opens_struct Try.underlying48 h0 (by kernel_rfl)
set_option maxRecDepth 100000 in
/-- An item that is trodden, by its fields. -/
theorem item_open {H : Type} {enc : TypeId × Value → H} {W : World} {base : Nat} {v : Value} {d : DataW H} {p : List MemPlace} (hv : Value.okWide Try.prog W .any base 48 v)
    (ht : DataW.Trod enc Try.prog W 0 (fun _ => true) true 48 v d p) : ∃ (a b : Int) (s : ByteArray) (A : Option Addr) (c : Nat) (l : List ByteArray) (r : ByteArray),
      v = .agg #[.int .u64 a, .int .i64 b, .string s, .slice A l.length c, .string r] ∧ 0 ≤ a ∧ a < 18446744073709551616 ∧ -9223372036854775808 ≤ b ∧ b < 9223372036854775808 ∧ l.length ≤ 9223372036854775807 ∧ l.length ≤ c ∧ Kd.C Kd.string W A l.length l := by
  obtain ⟨cs, rfl, _⟩ := okWide_struct Try.underlying48 hv
  obtain ⟨n, hf⟩ := ht
  obtain ⟨⟨a, b, s, l, r⟩, hK, hk⟩ := item_opens _ _ _ _ _ _ _ _ _ hf
  obtain ⟨ha, hb, _, ⟨hl, _⟩, _⟩ := hk
  obtain ⟨_, _, e, rfl, _, _, rfl, rfl, _, _, rfl, rfl, _, _, rfl, ⟨A, c, rfl, hc, hC⟩, rfl⟩ := hK
  obtain ⟨a0, a1⟩ := wf_u64 ha
  obtain ⟨b0, b1⟩ := wf_i64 hb
  exact ⟨a, b, s, A, c, l, r, agg_toList e, a0, a1, b0, b1, hl, hc, hC⟩
end Go.Proofs.Ytfjjngipjabfpaa.Op
