/- LeafPuts: Put's leaf and error are the document's, for every stamp of 64 bits and every content (of more than 100 bytes: the known answers alone). -/
import Derived.Test.YtfelfllgieclbaaQ4
import Derived.Test.YtfelfllgieclbaaB2
namespace Go.Proofs.Ytfelfllgieclbaa.Pure
open Go Go.RowKit Go.Proofs.Ytfelfllgieclbaa.Q Go.Proofs.YtfelfllgieclbaaW.PrintWords Go.Proofs.YtfelfllgieclbaaW.PrintLast
theorem head02 : quittancelaw02_head.f 49 = some true := by kernel_rfl
theorem LeafPuts : quittancelaw02_LeafPuts.Pure := by
  intro a0 a1 hwf _
  have hb := wf_u64 hwf
  refine ⟨49, ?_⟩
  unfold quittancelaw02_LeafPuts.f
  rw [head02]
  simp only [Option.bind_some]
  by_cases h : (a1.size : Int) > 100
  · rw [if_pos h]
  · rw [if_neg h, puts_one a0 a1 hb.1 hb.2 (Nat.le_refl _)]
    obtain ⟨r, hr⟩ := leafPut_some a0 a1 hb.1 hb.2
    rw [hr]
    simp
end Go.Proofs.Ytfelfllgieclbaa.Pure
