/- What the laws on sheaves begin with. -/
import Derived.Test.YtknmbhllinbcjaaP7
set_option linter.unusedVariables false
set_option linter.unusedSimpArgs false
namespace Go.Proofs.Ytknmbhllinbcjaa.Pure
open Go Go.RowKit Go.Proofs.Ytknmbhllinbcjaa Go.Proofs.Ytknmbhllinbcjaa.Q Go.Proofs.YtknmbhllinbcjaaW.PrintWords Go.Proofs.YtknmbhllinbcjaaW.PrintLast Go.Proofs.YtknmbhllinbcjaaW.PrintMore
theorem head04 : ∀ k, 40 ≤ k → quittancelaw04_head.f k = some true := by
  intro k hk
  have h : quittancelaw04_head.f 40 = some true := by kernel_rfl
  exact at_rounds (fun k => quittancelaw04_head.mono k) hk h
theorem great_l0 (l : List ByteArray) (hl : l.length ≤ 9223372036854775807) (d : Nat) : ∀ (k j : Nat), j + d = l.length → ∃ b, quittancelaw04_great.l0 (k + d + 1) l (j : Int) = some b ∧ (b = false → l.length ≤ 40) := by
  induction d with
  | zero =>
    intro k j h
    refine ⟨decide ((l.length : Int) > 40), ?_, fun h => by have := of_decide_eq_false h; omega⟩
    rw [show k + 0 + 1 = k + 1 from rfl, quittancelaw04_great.l0, if_neg (by omega)]
  | succ d ih =>
    intro k j h
    have e : wrap64 ((j : Int) + 1) = ((j + 1 : Nat) : Int) := by unfold wrap64; omega
    rw [show k + (d + 1) + 1 = (k + d + 1) + 1 by omega, quittancelaw04_great.l0, if_pos (by omega), if_pos (by omega), e]
    by_cases hc : ((rdOf ByteArray.empty l (j : Int)).size : Int) > 100
    · rw [if_pos hc]; exact ⟨true, rfl, fun h => by cases h⟩
    · rw [if_neg hc]; exact ih k (j + 1) (by omega)
theorem great_f (k : Nat) (l : List ByteArray) (hl : l.length ≤ 9223372036854775807) (hk : l.length < k) : ∃ b, quittancelaw04_great.f k l = some b ∧ (b = false → l.length ≤ 40) := by
  obtain ⟨m, rfl⟩ : ∃ m, k = m + l.length + 1 := ⟨k - l.length - 1, by omega⟩
  exact great_l0 l hl l.length m 0 (by omega)
end Go.Proofs.Ytknmbhllinbcjaa.Pure
