/- TallyTakes: what is taken off any bytes, and what is left, are the document's. -/
import Derived.Test.YtfjjngipjabfpaaQ4
import Derived.Test.YtfjjngipjabfpaaP3
set_option linter.unusedVariables false
set_option linter.unusedSimpArgs false
namespace Go.Proofs.Ytfjjngipjabfpaa.Pure
open Go Go.RowKit Go.Proofs.Ytfjjngipjabfpaa.Q Go.Proofs.YtfjjngipjabfpaaW.PrintWords Go.Proofs.YtfjjngipjabfpaaW.PrintLast Go.Proofs.YtfjjngipjabfpaaW.PrintMore
theorem resR_length (L : List UInt8) (hL : L.length ≤ 3000) : (resR L).1.length ≤ 3000 := by
  unfold resR
  cases h : takeR L with
  | none => exact Nat.zero_le _
  | some x =>
    obtain ⟨l, t⟩ := x
    have h1 := congrArg List.length (takeR_once h)
    have h2 := textsL_length (l.map B)
    rw [rowL_map, List.length_append, List.length_append] at h1
    dsimp only
    omega
theorem takes_j2 (k : Nat) (L : List UInt8) (hL : L.length ≤ 3000) (hk : 11000 ≤ k) : quittancelaw01_TallyTakes.j2 (k + 1) (B L) false = some true := by
  have h3 := resR_length L hL
  rw [quittancelaw01_TallyTakes.j2, if_neg (by decide), TakeRow_res (by omega), Option.bind_some, RTakeRow_f k L hL hk, Option.bind_some, Same_f k _ (by omega) (by omega), Option.bind_some]
  rw [if_pos (rfl : true = true), if_pos rfl, if_pos (beq_self_eq_true _), head01 k (by omega)]
  rfl
theorem takes_j1 (k : Nat) (L : List UInt8) (hL : L.length ≤ 3000) (hk : 11000 ≤ k) : quittancelaw01_TallyTakes.j1 (k + 1 + 1) (B L) false = some true := by
  rw [quittancelaw01_TallyTakes.j1, if_neg (by decide), TakeText_res (by unfold okN; omega), Option.bind_some, RTakeText_f (k + 1) L hL (by omega), Option.bind_some, if_pos rfl, if_pos rfl, bne_self_eq_false]
  exact takes_j2 k L hL hk
theorem takes_j0 (k : Nat) (L : List UInt8) (hL : L.length ≤ 3000) (hk : 11000 ≤ k) : quittancelaw01_TallyTakes.j0 (k + 1 + 1 + 1) (B L) false = some true := by
  rw [quittancelaw01_TallyTakes.j0, if_neg (by decide), TakeInt_res (by unfold okN; omega), Option.bind_some, RTakeInt_f (k + 2) L hL (by omega), Option.bind_some, if_pos rfl, if_pos rfl, bne_self_eq_false]
  exact takes_j1 k L hL hk
theorem takes_f (k : Nat) (L : List UInt8) (hk : 11000 ≤ k) : quittancelaw01_TallyTakes.f (k + 1 + 1 + 1) (B L) = some true := by
  unfold quittancelaw01_TallyTakes.f
  rw [B_size]
  by_cases hL : (L.length : Int) > 3000
  · rw [if_pos hL, head01 _ (by omega)]
    rfl
  · rw [if_neg hL, TakeNum_res (by unfold okN; omega), Option.bind_some, RTakeNum_f _ L (by omega) (by omega), Option.bind_some, if_pos rfl, if_pos rfl, bne_self_eq_false]
    exact takes_j0 k L (by omega) hk
theorem TallyTakes : quittancelaw01_TallyTakes.Pure := by
  intro a0 _
  obtain ⟨L, rfl, _⟩ := B_ex a0
  exact ⟨_, takes_f 11000 L (Nat.le_refl _)⟩
end Go.Proofs.Ytfjjngipjabfpaa.Pure
