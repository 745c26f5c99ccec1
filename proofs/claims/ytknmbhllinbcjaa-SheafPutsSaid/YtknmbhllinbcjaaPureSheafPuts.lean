/- SheafPuts: leaves, numbers, errors. -/
import Derived.Test.YtknmbhllinbcjaaP8
import Derived.Test.YtknmbhllinbcjaaQ4
set_option linter.unusedVariables false
set_option linter.unusedSimpArgs false
namespace Go.Proofs.Ytknmbhllinbcjaa.Pure
open Go Go.RowKit Go.Proofs.Ytknmbhllinbcjaa Go.Proofs.Ytknmbhllinbcjaa.Q Go.Proofs.YtknmbhllinbcjaaW.PrintWords Go.Proofs.YtknmbhllinbcjaaW.PrintLast Go.Proofs.YtknmbhllinbcjaaW.PrintMore
theorem many_same (k : Nat) (n : Int) (hn : n ≤ 100000) (hk : 30000 ≤ k) : ∃ r, sheaf_Many.f k n = some r ∧ quittanceref04_Many.f k n = some r := by
  by_cases h : n < 0
  · rw [Many_neg k n h (by omega), RMany_neg k n h]
    exact ⟨_, Many_f k 0 (by omega) (by omega), RMany_f k 0 (by omega) hk⟩
  · obtain ⟨m, rfl⟩ := Int.eq_ofNat_of_zero_le (show 0 ≤ n by omega)
    exact ⟨_, Many_f k m (by omega) (by omega), RMany_f k m (by omega) hk⟩
theorem puts_j0 (k : Nat) (n : Nat) (S : List UInt8) (z : Int) (hn : n < 18446744073709551616) (hS : S.length ≤ 3000 ∨ 98304 < S.length ∧ S.length ≤ 99000) (hz : z ≤ 100000) (hk : 30000 ≤ k) :
    quittancelaw04_SheafPuts.j0 (k + 1) (n : Int) (B S) z false = some true := by
  obtain ⟨r, hr1, hr2⟩ := many_same k z hz hk
  have hh := head04 k (by omega)
  rw [quittancelaw04_SheafPuts.j0, if_neg (by decide)]
  by_cases h0 : n = 0
  · subst h0
    obtain ⟨q, h8, h9⟩ := RSame_f k [] [] (by decide) (by simp; omega)
    rw [show ((0 : Nat) : Int) = 0 from rfl, Put_zero, Option.bind_some, RPut_zero, Option.bind_some]
    dsimp only
    rw [h8, Option.bind_some, if_pos (h9.2 rfl), if_pos rfl, hr1, Option.bind_some, hr2, Option.bind_some, if_pos rfl, if_neg (by decide), hh]
    rfl
  rcases hS with hS | ⟨hS, hS2⟩
  · have hl := sheafL_length n S
    have hle := nP_le S (by omega)
    obtain ⟨q, h8, h9⟩ := RSame_f k (sheafL n S) (sheafL n S) (by omega) (by omega)
    rw [Put_f n S h0 hn (by omega), Option.bind_some, RPut_f k n S h0 hn hS (by omega), Option.bind_some]
    dsimp only
    rw [h8, Option.bind_some, if_pos (h9.2 rfl), if_pos rfl, hr1, Option.bind_some, hr2, Option.bind_some, if_pos rfl, if_pos rfl, B_size, Many_f k _ (by omega) (by omega), Option.bind_some, if_pos (by rw [hl, manyN_nP]), hh]
    rfl
  · obtain ⟨q, h8, h9⟩ := RSame_f k [] [] (by decide) (by simp; omega)
    rw [Put_long _ _ (by omega) (by rw [B_size]; exact hS), Option.bind_some, RPut_long _ _ _ (by omega) (by rw [B_size]; exact hS), Option.bind_some]
    dsimp only
    rw [h8, Option.bind_some, if_pos (h9.2 rfl), if_pos rfl, hr1, Option.bind_some, hr2, Option.bind_some, if_pos rfl, if_neg (by decide), hh]
    rfl
theorem puts_yes (k : Nat) (n : Int) (s : ByteArray) (z : Int) (hk : 40 ≤ k) : quittancelaw04_SheafPuts.j0 (k + 1) n s z true = some true := by
  rw [quittancelaw04_SheafPuts.j0, if_pos rfl, head04 k hk]
  rfl
theorem SheafPuts : quittancelaw04_SheafPuts.Pure := by
  intro a0 a1 a2 h0 h1 h2
  obtain ⟨h0a, h0b⟩ := wf_u64 h0
  obtain ⟨n, rfl⟩ := Int.eq_ofNat_of_zero_le h0a
  obtain ⟨S, rfl, -⟩ := B_ex a1
  refine ⟨30001, ?_⟩
  have hy := fun n s z => puts_yes 30000 n s z (by omega)
  have key : ∀ b : Bool, (b = false → a2 ≤ 100000 ∧ (S.length ≤ 3000 ∨ 98304 < S.length ∧ S.length ≤ 99000)) → quittancelaw04_SheafPuts.j0 30001 (n : Int) (B S) a2 b = some true := by
    intro b hb
    cases b with
    | true => exact hy _ _ _
    | false => exact puts_j0 30000 n S a2 (by omega) (hb rfl).2 (hb rfl).1 (by omega)
  unfold quittancelaw04_SheafPuts.f
  rw [B_size]
  split
  · split
    · exact key _ (fun h => by cases h)
    · split
      · exact key _ (fun h => by cases h)
      · exact key _ (fun h => by have := of_decide_eq_false h; omega)
  · split
    · exact key _ (fun h => by cases h)
    · exact key _ (fun h => by have := of_decide_eq_false h; omega)
end Go.Proofs.Ytknmbhllinbcjaa.Pure
