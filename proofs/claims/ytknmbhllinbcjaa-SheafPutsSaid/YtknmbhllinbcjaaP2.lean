/- The head of the statements on tally; what is put is taken; what is taken, put again, plain. -/
import Derived.Test.YtknmbhllinbcjaaP1
import Derived.Test.YtknmbhllinbcjaaH2
set_option linter.unusedVariables false
set_option linter.unusedSimpArgs false
namespace Go.Proofs.Ytknmbhllinbcjaa.Pure
open Go Go.RowKit Go.Proofs.Ytknmbhllinbcjaa.Q Go.Proofs.YtknmbhllinbcjaaW.PrintWords Go.Proofs.YtknmbhllinbcjaaW.PrintLast Go.Proofs.YtknmbhllinbcjaaW.PrintMore
theorem takeT_once {L s r : List UInt8} (h : takeT L = some (s, r)) : L = (tnum s.length ++ s) ++ r := by
  cases hn : takeN L with
  | none => rw [takeT_none hn] at h; cases h
  | some x =>
    obtain ⟨n, l⟩ := x
    rw [takeT_eq hn] at h
    by_cases hl : n ≤ l.length
    · rw [if_pos hl] at h
      obtain ⟨rfl, rfl⟩ := Prod.mk.inj (Option.some.inj h)
      rw [List.length_take, Nat.min_eq_left hl, List.append_assoc, List.take_append_drop]
      exact (takeN_once hn).2
    · rw [if_neg hl] at h; cases h
theorem takeT_back (s r : List UInt8) (hs : s.length < 18446744073709551616) : takeT ((tnum s.length ++ s) ++ r) = some (s, r) := by
  rw [List.append_assoc, takeT_eq (takeN_tnum _ hs (s ++ r)), if_pos (by rw [List.length_append]; omega), List.take_left, List.drop_left]
theorem tnum_1 {n : Nat} (h : n < 128) : tnum n = [UInt8.ofNat n] := by
  unfold tnum
  rw [show n / 128 = 0 by omega, hA_zero, show n % 128 = n by omega]
  rfl
theorem hA_1 {a : Nat} (h0 : a ≠ 0) (h : a ≤ 128) : hA a = [UInt8.ofNat (128 + (a - 1))] := by
  rw [hA_pos h0, show (a - 1) / 128 = 0 by omega, hA_zero, show (a - 1) % 128 = a - 1 by omega]
  rfl
end Go.Proofs.Ytknmbhllinbcjaa.Pure
