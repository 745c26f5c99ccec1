/- TallyOnce: what is taken, put again, are the bytes that it was taken off. -/
import Derived.Test.YtfjjngipjabfpaaQ6
import Derived.Test.YtfjjngipjabfpaaP2
set_option linter.unusedVariables false
set_option linter.unusedSimpArgs false
namespace Go.Proofs.Ytfjjngipjabfpaa.Pure
open Go Go.RowKit Go.Proofs.Ytfjjngipjabfpaa.Q Go.Proofs.YtfjjngipjabfpaaW.PrintWords Go.Proofs.YtfjjngipjabfpaaW.PrintLast Go.Proofs.YtfjjngipjabfpaaW.PrintMore
theorem bne_nil : ((B []).toList != ([] : List UInt8)) = false := by rw [B_toList]; rfl
theorem put_step {X r L : List UInt8} {a b : Option Bool} (h : L = X ++ r) (hL : L.length < 9223372036854775807) :
    (if (B X).size + (B r).size ≤ 9223372036854775807 then (if (B X ++ B r).toList = (B L).toList then a else b) else none) = a := by
  have hl := congrArg List.length h
  rw [List.length_append] at hl
  rw [B_size, B_size, if_pos (by omega), B_append, B_toList, B_toList, if_pos h.symm]
theorem once_j2 (k : Nat) (L : List UInt8) (hL : L.length ≤ 3000) (hk : 24 ≤ k) : quittancelaw01_TallyOnce.j2 (k + 1) (B L) false = some true := by
  rw [quittancelaw01_TallyOnce.j2, if_neg (by decide), TakeRow_eq (by omega)]
  cases ht : takeR L with
  | none =>
    rw [Option.bind_some]
    try dsimp only
    rw [if_neg (by decide), if_pos (by decide), B_toList, if_pos (by rfl), head01 k hk]
    rfl
  | some x =>
    obtain ⟨l, t⟩ := x
    have h := takeR_once ht
    have hl := congrArg List.length h
    rw [List.length_append] at hl
    have hf : tally_Row.f (l.map B) = some (B (rowL (l.map B))) := by unfold tally_Row.f; rw [if_pos (by omega)]
    rw [Option.bind_some]
    try dsimp only
    rw [if_pos (rfl : true = true), hf]
    rw [Option.bind_some]
    try dsimp only
    rw [put_step h (by omega), head01 k hk]
    rfl
theorem once_j1 (k : Nat) (L : List UInt8) (hL : L.length ≤ 3000) (hk : 24 ≤ k) : quittancelaw01_TallyOnce.j1 (k + 1 + 1) (B L) false = some true := by
  rw [quittancelaw01_TallyOnce.j1, if_neg (by decide), TakeText_eq (by unfold okN; omega)]
  have hj := once_j2 k L hL hk
  cases ht : takeT L with
  | none =>
    rw [Option.bind_some]
    try dsimp only
    rw [if_neg (by decide), B_toList, if_pos (by rfl)]
    exact hj
  | some x =>
    obtain ⟨s, r⟩ := x
    have h := takeT_once ht
    have hl := congrArg List.length h
    rw [List.length_append, List.length_append] at hl
    rw [Option.bind_some]
    try dsimp only
    rw [if_pos (rfl : true = true), Text_f (k + 1) s (by omega) (by omega)]
    rw [Option.bind_some]
    try dsimp only
    rw [put_step h (by omega)]
    exact hj
theorem once_j0 (k : Nat) (L : List UInt8) (hL : L.length ≤ 3000) (hk : 24 ≤ k) : quittancelaw01_TallyOnce.j0 (k + 1 + 1 + 1) (B L) false = some true := by
  rw [quittancelaw01_TallyOnce.j0, if_neg (by decide)]
  have hj := once_j1 k L hL hk
  cases ht : takeN L with
  | none =>
    rw [TakeInt_none (by unfold okN; omega) ht]
    rw [Option.bind_some]
    try dsimp only
    rw [if_neg (by decide), if_pos (rfl : (0 : Int) = 0), bne_nil]
    exact hj
  | some x =>
    obtain ⟨n, r⟩ := x
    obtain ⟨hn, h⟩ := takeN_once ht
    have hl := congrArg List.length h
    rw [List.length_append] at hl
    have hr := uz_range n hn
    rw [TakeInt_some (by unfold okN; omega) ht]
    rw [Option.bind_some]
    try dsimp only
    rw [if_pos (rfl : true = true), Int_f (k + 2) (uz n) hr.1 hr.2 (by omega), zz_uz]
    rw [Option.bind_some]
    try dsimp only
    rw [put_step h (by omega)]
    exact hj
theorem once_f (k : Nat) (L : List UInt8) (hk : 24 ≤ k) : quittancelaw01_TallyOnce.f (k + 1 + 1 + 1) (B L) = some true := by
  unfold quittancelaw01_TallyOnce.f
  rw [B_size]
  by_cases hL : (L.length : Int) > 3000
  · rw [if_pos hL, head01 _ (by omega)]
    rfl
  · rw [if_neg hL]
    have hj := once_j0 k L (by omega) hk
    cases ht : takeN L with
    | none =>
      rw [TakeNum_none (by unfold okN; omega) ht]
      rw [Option.bind_some]
      try dsimp only
      rw [if_neg (by decide), if_pos (rfl : (0 : Int) = 0), bne_nil]
      exact hj
    | some x =>
      obtain ⟨n, r⟩ := x
      obtain ⟨hn, h⟩ := takeN_once ht
      have hl := congrArg List.length h
      rw [List.length_append] at hl
      rw [TakeNum_some (by unfold okN; omega) ht]
      rw [Option.bind_some]
      try dsimp only
      rw [if_pos (rfl : true = true), Num_f (k + 1 + 1 + 1) n hn (by omega)]
      rw [Option.bind_some]
      try dsimp only
      rw [put_step h (by omega)]
      exact hj
theorem TallyOnce : quittancelaw01_TallyOnce.Pure := by
  intro a0 _
  obtain ⟨L, rfl, _⟩ := B_ex a0
  exact ⟨_, once_f 24 L (by decide)⟩
end Go.Proofs.Ytfjjngipjabfpaa.Pure
