/- Numbers, integers, texts, rows of the package tally and of the document: what the printed functions answer, plain. -/
import Derived.Test.YtknmbhllinbcjaaH1
import Derived.Test.YtknmbhllinbcjaaP0
set_option linter.unusedVariables false
set_option linter.unusedSimpArgs false
namespace Go.Proofs.Ytknmbhllinbcjaa.Pure
open Go Go.RowKit Go.Proofs.Ytknmbhllinbcjaa.Q Go.Proofs.YtknmbhllinbcjaaW.PrintWords Go.Proofs.YtknmbhllinbcjaaW.PrintLast Go.Proofs.YtknmbhllinbcjaaW.PrintMore
/-! Integers -/
/-- A number's integer. -/
def okN (L : List UInt8) : Prop := (L.length : Int) < 9223372036854775807
theorem TakeNum_some {L : List UInt8} (hL : okN L) {n : Nat} {r : List UInt8} (h : takeN L = some (n, r)) : tally_TakeNum.f (B L) = some ((n : Int), B r, true) := by
  unfold tally_TakeNum.f
  rw [B_size, if_pos (show (L.length : Int) < 9223372036854775807 from hL), B_data, h]
theorem TakeNum_none {L : List UInt8} (hL : okN L) (h : takeN L = none) : tally_TakeNum.f (B L) = some (0, B [], false) := by
  unfold tally_TakeNum.f
  rw [B_size, if_pos (show (L.length : Int) < 9223372036854775807 from hL), B_data, h]
  rfl
theorem takeN_len {L : List UInt8} {n : Nat} {r : List UInt8} (h : takeN L = some (n, r)) : r.length < L.length := by
  have := (takeN_once h).2
  have h2 := tnum_length_pos n
  rw [this, List.length_append]
  omega
/-- A text, and what is left. -/
def takeT (L : List UInt8) : Option (List UInt8 × List UInt8) :=
  match takeN L with
  | some (n, r) => if n ≤ r.length then some (r.take n, r.drop n) else none
  | none => none
theorem takeT_eq {L : List UInt8} {n : Nat} {r : List UInt8} (h : takeN L = some (n, r)) : takeT L = if n ≤ r.length then some (r.take n, r.drop n) else none := by unfold takeT; rw [h]
theorem takeT_none {L : List UInt8} (h : takeN L = none) : takeT L = none := by unfold takeT; rw [h]
theorem takeT_len {L s r : List UInt8} (h : takeT L = some (s, r)) : r.length < L.length := by
  cases hn : takeN L with
  | none => rw [takeT_none hn] at h; cases h
  | some x =>
    obtain ⟨n, l⟩ := x
    rw [takeT_eq hn] at h
    have := takeN_len hn
    by_cases hl : n ≤ l.length
    · rw [if_pos hl] at h
      obtain ⟨rfl, rfl⟩ := Prod.mk.inj (Option.some.inj h)
      rw [List.length_drop]
      omega
    · rw [if_neg hl] at h; cases h
theorem TakeText_eq {L : List UInt8} (hL : okN L) : tally_TakeText.f (B L) = some (match takeT L with | some (s, r) => (B s, B r, true) | none => (B [], B [], false)) := by
  unfold tally_TakeText.f
  cases hn : takeN L with
  | none =>
    rw [TakeNum_none hL hn, takeT_none hn]
    rfl
  | some x =>
    obtain ⟨n, l⟩ := x
    have h1 := (takeN_once hn).1
    have h2 := takeN_len hn
    unfold okN at hL
    rw [TakeNum_some hL hn, takeT_eq hn]
    simp only [Option.bind_some]
    rw [if_true, B_size, u64w _ (by omega) (by omega)]
    by_cases hl : n ≤ l.length
    · rw [if_neg (by omega), if_pos hl, if_pos (by omega), if_pos (by omega)]
      simp only [Int.toNat_natCast]
      rw [B_extract, B_extract, Nat.sub_zero, List.drop_zero, List.take_of_length_le (l := l.drop n) (by rw [List.length_drop]; exact Nat.le_refl _)]
    · rw [if_pos (by omega), if_neg hl]
      rfl
/-- A row, and what is left. -/
theorem tnum_length_le' (n : Nat) (hn : n < 18446744073709551616) : (tnum n).length ≤ 10 := by
  have := hA_length_le (n / 128) (by omega)
  unfold tnum
  rw [List.length_append, List.length_singleton]
  omega
theorem Text_f (k : Nat) (S : List UInt8) (hS : S.length < 9223372036854775000) (hk : 24 ≤ k) : tally_Text.f k (B S) = some (B (tnum S.length ++ S)) := by
  unfold tally_Text.f
  rw [B_size, u64w _ (by omega) (by omega), Num_f k _ (by omega) hk]
  have := tnum_length_le' S.length (by omega)
  simp only [Option.bind_some]
  rw [B_size, if_pos (by omega), B_append]
end Go.Proofs.Ytknmbhllinbcjaa.Pure
