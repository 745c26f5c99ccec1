/- Chapter 05, plain: the document's New and Put. -/
import Derived.Test.YthbbdilcclepoaaRT
import Derived.Test.YthbbdilcclepoaaQ5
set_option linter.unusedVariables false
set_option linter.unusedSimpArgs false
namespace Go.Proofs.Ythbbdilcclepoaa.Pure
open Go Go.RowKit Go.Proofs.Ythbbdilcclepoaa.Q Go.Proofs.Ythbbdilcclepoaa Go.Proofs.YthbbdilcclepoaaW.PrintWords Go.Proofs.YthbbdilcclepoaaW.PrintLast Go.Proofs.YthbbdilcclepoaaW.PrintMore
theorem RPut05_f (k : Nat) (l : List ByteArray) (a n : Nat) (S : ByteArray) (hl : l.length ≤ 60) (ha : a ≤ l.length) (hn : n < 18446744073709551616) (hS : S.size ≤ 3000) (hk : 200 ≤ k) : quittanceref05_Put.f k l (a : Int) (n : Int) S = some (rput l a n S) := by
  unfold quittanceref05_Put.f rput
  rw [RTop_nat k l hl hk, Option.bind_some]
  by_cases c1 : n ≤ topL l 0
  · rw [if_pos (by omega), if_pos c1]
  rw [if_neg (by omega), if_neg c1]
  have hp := RPut_f k n S.data.toList (by omega) hn (by rw [Array.length_toList]; exact hS) hk
  rw [B_self'] at hp
  rw [hp, Option.bind_some, if_pos (show (sheafL n S.data.toList, (0 : Int)).2 = 0 from rfl)]
  show (if ((sheafL n S.data.toList).length : Int) > _ then _ else _) = _
  have hw : wrap64 ((l.length : Int) - (a : Int)) = ((l.length - a : Nat) : Int) := by unfold wrap64; omega
  rw [hw, sheafL_len]
  by_cases c2 : l.length - a < nP (txt S.data.toList)
  · rw [if_pos (by omega), if_pos c2]
  rw [if_neg (by omega), if_neg c2]
  have hw2 : wrap64 ((a : Int) + ((nP (txt S.data.toList) : Nat) : Int)) = ((a + nP (txt S.data.toList) : Nat) : Int) := by unfold wrap64; omega
  have hbig : nP (txt S.data.toList) ≤ 60 := by omega
  rw [Option.bind_some, if_pos (by omega), if_pos (by omega), Option.bind_some, if_pos (by simp; omega), Option.bind_some, if_pos (by simp [sheafL_len]; omega), Option.bind_some, hw2, if_pos (by omega), if_pos (by omega), Option.bind_some, if_pos (by simp [sheafL_len]; omega)]
  unfold splice
  rw [Int.toNat_natCast, Int.toNat_natCast, List.nil_append, sheafL_len]
theorem rnew_l0 (mn : Nat) (hm : mn ≤ 60) (d : Nat) : ∀ (k j : Nat), j + d = mn → d < k → quittanceref05_New.l0 k (mn : Int) (List.replicate j zB) (j : Int) = some (List.replicate mn zB) := by
  induction d with
  | zero =>
    intro k j hj hk
    obtain ⟨k, rfl⟩ : ∃ m, k = m + 1 := ⟨k - 1, by omega⟩
    rw [quittanceref05_New.l0, if_neg (by omega), show j = mn by omega]
  | succ d ih =>
    intro k j hj hk
    obtain ⟨k, rfl⟩ : ∃ m, k = m + 1 := ⟨k - 1, by omega⟩
    have hw : wrap64 ((j : Int) + 1) = ((j + 1 : Nat) : Int) := by unfold wrap64; omega
    rw [quittanceref05_New.l0, if_pos (by omega), if_pos (by decide), if_pos (by rw [List.length_replicate]; omega), zB_eq, hw, ← List.replicate_succ']
    exact ih k (j + 1) (by omega) (by omega)
theorem RNew_f (k mn : Nat) (hm : mn ≤ 60) (hk : 100 ≤ k) : quittanceref05_New.f k (mn : Int) = some (List.replicate mn zB) := rnew_l0 mn hm mn k 0 (by omega) (by omega)
end Go.Proofs.Ythbbdilcclepoaa.Pure
