/- SheafBack: what was put is got back, and no less. -/
import Derived.Test.YtknmbhllinbcjaaPB
import Derived.Test.YtknmbhllinbcjaaQ6
set_option linter.unusedVariables false
set_option linter.unusedSimpArgs false
namespace Go.Proofs.Ytknmbhllinbcjaa.Pure
open Go Go.RowKit Go.Proofs.Ytknmbhllinbcjaa Go.Proofs.Ytknmbhllinbcjaa.Q Go.Proofs.YtknmbhllinbcjaaW.PrintWords Go.Proofs.YtknmbhllinbcjaaW.PrintLast Go.Proofs.YtknmbhllinbcjaaW.PrintMore
theorem back_j2 (k n : Nat) (S : List UInt8) (h0 : n ≠ 0) (hn : n < 18446744073709551616) (hS : S.length ≤ 3000) (hk : 3000 ≤ k) : quittancelaw04_SheafBack.j2 (k + 1) (n : Int) (sheafL n S) false = some true := by
  have hl := sheafL_length n S
  have hp := nP_pos S
  have hle := nP_le S (by omega)
  rw [quittancelaw04_SheafBack.j2, if_neg (by decide), wrap64_in' _ (by omega) (by omega), if_pos (by omega), if_pos (by omega)]
  have hG : sheaf_Get.f ((sheafL n S).take (((sheafL n S).length : Int) - 1).toNat) = some (0, B [], 0, false) := by
    rcases Get_spec ((sheafL n S).take (((sheafL n S).length : Int) - 1).toNat) with ⟨n', S', h0', hn', hS', hp', -⟩ | h
    · exfalso
      have h1 := Get_back n' S' (sheafL n S) h0' hn' hS' (hp'.trans (List.take_prefix _ _))
      have h2 := Get_back n S (sheafL n S) h0 hn (by omega) (List.prefix_refl _)
      rw [h2] at h1
      have h3 := Option.some.inj h1
      have h4 := B_inj (Prod.mk.inj (Prod.mk.inj h3).2).1
      have h5 := hp'.length_le
      rw [sheafL_length, ← h4, List.length_take] at h5
      omega
    · exact h
  rw [hG, Option.bind_some, if_neg (by decide), Top_f k _ (by omega) (by omega), Option.bind_some, topL_sheaf n S hn, if_pos rfl, head04 k (by omega)]
  rfl
theorem back_j1 (k n : Nat) (S : List UInt8) (l : List ByteArray) (hn : n < 18446744073709551616) (hS : S.length ≤ 3000) (hl : l.length ≤ 40) (hk : 4000 ≤ k) : quittancelaw04_SheafBack.j1 (k + 1) (n : Int) (B S) l = some true := by
  rw [quittancelaw04_SheafBack.j1]
  by_cases h0 : n = 0
  · subst h0
    rw [show ((0 : Nat) : Int) = 0 from rfl, Put_zero, Option.bind_some, if_neg (by decide), if_pos rfl]
    dsimp only
    rw [if_pos (by rfl), head04 k (by omega)]
    rfl
  · have hsl := sheafL_length n S
    have hle := nP_le S (by omega)
    have hp := nP_pos S
    obtain ⟨k, rfl⟩ : ∃ m, k = m + 1 := ⟨k - 1, by omega⟩
    rw [Put_f n S h0 hn (by omega), Option.bind_some, if_pos rfl, Option.bind_some, if_pos (by rw [List.length_nil]; dsimp only; omega), Option.bind_some, List.nil_append, if_pos (by dsimp only; omega), Get_back n S _ h0 hn (by omega) (List.prefix_append _ _), Option.bind_some]
    dsimp only
    rw [if_pos rfl, if_pos rfl, if_pos (by rw [hsl]), if_pos rfl, show (((sheafL n S).length : Int) == 0) = false by rw [beq_eq_false_iff_ne]; omega]
    exact back_j2 k n S h0 hn hS (by omega)
theorem back_j0 (k n : Nat) (S : List UInt8) (l : List ByteArray) (hn : n < 18446744073709551616) (hS : S.length ≤ 3000) (hl : l.length ≤ 40) (hk : 5000 ≤ k) : quittancelaw04_SheafBack.j0 (k + 1) (n : Int) (B S) l false = some true := by
  obtain ⟨k, rfl⟩ : ∃ m, k = m + 1 := ⟨k - 1, by omega⟩
  have hj := back_j1 k n S l hn hS hl (by omega)
  rw [quittancelaw04_SheafBack.j0, if_neg (by decide)]
  rcases Get_spec l with ⟨n', S', h0', hn', hS', hp', h⟩ | h
  · have hsl := sheafL_length n' S'
    have h5 := hp'.length_le
    obtain ⟨q, h8, h9⟩ := RSame_f (k + 1) (sheafL n' S') (l.take (nP (txt S'))) (by omega) (by omega)
    rw [h, Option.bind_some, if_pos rfl, Put_f n' S' h0' hn' hS', Option.bind_some, if_pos rfl]
    dsimp only
    rw [if_pos (by rw [hsl]), if_neg (by omega), if_pos (by omega), if_pos (by omega), Int.toNat_natCast, h8, Option.bind_some, if_pos (h9.2 (by rw [← hsl]; exact List.prefix_iff_eq_take.1 hp'))]
    exact hj
  · rw [h, Option.bind_some, if_neg (by decide)]
    exact hj
theorem back_yes (k : Nat) (n : Int) (s : ByteArray) (l : List ByteArray) (hk : 40 ≤ k) : quittancelaw04_SheafBack.j0 (k + 1) n s l true = some true := by
  rw [quittancelaw04_SheafBack.j0, if_pos rfl, head04 k hk]
  rfl
theorem SheafBack (n : Int) (s : ByteArray) (l : List ByteArray) (h0 : 0 ≤ n) (hn : n < 18446744073709551616) (hl : l.length ≤ 9223372036854775807) : quittancelaw04_SheafBack.f (l.length + 8000) n s l = some true := by
  obtain ⟨k, hk⟩ : ∃ k, l.length + 8000 = k + 1 := ⟨l.length + 7999, rfl⟩
  rw [hk]
  obtain ⟨m, rfl⟩ := Int.eq_ofNat_of_zero_le h0
  obtain ⟨S, rfl, -⟩ := B_ex s
  unfold quittancelaw04_SheafBack.f
  rw [B_size]
  by_cases hs : ((S.length : Nat) : Int) > 3000
  · rw [if_pos hs]; exact back_yes k _ _ _ (by omega)
  · obtain ⟨b, hb, hb2⟩ := great_f (k + 1) l hl (by omega)
    rw [if_neg hs, hb, Option.bind_some]
    cases b with
    | true => exact back_yes k _ _ _ (by omega)
    | false => exact back_j0 k m S l (by omega) (by omega) (hb2 rfl) (by omega)
end Go.Proofs.Ytknmbhllinbcjaa.Pure
