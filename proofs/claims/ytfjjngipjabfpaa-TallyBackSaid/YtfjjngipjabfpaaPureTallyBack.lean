/- TallyBack: what was put is taken as it was, and what stands behind it is left. -/
import Derived.Test.YtfjjngipjabfpaaQ5
import Derived.Test.YtfjjngipjabfpaaP4
set_option linter.unusedVariables false
set_option linter.unusedSimpArgs false
namespace Go.Proofs.Ytfjjngipjabfpaa.Pure
open Go Go.RowKit Go.Proofs.Ytfjjngipjabfpaa.Q Go.Proofs.YtfjjngipjabfpaaW.PrintWords Go.Proofs.YtfjjngipjabfpaaW.PrintLast Go.Proofs.YtfjjngipjabfpaaW.PrintMore
theorem resR_back (l : List ByteArray) (R : List UInt8) (h : fine l) : resR (rowL l ++ R) = (l, B R, true) := by
  obtain ⟨l', rfl⟩ := map_B_ex l
  obtain ⟨h1, h2⟩ := h
  rw [List.length_map] at h1
  unfold resR
  rw [takeR_back l' R (by omega) (fun s hs => by
    have := h2 (B s) (List.mem_map_of_mem hs)
    rw [B_size] at this
    omega)]
theorem resT_back (S R : List UInt8) (h : S.length < 18446744073709551616) : resT (textL (B S) ++ R) = (B S, B R, true) := by
  unfold resT
  rw [textL_B, takeT_back S R h]
theorem resI_back (b : Int) (R : List UInt8) (hb0 : -9223372036854775808 ≤ b) (hb1 : b < 9223372036854775808) : resI (tnum (zz b) ++ R) = (b, B R, true) := by
  unfold resI
  rw [takeN_tnum _ (zz_lt b hb0 hb1) R]
  show (uz (zz b), B R, true) = _
  rw [uz_zz]
theorem cat_le {X R : List UInt8} (hX : X.length ≤ 100000) (hR : R.length ≤ 3000) : (B X).size + (B R).size ≤ 9223372036854775807 := by rw [B_size, B_size]; omega
theorem cat_ok {X R : List UInt8} (hX : X.length ≤ 100000) (hR : R.length ≤ 3000) : okN (X ++ R) := by unfold okN; rw [List.length_append]; omega
theorem TallyBack (a b : Int) (s : ByteArray) (l : List ByteArray) (r : ByteArray) (ha0 : 0 ≤ a) (ha1 : a < 18446744073709551616) (hb0 : -9223372036854775808 ≤ b) (hb1 : b < 9223372036854775808) (hl : l.length ≤ 9223372036854775807) :
    quittancelaw01_TallyBack.f (l.length + 400) a b s l r = some true := by
  obtain ⟨k, hk⟩ : ∃ k, k = l.length + 400 := ⟨_, rfl⟩
  rw [← hk]
  unfold quittancelaw01_TallyBack.f
  obtain ⟨t, h1, h2⟩ := great_f k a b s l r hl (by omega)
  rw [h1, Option.bind_some]
  cases t with
  | true => rw [if_pos (rfl : true = true), head01 k (by omega)]; rfl
  | false =>
    obtain ⟨hf, hs, hr⟩ := h2 rfl
    obtain ⟨a, rfl⟩ : ∃ n : Nat, a = n := ⟨a.toNat, by omega⟩
    obtain ⟨S, rfl, _⟩ := B_ex s
    obtain ⟨R, rfl, _⟩ := B_ex r
    rw [B_size] at hs hr
    have n1 := tnum_length_le' a (by omega)
    have n2 := tnum_length_le' (zz b) (zz_lt b hb0 hb1)
    have n3 : (textL (B S)).length ≤ 100000 := by
      have := tnum_length_le' S.length (by omega)
      rw [textL_B, List.length_append]; omega
    have n4 := rowL_fine l hf
    have hl1 := hf.1
    have hT : tally_Text.f k (B S) = some (B (textL (B S))) := by rw [Text_f k S (by omega) (by omega), textL_B]
    rw [if_neg (by decide), Num_f k a (by omega) (by omega), Option.bind_some, if_pos (cat_le (by omega) hr), B_append, TakeNum_some (cat_ok (by omega) hr) (takeN_tnum a (by omega) R), Option.bind_some,
      Int_f k b hb0 hb1 (by omega), Option.bind_some, if_pos (cat_le (by omega) hr), B_append, TakeInt_res (cat_ok (by omega) hr), resI_back b R hb0 hb1, Option.bind_some,
      hT, Option.bind_some, if_pos (cat_le n3 hr), B_append, TakeText_res (cat_ok n3 hr), resT_back S R (by omega), Option.bind_some,
      Row_f l hf, Option.bind_some, if_pos (cat_le (by omega) hr), B_append, TakeRow_res (by rw [List.length_append]; omega), resR_back l R hf, Option.bind_some]
    rw [if_pos (rfl : true = true), if_pos (rfl : true = true), if_pos (rfl : true = true), if_pos (rfl : true = true), if_pos (rfl : (a : Int) = (a : Int)), if_pos (rfl : b = b), if_pos (rfl : (B S).toList = (B S).toList),
      Same_f k l (by omega) (by omega), Option.bind_some, if_pos (rfl : true = true), if_pos (rfl : (B R).toList = (B R).toList), if_pos (rfl : (B R).toList = (B R).toList), if_pos (rfl : (B R).toList = (B R).toList), if_pos (rfl : (B R).toList = (B R).toList), head01 k (by omega)]
    rfl
end Go.Proofs.Ytfjjngipjabfpaa.Pure
