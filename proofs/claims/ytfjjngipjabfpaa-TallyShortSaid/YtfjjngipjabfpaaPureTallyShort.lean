/- TallyShort: nothing is taken off a beginning that is not all. -/
import Derived.Test.YtfjjngipjabfpaaQ7
import Derived.Test.YtfjjngipjabfpaaP4
set_option linter.unusedVariables false
set_option linter.unusedSimpArgs false
namespace Go.Proofs.Ytfjjngipjabfpaa.Pure
open Go Go.RowKit Go.Proofs.Ytfjjngipjabfpaa.Q Go.Proofs.YtfjjngipjabfpaaW.PrintWords Go.Proofs.YtfjjngipjabfpaaW.PrintLast Go.Proofs.YtfjjngipjabfpaaW.PrintMore
theorem takeN_cut (n : Nat) (hn : n < 18446744073709551616) (T : List UInt8) (j : Nat) (hj : ¬ j < (tnum n).length) : takeN ((tnum n ++ T).take j) = some (n, T.take (j - (tnum n).length)) := by
  rw [List.take_append, List.take_of_length_le (l := tnum n) (by omega)]
  exact takeN_tnum n hn _
theorem takeN_cut' (n : Nat) (T : List UInt8) (j : Nat) (hj : j < (tnum n).length) : takeN ((tnum n ++ T).take j) = none := by
  rw [List.take_append_of_le_length (by omega)]
  exact takeN_short n j hj
theorem takeT_short (s : List UInt8) (hs : s.length < 18446744073709551616) (j : Nat) (hj : j < (tnum s.length ++ s).length) : takeT ((tnum s.length ++ s).take j) = none := by
  rw [List.length_append] at hj
  by_cases h : j < (tnum s.length).length
  · exact takeT_none (takeN_cut' _ s j h)
  · rw [takeT_eq (takeN_cut _ hs s j h), if_neg (by rw [List.length_take]; omega)]
theorem takeM_short (l : List (List UInt8)) : ∀ (j : Nat), (∀ s ∈ l, s.length < 18446744073709551616) → j < (textsL (l.map B)).length → takeM l.length ((textsL (l.map B)).take j) = none := by
  induction l with
  | nil => intro j _ hj; exact absurd hj (Nat.not_lt_zero _)
  | cons s l ih =>
    intro j hs hj
    have h1 := hs s (List.mem_cons_self ..)
    rw [textsL_cons] at hj ⊢
    rw [List.length_append] at hj
    rw [List.length_cons, takeM]
    by_cases h : j < (tnum s.length ++ s).length
    · rw [List.take_append_of_le_length (by omega), takeT_short s h1 j h]
    · rw [List.take_append, List.take_of_length_le (l := tnum s.length ++ s) (by omega), takeT_back s _ h1]
      dsimp only
      rw [ih _ (fun s hm => hs s (List.mem_cons_of_mem _ hm)) (by omega)]
theorem takeR_short (l : List ByteArray) (h : fine l) (j : Nat) (hj : j < (rowL l).length) : takeR ((rowL l).take j) = none := by
  obtain ⟨l', rfl⟩ := map_B_ex l
  obtain ⟨h1, h2⟩ := h
  rw [List.length_map] at h1
  rw [rowL_map] at hj ⊢
  rw [List.length_append] at hj
  by_cases hc : j < (tnum l'.length).length
  · exact takeR_none (takeN_cut' _ _ j hc)
  · rw [takeR_eq (takeN_cut _ (by omega) _ j hc)]
    exact takeM_short l' _ (fun s hs => by
      have := h2 (B s) (List.mem_map_of_mem hs)
      rw [B_size] at this
      omega) (by omega)
/-- One round: a beginning in the place of all. -/
theorem short_round (k : Nat) (cut : Int) (xs : List ByteArray) (i : Nat) (t : List UInt8) (hc0 : 0 ≤ cut) (hc1 : cut < 4294967296) (hi : i < xs.length) (hl : xs.length ≤ 10) (ht : rdOf ByteArray.empty xs (i : Int) = B t) (h0 : 0 < t.length) (h1 : t.length < 4294967296) :
    quittancelaw01_TallyShort.l0 (k + 1) cut xs (i : Int) = quittancelaw01_TallyShort.l0 k cut (xs.set i (B (t.take (cut.toNat % t.length)))) ((i + 1 : Nat) : Int) := by
  have e1 : ((t.length : Int)) % 4294967296 = (t.length : Int) := by omega
  obtain ⟨c, rfl⟩ : ∃ c : Nat, cut = c := ⟨cut.toNat, by omega⟩
  have hm := Nat.mod_lt c h0
  have e2 : wrap64 (Int.tmod (c : Int) (t.length : Int)) = ((c % t.length : Nat) : Int) := by
    rw [Int.tmod_eq_emod_of_nonneg (by omega), ← Int.natCast_emod]
    unfold wrap64
    omega
  have e3 : wrap64 ((i : Int) + 1) = ((i + 1 : Nat) : Int) := by unfold wrap64; omega
  rw [quittancelaw01_TallyShort.l0, if_pos (by omega), if_pos (by omega), ht, B_size, if_neg (by omega), e1, if_neg (by omega), e2, if_pos (by omega), if_pos (by omega), e3, Int.toNat_natCast, Int.toNat_natCast, B_extract, Nat.sub_zero, List.drop_zero, Int.toNat_natCast]
theorem cut_ok {t : List UInt8} (n : Nat) (h : t.length ≤ 100000) : okN (t.take n) := by unfold okN; rw [List.length_take]; omega
theorem short_l0 (k : Nat) (a : Nat) (b : Int) (S : List UInt8) (l : List ByteArray) (cut : Int) (ha : a < 18446744073709551616) (hb0 : -9223372036854775808 ≤ b) (hb1 : b < 9223372036854775808) (hS : S.length ≤ 3000) (hf : fine l) (hc0 : 0 ≤ cut) (hc1 : cut < 4294967296) (hk : 400 ≤ k) :
    quittancelaw01_TallyShort.l0 (k + 5) cut [B (tnum a), B (tnum (zz b)), B (textL (B S)), B (rowL l)] 0 = some true := by
  have n1 := tnum_length_le' a ha
  have n2 := tnum_length_le' (zz b) (zz_lt b hb0 hb1)
  have n3 : (textL (B S)).length ≤ 100000 := by
    have := tnum_length_le' S.length (by omega)
    rw [textL_B, List.length_append]; omega
  have n4 := rowL_fine l hf
  have p1 := tnum_length_pos a
  have p2 := tnum_length_pos (zz b)
  have p3 : 0 < (textL (B S)).length := Nat.lt_of_le_of_lt (Nat.zero_le _) (textL_length _)
  have p4 : 0 < (rowL l).length := by unfold rowL; rw [List.length_append]; have := tnum_length_pos l.length; omega
  have r0 := short_round (k + 4) cut [B (tnum a), B (tnum (zz b)), B (textL (B S)), B (rowL l)] 0 (tnum a) hc0 hc1 (by simp) (by simp) rfl p1 (by omega)
  have r1 := short_round (k + 3) cut [B ((tnum a).take (cut.toNat % (tnum a).length)), B (tnum (zz b)), B (textL (B S)), B (rowL l)] 1 (tnum (zz b)) hc0 hc1 (by simp) (by simp) rfl p2 (by omega)
  have r2 := short_round (k + 2) cut [B ((tnum a).take (cut.toNat % (tnum a).length)), B ((tnum (zz b)).take (cut.toNat % (tnum (zz b)).length)), B (textL (B S)), B (rowL l)] 2 (textL (B S)) hc0 hc1 (by simp) (by simp) rfl p3 (by omega)
  have r3 := short_round (k + 1) cut [B ((tnum a).take (cut.toNat % (tnum a).length)), B ((tnum (zz b)).take (cut.toNat % (tnum (zz b)).length)), B ((textL (B S)).take (cut.toNat % (textL (B S)).length)), B (rowL l)] 3 (rowL l) hc0 hc1 (by simp) (by simp) rfl p4 (by omega)
  refine r0.trans (r1.trans (r2.trans (r3.trans ?_)))
  have m1 := Nat.mod_lt cut.toNat p1
  have m2 := Nat.mod_lt cut.toNat p2
  have m3 := Nat.mod_lt cut.toNat p3
  have m4 := Nat.mod_lt cut.toNat p4
  have t1 := takeN_short a _ m1
  have t2 := takeN_short (zz b) _ m2
  have t3 : takeT ((textL (B S)).take (cut.toNat % (textL (B S)).length)) = none := by
    rw [textL_B] at m3 ⊢
    exact takeT_short S (by omega) _ m3
  have t4 := takeR_short l hf _ m4
  have f3 : resT ((textL (B S)).take (cut.toNat % (textL (B S)).length)) = (B [], B [], false) := by unfold resT; rw [t3]
  have f4 : resR ((rowL l).take (cut.toNat % (rowL l).length)) = ([], B [], false) := by unfold resR; rw [t4]
  obtain ⟨X1, hX1⟩ : ∃ X, X = (tnum a).take (cut.toNat % (tnum a).length) := ⟨_, rfl⟩
  obtain ⟨X2, hX2⟩ : ∃ X, X = (tnum (zz b)).take (cut.toNat % (tnum (zz b)).length) := ⟨_, rfl⟩
  obtain ⟨X3, hX3⟩ : ∃ X, X = (textL (B S)).take (cut.toNat % (textL (B S)).length) := ⟨_, rfl⟩
  obtain ⟨X4, hX4⟩ : ∃ X, X = (rowL l).take (cut.toNat % (rowL l).length) := ⟨_, rfl⟩
  have o1 : okN X1 := by rw [hX1]; exact cut_ok _ (by omega)
  have o2 : okN X2 := by rw [hX2]; exact cut_ok _ (by omega)
  have o3 : okN X3 := by rw [hX3]; exact cut_ok _ n3
  have o4 : X4.length < 8796093022208 := by rw [hX4, List.length_take]; omega
  rw [← hX1] at t1 ⊢
  rw [← hX2] at t2 ⊢
  rw [← hX3] at f3 ⊢
  rw [← hX4] at f4
  show quittancelaw01_TallyShort.l0 (k + 1) cut [B X1, B X2, B X3, B ((rowL l).take (cut.toNat % (rowL l).length))] 4 = some true
  rw [← hX4]
  have g0 : rdOf ByteArray.empty [B X1, B X2, B X3, B X4] 0 = B X1 := rfl
  have g1 : rdOf ByteArray.empty [B X1, B X2, B X3, B X4] 1 = B X2 := rfl
  have g2 : rdOf ByteArray.empty [B X1, B X2, B X3, B X4] 2 = B X3 := rfl
  have g3 : rdOf ByteArray.empty [B X1, B X2, B X3, B X4] 3 = B X4 := rfl
  have gl : (([B X1, B X2, B X3, B X4] : List ByteArray).length : Int) = 4 := rfl
  rw [quittancelaw01_TallyShort.l0, gl, if_neg (by decide), if_pos (by decide), g0, TakeNum_none o1 t1, Option.bind_some, if_pos (by decide), g1, TakeInt_none o2 t2, Option.bind_some, if_pos (by decide), g2, TakeText_res o3, f3, Option.bind_some,
    if_pos (by decide), g3, TakeRow_res o4, f4, Option.bind_some]
  rw [if_neg (by decide), if_neg (by decide), if_neg (by decide), if_neg (by decide), head01 k (by omega)]
  rfl
theorem TallyShort (a b : Int) (s : ByteArray) (l : List ByteArray) (r : ByteArray) (cut : Int) (ha0 : 0 ≤ a) (ha1 : a < 18446744073709551616) (hb0 : -9223372036854775808 ≤ b) (hb1 : b < 9223372036854775808) (hl : l.length ≤ 9223372036854775807) (hc0 : 0 ≤ cut) (hc1 : cut < 4294967296) :
    quittancelaw01_TallyShort.f (l.length + 400 + 5) a b s l r cut = some true := by
  obtain ⟨k, hk⟩ : ∃ k, k = l.length + 400 := ⟨_, rfl⟩
  rw [← hk]
  unfold quittancelaw01_TallyShort.f
  obtain ⟨t, h1, h2⟩ := great_f (k + 5) a b s l r hl (by omega)
  rw [h1, Option.bind_some]
  cases t with
  | true => rw [if_pos (rfl : true = true), head01 _ (by omega)]; rfl
  | false =>
    obtain ⟨hf, hs, hr⟩ := h2 rfl
    obtain ⟨a, rfl⟩ : ∃ n : Nat, a = n := ⟨a.toNat, by omega⟩
    obtain ⟨S, rfl, _⟩ := B_ex s
    rw [B_size] at hs
    have hT : tally_Text.f (k + 5) (B S) = some (B (textL (B S))) := by rw [Text_f (k + 5) S (by omega) (by omega), textL_B]
    rw [if_neg (by decide), Num_f _ a (by omega) (by omega), Option.bind_some, Int_f _ b hb0 hb1 (by omega), Option.bind_some, hT, Option.bind_some, Row_f l hf, Option.bind_some]
    exact short_l0 k a b S l cut (by omega) hb0 hb1 hs hf hc0 hc1 (by omega)
end Go.Proofs.Ytfjjngipjabfpaa.Pure
