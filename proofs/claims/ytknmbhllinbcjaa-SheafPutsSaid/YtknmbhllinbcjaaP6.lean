/- Sheaves of leaves, plain: what Get and Top of the package sheaf answer. -/
import Derived.Test.YtknmbhllinbcjaaP5
set_option linter.unusedVariables false
set_option linter.unusedSimpArgs false
namespace Go.Proofs.Ytknmbhllinbcjaa.Pure
open Go Go.RowKit Go.Proofs.Ytknmbhllinbcjaa Go.Proofs.Ytknmbhllinbcjaa.Q Go.Proofs.YtknmbhllinbcjaaW.PrintWords Go.Proofs.YtknmbhllinbcjaaW.PrintLast Go.Proofs.YtknmbhllinbcjaaW.PrintMore
theorem toList_inj {x y : ByteArray} (h : x.toList = y.toList) : x = y := by
  obtain ⟨X, rfl, -⟩ := B_ex x
  obtain ⟨Y, rfl, -⟩ := B_ex y
  rw [B_toList, B_toList] at h
  rw [h]
theorem equal_l0 (a b : List ByteArray) (hab : a.length = b.length) (hl : a.length < 9223372036854775807) (d : Nat) : ∀ (k j : Nat), j + d = a.length →
    ∃ q, slices_Equal_string_string.l0 (k + d + 1) a b (a.length : Int) (j : Int) = some q ∧ (q = true ↔ a.drop j = b.drop j) := by
  induction d with
  | zero =>
    intro k j h
    refine ⟨true, ?_, ?_⟩
    · rw [show k + 0 + 1 = k + 1 from rfl, slices_Equal_string_string.l0, if_neg (by omega)]
    · rw [List.drop_eq_nil_of_le (by omega), List.drop_eq_nil_of_le (by omega)]; simp
  | succ d ih =>
    intro k j h
    have e : wrap64 ((j : Int) + 1) = ((j + 1 : Nat) : Int) := by unfold wrap64; omega
    have ha := drop_rdOf a j (by omega) (by omega)
    have hb := drop_rdOf b j (by omega) (by omega)
    rw [Int.toNat_natCast] at ha hb
    rw [show k + (d + 1) + 1 = (k + d + 1) + 1 by omega, slices_Equal_string_string.l0, if_pos (by omega), if_pos (by omega), if_pos (by omega), if_pos (by omega), e, ha, hb]
    by_cases hq : (rdOf ByteArray.empty a (j : Int)).toList = (rdOf ByteArray.empty b (j : Int)).toList
    · obtain ⟨q, h1, h2⟩ := ih k (j + 1) (by omega)
      refine ⟨q, by rw [if_pos hq, h1], ?_⟩
      rw [h2, toList_inj hq]
      simp
    · refine ⟨false, by rw [if_neg hq], ?_⟩
      constructor
      · intro h; cases h
      · intro h; exact absurd (by rw [(List.cons.inj h).1]) hq
theorem Equal_f (k : Nat) (a b : List ByteArray) (hl : a.length < 9223372036854775807) (hk : a.length < k) : ∃ q, slices_Equal_string_string.f k a b = some q ∧ (q = true ↔ a = b) := by
  unfold slices_Equal_string_string.f
  by_cases h : a.length = b.length
  · rw [if_pos (by omega)]
    obtain ⟨m, rfl⟩ : ∃ m, k = m + a.length + 1 := ⟨k - a.length - 1, by omega⟩
    have := equal_l0 a b h hl a.length m 0 (by omega)
    rw [List.drop_zero, List.drop_zero] at this
    exact this
  · rw [if_neg (by omega)]
    refine ⟨false, rfl, ?_⟩
    constructor
    · intro h; cases h
    · intro e; exact absurd (by rw [e]) h
theorem rsame_l0 (a b : List ByteArray) (hab : a.length = b.length) (hl : a.length < 9223372036854775807) (d : Nat) : ∀ (k j : Nat), j + d = a.length →
    ∃ q, quittanceref01_Same.l0 (k + d + 1) a b (j : Int) = some q ∧ (q = true ↔ a.drop j = b.drop j) := by
  induction d with
  | zero =>
    intro k j h
    refine ⟨true, ?_, ?_⟩
    · rw [show k + 0 + 1 = k + 1 from rfl, quittanceref01_Same.l0, if_neg (by omega)]
    · rw [List.drop_eq_nil_of_le (by omega), List.drop_eq_nil_of_le (by omega)]; simp
  | succ d ih =>
    intro k j h
    have e : wrap64 ((j : Int) + 1) = ((j + 1 : Nat) : Int) := by unfold wrap64; omega
    have ha := drop_rdOf a j (by omega) (by omega)
    have hb := drop_rdOf b j (by omega) (by omega)
    rw [Int.toNat_natCast] at ha hb
    rw [show k + (d + 1) + 1 = (k + d + 1) + 1 by omega, quittanceref01_Same.l0, if_pos (by omega), if_pos (by omega), if_pos (by omega), e, ha, hb]
    by_cases hq : (rdOf ByteArray.empty a (j : Int)).toList = (rdOf ByteArray.empty b (j : Int)).toList
    · obtain ⟨q, h1, h2⟩ := ih k (j + 1) (by omega)
      refine ⟨q, by rw [if_pos hq, h1], ?_⟩
      rw [h2, toList_inj hq]
      simp
    · refine ⟨false, by rw [if_neg hq], ?_⟩
      constructor
      · intro h; cases h
      · intro h; exact absurd (by rw [(List.cons.inj h).1]) hq
theorem RSame_f (k : Nat) (a b : List ByteArray) (hl : a.length < 9223372036854775807) (hk : a.length < k) : ∃ q, quittanceref01_Same.f k a b = some q ∧ (q = true ↔ a = b) := by
  unfold quittanceref01_Same.f
  by_cases h : a.length = b.length
  · rw [if_pos (by omega)]
    obtain ⟨m, rfl⟩ : ∃ m, k = m + a.length + 1 := ⟨k - a.length - 1, by omega⟩
    have := rsame_l0 a b h hl a.length m 0 (by omega)
    rw [List.drop_zero, List.drop_zero] at this
    exact this
  · rw [if_neg (by omega)]
    refine ⟨false, rfl, ?_⟩
    constructor
    · intro h; cases h
    · intro e; exact absurd (by rw [e]) h
theorem nP_le (S : List UInt8) (h : S.length ≤ 98304) : nP (txt S) ≤ 2049 := by
  have := tnum_length_le' S.length (by omega)
  have := txt_length S
  unfold nP; omega
theorem sheafL_head (n : Nat) (S : List UInt8) (r : List ByteArray) : rdOf ByteArray.empty (sheafL n S ++ r) 0 = B (leafOf n (pc (txt S) 0)) := by
  obtain ⟨m, hm⟩ : ∃ m, nP (txt S) = m + 1 := ⟨nP (txt S) - 1, by have := nP_pos S; omega⟩
  rw [sheafL_from, hm, leavesFrom_succ]
  rfl
theorem Get_back (n : Nat) (S : List UInt8) (l : List ByteArray) (h0 : n ≠ 0) (hn : n < 18446744073709551616) (hS : S.length ≤ 98304) (h : sheafL n S <+: l) :
    sheaf_Get.f l = some ((n : Int), B S, ((nP (txt S) : Nat) : Int), true) := by
  obtain ⟨r, rfl⟩ := h
  obtain ⟨m, hm⟩ : ∃ m, nP (txt S) = m + 1 := ⟨nP (txt S) - 1, by have := nP_pos S; omega⟩
  have hmle := nP_le S hS
  have hlen := sheafL_length n S
  unfold sheaf_Get.f
  rw [if_neg (by intro e; have := congrArg List.length e; rw [List.length_append, hlen, hm] at this; simp at this), sheafL_head, ownStep_leaf 0 [] n _ h0 hn (pc_length _ _) (.inl rfl), Option.bind_some]
  dsimp only
  have hc1 : [] ++ full (pc (txt S) 0) = cont (txt S) 1 := by rw [cont_succ, cont_zero]
  obtain ⟨r1, hr1⟩ := num_cont S (by omega)
  have hcl := cont_length (txt S) 1
  have htk : takeN (cont (txt S) 1) = some (S.length, r1) := by rw [hr1]; exact takeN_tnum _ (by omega) _
  rw [if_pos (rfl : true = true), hc1, TakeNum_some (by unfold okN; omega) htk, Option.bind_some]
  dsimp only
  rw [if_pos (rfl : true = true), if_neg (by omega), Many_f 30 _ (by omega) (by omega), Option.bind_some, manyN_nP, if_neg (by rw [List.length_append, hlen]; omega), if_pos (by omega), Int.toNat_natCast,
    List.take_append_of_le_length (by omega), List.take_of_length_le (by omega)]
  have hd : (sheafL n S).drop 1 = leavesFrom n (txt S) 1 m := by rw [sheafL_from, hm, leavesFrom_succ]; rfl
  rw [hd, ownAll_leaves n (txt S) h0 hn m 1, Option.bind_some]
  dsimp only
  obtain ⟨r2, hr2⟩ := take_cont (txt S)
  have hcl2 := cont_length (txt S) (nP (txt S))
  have htt : takeT (cont (txt S) (nP (txt S))) = some (S, r2) := by rw [hr2]; exact takeT_back S r2 (by omega)
  rw [if_pos (rfl : true = true), show 1 + m = nP (txt S) by omega, TakeText_eq (by unfold okN; omega), htt, Option.bind_some]
  dsimp only
  rw [Put_f n S h0 hn hS, Option.bind_some, if_pos rfl]
  obtain ⟨q, h1, h2⟩ := Equal_f 11000 (sheafL n S) (sheafL n S) (by omega) (by omega)
  rw [h1, Option.bind_some, if_pos (h2.2 rfl)]
theorem leaf_Get_tot (b : ByteArray) : ∃ (is : Bool) (n : Nat) (c : List UInt8), leaf_Get.f b = some ((n : Int), B c, is) ∧ n < 18446744073709551616 ∧ c.length ≤ 48 := by
  unfold leaf_Get.f
  obtain ⟨L, rfl, -⟩ := B_ex b
  rw [B_size, B_data]
  by_cases hc : L.length = 64 ∧ headNum L ≠ 0 ∧ footNum L = headNum L
  · rw [if_pos hc]
    exact ⟨true, headNum L, (L.drop 8).take (56 - 8), by rw [B_extract], headNum_lt L, by rw [List.length_take]; omega⟩
  · rw [if_neg hc]
    exact ⟨false, 0, [], rfl, by decide, by decide⟩
theorem ownStep_tot (st : Nat) (hst : st < 18446744073709551616) (all : List UInt8) (b : ByteArray) : ∃ (ok : Bool) (st' : Nat) (c : List UInt8), ownStep (st : Int) all b = some (ok, (st' : Int), all ++ c) ∧ st' < 18446744073709551616 ∧ c.length ≤ 48 := by
  obtain ⟨is, n, c, h, h1, h2⟩ := leaf_Get_tot b
  unfold ownStep
  rw [h, Option.bind_some]
  dsimp only
  rw [B_data]
  by_cases ha : all = []
  · rw [if_pos ha]; exact ⟨_, n, c, rfl, h1, h2⟩
  · rw [if_neg ha]; exact ⟨_, st, c, rfl, hst, h2⟩
theorem ownAll_tot (l : List ByteArray) : ∀ (st : Nat) (all : List UInt8), st < 18446744073709551616 → ∃ (ok : Bool) (st' : Nat) (al : List UInt8), ownAll l (st : Int) all = some (ok, (st' : Int), al) ∧ st' < 18446744073709551616 ∧ al.length ≤ all.length + 48 * l.length := by
  induction l with
  | nil => intro st all h; exact ⟨true, st, all, rfl, h, by simp⟩
  | cons b r ih =>
    intro st all h
    obtain ⟨ok, st', c, h1, h2, h3⟩ := ownStep_tot st h all b
    rw [ownAll, h1, Option.bind_some]
    dsimp only
    cases ok with
    | false => rw [if_neg (by decide)]; exact ⟨false, 0, [], rfl, by decide, by simp⟩
    | true =>
      rw [if_pos rfl]
      obtain ⟨ok, st2, al, h4, h5, h6⟩ := ih st' (all ++ c) h2
      exact ⟨ok, st2, al, h4, h5, by rw [List.length_append] at h6; rw [List.length_cons]; omega⟩
theorem getFail_eq : getFail = some (0, B [], 0, false) := rfl
theorem Get_spec (l : List ByteArray) : (∃ n S, n ≠ 0 ∧ n < 18446744073709551616 ∧ S.length ≤ 98304 ∧ sheafL n S <+: l ∧ sheaf_Get.f l = some ((n : Int), B S, ((nP (txt S) : Nat) : Int), true)) ∨ sheaf_Get.f l = some (0, B [], 0, false) := by
  have key : sheaf_Get.f l = some (0, B [], 0, false) ∨ ∃ n S, n ≠ 0 ∧ n < 18446744073709551616 ∧ S.length ≤ 98304 ∧ sheafL n S <+: l := by
    unfold sheaf_Get.f
    rw [getFail_eq]
    by_cases hl : l = []
    · rw [if_pos hl]; exact .inl rfl
    rw [if_neg hl]
    obtain ⟨ok, st, c, h1, h2, h3⟩ := ownStep_tot 0 (by decide) [] (rdOf ByteArray.empty l 0)
    rw [show ((0 : Nat) : Int) = 0 from rfl] at h1
    rw [h1, Option.bind_some]
    dsimp only
    cases ok with
    | false => rw [if_neg (by decide)]; exact .inl rfl
    | true =>
    rw [if_pos rfl, List.nil_append]
    have hok : okN c := by unfold okN; omega
    cases ht : takeN c with
    | none => rw [TakeNum_none hok ht, Option.bind_some]; dsimp only; rw [if_neg (by decide)]; exact .inl rfl
    | some x =>
    obtain ⟨tn, tr⟩ := x
    rw [TakeNum_some hok ht, Option.bind_some]
    dsimp only
    rw [if_pos rfl]
    by_cases hb : ((tn : Nat) : Int) > 98304
    · rw [if_pos hb]; exact .inl rfl
    rw [if_neg hb, Many_f 30 tn (by omega) (by omega), Option.bind_some]
    by_cases hm : ((manyN tn : Nat) : Int) > (l.length : Int)
    · rw [if_pos hm]; exact .inl rfl
    have hmn : 1 ≤ manyN tn ∧ manyN tn ≤ 2049 := by
      have a1 := tnum_length_pos tn
      have a2 := tnum_length_le' tn (by omega)
      unfold manyN; omega
    rw [if_neg hm, if_pos (by omega), Int.toNat_natCast]
    obtain ⟨ok, st2, al, h4, h5, h6⟩ := ownAll_tot ((l.take (manyN tn)).drop 1) st c h2
    have h7 : ((l.take (manyN tn)).drop 1).length ≤ 2049 := by rw [List.length_drop, List.length_take]; omega
    rw [h4, Option.bind_some]
    dsimp only
    cases ok with
    | false => rw [if_neg (by decide)]; exact .inl rfl
    | true =>
    rw [if_pos rfl]
    have hok2 : okN al := by unfold okN; omega
    obtain ⟨s, hs⟩ : ∃ s, tally_TakeText.f (B al) = some s := ⟨_, TakeText_eq hok2⟩
    rw [hs, Option.bind_some]
    -- (match takeT al with | some (s, r) => (B s, B r, true) | none => (B [], B [], false)) = s
    obtain ⟨p, hp⟩ := Put_tot st2 s.1 h5
    rw [hp, Option.bind_some]
    by_cases he : p.2 = 0
    · obtain ⟨n, S, e1, e2, e3, e4, e5, e6⟩ := Put_some hp he
      rw [if_pos he]
      subst e6
      have hlen := sheafL_length n S
      have hle := nP_le S e5
      obtain ⟨q, h8, h9⟩ := Equal_f 11000 (sheafL n S) (l.take (manyN tn)) (by omega) (by omega)
      dsimp only
      rw [h8, Option.bind_some]
      by_cases hq : q = true
      · right
        exact ⟨n, S, e3, e4, e5, by rw [h9.1 hq]; exact List.take_prefix _ _⟩
      · rw [if_neg hq]; exact .inl rfl
    · rw [if_neg he]; exact .inl rfl
  rcases key with h | ⟨n, S, h0, hn, hS, hp⟩
  · exact .inr h
  · exact .inl ⟨n, S, h0, hn, hS, hp, Get_back n S l h0 hn hS hp⟩
end Go.Proofs.Ytknmbhllinbcjaa.Pure
