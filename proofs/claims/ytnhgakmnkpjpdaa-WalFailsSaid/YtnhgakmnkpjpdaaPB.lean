import Derived.Test.YtnhgakmnkpjpdaaPA
import Derived.Test.YtnhgakmnkpjpdaaLB
import Derived.Test.YtnhgakmnkpjpdaaG4
import Derived.Test.YtnhgakmnkpjpdaaQ2
/- Sheaves of leaves, plain: what Put, Many, Get and Top of the package sheaf answer. -/
set_option linter.unusedVariables false
set_option linter.unusedSimpArgs false
namespace Go.Proofs.Ytnhgakmnkpjpdaa.Pure
open Go Go.RowKit Go.Proofs.Ytnhgakmnkpjpdaa Go.Proofs.Ytnhgakmnkpjpdaa.Q Go.Proofs.YtnhgakmnkpjpdaaW.PrintWords Go.Proofs.YtnhgakmnkpjpdaaW.PrintLast Go.Proofs.YtnhgakmnkpjpdaaW.PrintMore
theorem long_l0 (a : Nat) : ∀ (k : Nat) (c : Nat), a < 18446744073709551616 → c + (hA a).length < 1000 → (hA a).length < k → tally_Long.l0 k (a : Int) (c : Int) = some ((c + (hA a).length : Nat) : Int) := by
  induction a using Nat.strongRecOn with
  | ind a ih =>
    intro k c ha hc hk
    obtain ⟨k, rfl⟩ : ∃ m, k = m + 1 := ⟨k - 1, by omega⟩
    by_cases h : a = 0
    · subst h
      rw [hA_zero, tally_Long.l0, if_neg (by decide)]
      rfl
    · have hp := hA_pos h
      have hlt : (a - 1) / 128 < a := Nat.lt_of_le_of_lt (Nat.div_le_self _ _) (by omega)
      have hlen : (hA a).length = (hA ((a - 1) / 128)).length + 1 := by rw [hp]; simp
      have e1 : IntKind.u64.wrap ((a : Int) - 1) = ((a - 1 : Nat) : Int) := by rw [u64w _ (by omega) (by omega)]; omega
      have e2 : (((a - 1 : Nat) : Int)) / 128 = (((a - 1) / 128 : Nat) : Int) := by omega
      have e3 : wrap64 ((c : Int) + 1) = ((c + 1 : Nat) : Int) := by unfold wrap64; omega
      rw [tally_Long.l0, if_pos (by omega), e1, e2, e3, ih _ hlt k (c + 1) (by omega) (by omega) (by omega), hlen]
      congr 2
      omega
theorem Long_f (k : Nat) (n : Nat) (hn : n < 18446744073709551616) (hk : 24 ≤ k) : tally_Long.f k (n : Int) = some (((tnum n).length : Nat) : Int) := by
  unfold tally_Long.f
  have hl := hA_length_le (n / 128) (by omega)
  have := long_l0 (n / 128) k 1 (by omega) (by omega) (by omega)
  rw [show (n : Int) / 128 = ((n / 128 : Nat) : Int) by omega]
  refine this.trans ?_
  unfold tnum
  rw [List.length_append, List.length_singleton, Nat.add_comm]
def txt (S : List UInt8) : List UInt8 := tnum S.length ++ S
def pc (L : List UInt8) (j : Nat) : List UInt8 := (L.drop (48 * j)).take 48
def nP (L : List UInt8) : Nat := (L.length + 47) / 48
def sheafL (n : Nat) (S : List UInt8) : List ByteArray := (List.range (nP (txt S))).map fun j => B (leafOf n (pc (txt S) j))
theorem pc_length (L : List UInt8) (j : Nat) : (pc L j).length ≤ 48 := by unfold pc; rw [List.length_take]; omega
theorem txt_length (S : List UInt8) : (txt S).length = (tnum S.length).length + S.length := by unfold txt; rw [List.length_append]
theorem nP_pos (S : List UInt8) : 0 < nP (txt S) := by
  have := tnum_length_pos S.length
  have := txt_length S
  unfold nP; omega
theorem sheafL_length (n : Nat) (S : List UInt8) : (sheafL n S).length = nP (txt S) := by unfold sheafL; rw [List.length_map, List.length_range]
theorem map_leaf (n : Nat) (T : List UInt8) : (piecesL T).map (leafB (n : Int)) = (List.range (nP T)).map fun j => B (leafOf n (pc T j)) := by
  unfold piecesL piecesTo nP
  rw [List.map_map]
  apply List.map_congr_left
  intro j _
  show leafB (n : Int) (pieceAt T j) = _
  unfold leafB pieceAt leafOf
  rw [B_data, Int.toNat_natCast]
  show B (leafL n (pc T j)) = _
  rw [leafL_eq n _ (pc_length T j)]
theorem Put_f (n : Nat) (S : List UInt8) (h0 : n ≠ 0) (hn : n < 18446744073709551616) (hS : S.length ≤ 98304) : sheaf_Put.f (n : Int) (B S) = some (sheafL n S, 0) := by
  unfold sheaf_Put.f
  have ht := tnum_length_le' S.length (by omega)
  rw [if_neg (by omega), B_size, if_neg (by omega), Text_f 30 S (by omega) (by omega), Option.bind_some, B_size, B_data, if_pos ⟨⟨by omega, by omega⟩, by rw [List.length_append]; omega⟩, map_leaf]
  rfl
theorem Put_zero (s : ByteArray) : sheaf_Put.f 0 s = some ([], 2) := rfl
theorem Put_long (n : Int) (s : ByteArray) (h0 : n ≠ 0) (hs : 98304 < s.size) : sheaf_Put.f n s = some ([], 3) := by
  unfold sheaf_Put.f; rw [if_neg h0, if_pos (by omega)]
theorem Put_some {n : Int} {s : ByteArray} {r : List ByteArray × Int} (h : sheaf_Put.f n s = some r) (h2 : r.2 = 0) :
    ∃ m S, n = ((m : Nat) : Int) ∧ s = B S ∧ m ≠ 0 ∧ m < 18446744073709551616 ∧ S.length ≤ 98304 ∧ r = (sheafL m S, 0) := by
  obtain ⟨S, rfl, -⟩ := B_ex s
  have h' := h
  unfold sheaf_Put.f at h
  by_cases c0 : n = 0
  · rw [if_pos c0] at h; cases h; cases h2
  rw [if_neg c0] at h
  rw [B_size] at h
  by_cases c1 : ((S.length : Nat) : Int) > 98304
  · rw [if_pos c1] at h; cases h; cases h2
  rw [if_neg c1] at h
  obtain ⟨T, -, h⟩ := Option.bind_eq_some_iff.mp h
  by_cases c2 : (0 < n ∧ n < 18446744073709551616) ∧ T.size < 200000
  · obtain ⟨m, rfl⟩ : ∃ m : Nat, n = (m : Int) := ⟨n.toNat, by omega⟩
    refine ⟨m, S, rfl, rfl, by omega, by omega, by omega, ?_⟩
    rw [Put_f m S (by omega) (by omega) (by omega)] at h'
    exact (Option.some.inj h').symm
  · rw [if_neg c2] at h; cases h
theorem Put_tot (n : Nat) (s : ByteArray) (hn : n < 18446744073709551616) : ∃ r, sheaf_Put.f (n : Int) s = some r := by
  obtain ⟨S, rfl, -⟩ := B_ex s
  by_cases c0 : n = 0
  · subst c0; exact ⟨_, Put_zero _⟩
  by_cases c1 : 98304 < S.length
  · exact ⟨_, Put_long _ _ (by omega) (by rw [B_size]; exact c1)⟩
  · exact ⟨_, Put_f n S c0 hn (by omega)⟩
/-- How many leaves a text of so many bytes takes. -/
def manyN (n : Nat) : Nat := (n + (tnum n).length + 47) / 48
theorem manyN_nP (S : List UInt8) : manyN S.length = nP (txt S) := by unfold manyN nP; rw [txt_length]; congr 1; omega
theorem Many_f (k n : Nat) (hn : n ≤ 1000000000) (hk : 24 ≤ k) : sheaf_Many.f k (n : Int) = some ((manyN n : Nat) : Int) := by
  unfold sheaf_Many.f
  have hl := tnum_length_le' n (by omega)
  have e0 : mx (n : Int) 0 = (n : Int) := by unfold mx; split <;> omega
  rw [e0, u64w _ (by omega) (by omega), Long_f k n (by omega) hk, Option.bind_some]
  unfold manyN
  generalize (tnum n).length = t at hl
  have e1 : wrap64 ((n : Int) / 48) = (n : Int) / 48 := wrap64_in' _ (by omega) (by omega)
  have e2 : wrap64 ((n : Int) % 48 + (t : Int)) = (n : Int) % 48 + (t : Int) := wrap64_in' _ (by omega) (by omega)
  have e3 : wrap64 ((n : Int) % 48 + (t : Int) + 48) = (n : Int) % 48 + (t : Int) + 48 := wrap64_in' _ (by omega) (by omega)
  have e4 : wrap64 ((n : Int) % 48 + (t : Int) + 48 - 1) = (n : Int) % 48 + (t : Int) + 48 - 1 := wrap64_in' _ (by omega) (by omega)
  have e5 : Int.tdiv ((n : Int) % 48 + (t : Int) + 48 - 1) 48 = ((n : Int) % 48 + (t : Int) + 48 - 1) / 48 := Int.tdiv_eq_ediv_of_nonneg (by omega)
  have e6 : wrap64 (((n : Int) % 48 + (t : Int) + 48 - 1) / 48) = ((n : Int) % 48 + (t : Int) + 48 - 1) / 48 := wrap64_in' _ (by omega) (by omega)
  have e7 : wrap64 ((n : Int) / 48 + ((n : Int) % 48 + (t : Int) + 48 - 1) / 48) = (n : Int) / 48 + ((n : Int) % 48 + (t : Int) + 48 - 1) / 48 := wrap64_in' _ (by omega) (by omega)
  rw [e1, e2, e3, e4, e5, e6, e7]
  congr 1
  omega
/-- The contents of the first leaves of a text. -/
def cont (T : List UInt8) (j : Nat) : List UInt8 := T.take (48 * j) ++ List.replicate (48 * j - T.length) 0
theorem cont_zero (T : List UInt8) : cont T 0 = [] := by unfold cont; simp
theorem cont_length (T : List UInt8) (j : Nat) : (cont T j).length = 48 * j := by unfold cont; rw [List.length_append, List.length_take, List.length_replicate]; omega
theorem cont_all (T : List UInt8) (j : Nat) (h : T.length ≤ 48 * j) : cont T j = T ++ List.replicate (48 * j - T.length) 0 := by unfold cont; rw [List.take_of_length_le h]
theorem cont_succ (T : List UInt8) (j : Nat) : cont T (j + 1) = cont T j ++ full (pc T j) := by
  unfold cont full pc
  by_cases h : T.length ≤ 48 * j
  · have e : T.drop (48 * j) = [] := List.drop_eq_nil_of_le h
    rw [e, List.take_of_length_le h, List.take_of_length_le (by omega), List.take_nil, List.nil_append, List.length_nil, List.append_assoc, List.replicate_append_replicate]
    congr 2; omega
  · rw [show 48 * j - T.length = 0 by omega, List.replicate_zero, List.append_nil, show 48 * (j + 1) = 48 * j + 48 by omega, List.take_add, List.append_assoc, List.length_take, List.length_drop]
    congr 3; omega
theorem take_cont (T : List UInt8) : ∃ r, cont T (nP T) = T ++ r := ⟨_, cont_all T _ (by unfold nP; omega)⟩
theorem num_cont (S : List UInt8) (hS : S.length < 18446744073709551616) : ∃ r, cont (txt S) 1 = tnum S.length ++ r := by
  have ht := tnum_length_le' S.length hS
  unfold cont txt
  rw [List.take_append, List.take_of_length_le (by omega), List.append_assoc]
  exact ⟨_, rfl⟩
theorem ownStep_leaf (st : Int) (all : List UInt8) (n : Nat) (p : List UInt8) (h0 : n ≠ 0) (hn : n < 18446744073709551616) (hp : p.length ≤ 48) (h : all = [] ∨ st = n) :
    ownStep st all (B (leafOf n p)) = some (true, (n : Int), all ++ full p) := by
  unfold ownStep
  rw [get_leafOf n p h0 hp hn, Option.bind_some]
  dsimp only
  rw [B_data]
  rcases h with h | h
  · rw [if_pos h]; simp
  · rw [h, ite_self]; simp
def leavesFrom (n : Nat) (T : List UInt8) (j d : Nat) : List ByteArray := (List.range' j d).map fun j => B (leafOf n (pc T j))
theorem sheafL_from (n : Nat) (S : List UInt8) : sheafL n S = leavesFrom n (txt S) 0 (nP (txt S)) := by unfold sheafL leavesFrom; rw [List.range_eq_range']
theorem leavesFrom_succ (n : Nat) (T : List UInt8) (j d : Nat) : leavesFrom n T j (d + 1) = B (leafOf n (pc T j)) :: leavesFrom n T (j + 1) d := rfl
theorem ownAll_leaves (n : Nat) (T : List UInt8) (h0 : n ≠ 0) (hn : n < 18446744073709551616) (d : Nat) : ∀ j, ownAll (leavesFrom n T j d) n (cont T j) = some (true, (n : Int), cont T (j + d)) := by
  induction d with
  | zero => intro j; rfl
  | succ d ih =>
    intro j
    rw [leavesFrom_succ, ownAll, ownStep_leaf _ _ n _ h0 hn (pc_length T j) (.inr rfl), Option.bind_some]
    dsimp only
    rw [if_pos (rfl : true = true), ← cont_succ, ih (j + 1), show j + 1 + d = j + (d + 1) by omega]
end Go.Proofs.Ytnhgakmnkpjpdaa.Pure

/- Sheaves of leaves, plain: what Get and Top of the package sheaf answer. -/
set_option linter.unusedVariables false
set_option linter.unusedSimpArgs false
namespace Go.Proofs.Ytnhgakmnkpjpdaa.Pure
open Go Go.RowKit Go.Proofs.Ytnhgakmnkpjpdaa Go.Proofs.Ytnhgakmnkpjpdaa.Q Go.Proofs.YtnhgakmnkpjpdaaW.PrintWords Go.Proofs.YtnhgakmnkpjpdaaW.PrintLast Go.Proofs.YtnhgakmnkpjpdaaW.PrintMore
theorem toList_inj {x y : ByteArray} (h : x.toList = y.toList) : x = y := by
  obtain ⟨X, rfl, -⟩ := B_ex x
  obtain ⟨Y, rfl, -⟩ := B_ex y
  rw [B_toList, B_toList] at h
  rw [h]
theorem equal_l0 (a b : List ByteArray) (hab : a.length = b.length) (hl : a.length < 9223372036854775807) (d : Nat) : ∀ (k j : Nat), j + d = a.length →
    ∃ q, slices_Equal_string_string.l0 (k + d + 1) a b (a.length : Int) (j : Int) = some q ∧ (q = true ↔ a.drop j = b.drop j) := by
  induction d with
  | zero =>
    intro k j h
    refine ⟨true, ?_, ?_⟩
    · rw [show k + 0 + 1 = k + 1 from rfl, slices_Equal_string_string.l0, if_neg (by omega)]
    · rw [List.drop_eq_nil_of_le (by omega), List.drop_eq_nil_of_le (by omega)]; simp
  | succ d ih =>
    intro k j h
    have e : wrap64 ((j : Int) + 1) = ((j + 1 : Nat) : Int) := by unfold wrap64; omega
    have ha := drop_rdOf a j (by omega) (by omega)
    have hb := drop_rdOf b j (by omega) (by omega)
    rw [Int.toNat_natCast] at ha hb
    rw [show k + (d + 1) + 1 = (k + d + 1) + 1 by omega, slices_Equal_string_string.l0, if_pos (by omega), if_pos (by omega), if_pos (by omega), if_pos (by omega), e, ha, hb]
    by_cases hq : (rdOf ByteArray.empty a (j : Int)).toList = (rdOf ByteArray.empty b (j : Int)).toList
    · obtain ⟨q, h1, h2⟩ := ih k (j + 1) (by omega)
      refine ⟨q, by rw [if_pos hq, h1], ?_⟩
      rw [h2, toList_inj hq]
      simp
    · refine ⟨false, by rw [if_neg hq], ?_⟩
      constructor
      · intro h; cases h
      · intro h; exact absurd (by rw [(List.cons.inj h).1]) hq
theorem Equal_f (k : Nat) (a b : List ByteArray) (hl : a.length < 9223372036854775807) (hk : a.length < k) : ∃ q, slices_Equal_string_string.f k a b = some q ∧ (q = true ↔ a = b) := by
  unfold slices_Equal_string_string.f
  by_cases h : a.length = b.length
  · rw [if_pos (by omega)]
    obtain ⟨m, rfl⟩ : ∃ m, k = m + a.length + 1 := ⟨k - a.length - 1, by omega⟩
    have := equal_l0 a b h hl a.length m 0 (by omega)
    rw [List.drop_zero, List.drop_zero] at this
    exact this
  · rw [if_neg (by omega)]
    refine ⟨false, rfl, ?_⟩
    constructor
    · intro h; cases h
    · intro e; exact absurd (by rw [e]) h
theorem rsame_l0 (a b : List ByteArray) (hab : a.length = b.length) (hl : a.length < 9223372036854775807) (d : Nat) : ∀ (k j : Nat), j + d = a.length →
    ∃ q, quittanceref01_Same.l0 (k + d + 1) a b (j : Int) = some q ∧ (q = true ↔ a.drop j = b.drop j) := by
  induction d with
  | zero =>
    intro k j h
    refine ⟨true, ?_, ?_⟩
    · rw [show k + 0 + 1 = k + 1 from rfl, quittanceref01_Same.l0, if_neg (by omega)]
    · rw [List.drop_eq_nil_of_le (by omega), List.drop_eq_nil_of_le (by omega)]; simp
  | succ d ih =>
    intro k j h
    have e : wrap64 ((j : Int) + 1) = ((j + 1 : Nat) : Int) := by unfold wrap64; omega
    have ha := drop_rdOf a j (by omega) (by omega)
    have hb := drop_rdOf b j (by omega) (by omega)
    rw [Int.toNat_natCast] at ha hb
    rw [show k + (d + 1) + 1 = (k + d + 1) + 1 by omega, quittanceref01_Same.l0, if_pos (by omega), if_pos (by omega), if_pos (by omega), e, ha, hb]
    by_cases hq : (rdOf ByteArray.empty a (j : Int)).toList = (rdOf ByteArray.empty b (j : Int)).toList
    · obtain ⟨q, h1, h2⟩ := ih k (j + 1) (by omega)
      refine ⟨q, by rw [if_pos hq, h1], ?_⟩
      rw [h2, toList_inj hq]
      simp
    · refine ⟨false, by rw [if_neg hq], ?_⟩
      constructor
      · intro h; cases h
      · intro h; exact absurd (by rw [(List.cons.inj h).1]) hq
theorem RSame_f (k : Nat) (a b : List ByteArray) (hl : a.length < 9223372036854775807) (hk : a.length < k) : ∃ q, quittanceref01_Same.f k a b = some q ∧ (q = true ↔ a = b) := by
  unfold quittanceref01_Same.f
  by_cases h : a.length = b.length
  · rw [if_pos (by omega)]
    obtain ⟨m, rfl⟩ : ∃ m, k = m + a.length + 1 := ⟨k - a.length - 1, by omega⟩
    have := rsame_l0 a b h hl a.length m 0 (by omega)
    rw [List.drop_zero, List.drop_zero] at this
    exact this
  · rw [if_neg (by omega)]
    refine ⟨false, rfl, ?_⟩
    constructor
    · intro h; cases h
    · intro e; exact absurd (by rw [e]) h
theorem nP_le (S : List UInt8) (h : S.length ≤ 98304) : nP (txt S) ≤ 2049 := by
  have := tnum_length_le' S.length (by omega)
  have := txt_length S
  unfold nP; omega
theorem sheafL_head (n : Nat) (S : List UInt8) (r : List ByteArray) : rdOf ByteArray.empty (sheafL n S ++ r) 0 = B (leafOf n (pc (txt S) 0)) := by
  obtain ⟨m, hm⟩ : ∃ m, nP (txt S) = m + 1 := ⟨nP (txt S) - 1, by have := nP_pos S; omega⟩
  rw [sheafL_from, hm, leavesFrom_succ]
  rfl
theorem Get_back (n : Nat) (S : List UInt8) (l : List ByteArray) (h0 : n ≠ 0) (hn : n < 18446744073709551616) (hS : S.length ≤ 98304) (h : sheafL n S <+: l) :
    sheaf_Get.f l = some ((n : Int), B S, ((nP (txt S) : Nat) : Int), true) := by
  obtain ⟨r, rfl⟩ := h
  obtain ⟨m, hm⟩ : ∃ m, nP (txt S) = m + 1 := ⟨nP (txt S) - 1, by have := nP_pos S; omega⟩
  have hmle := nP_le S hS
  have hlen := sheafL_length n S
  unfold sheaf_Get.f
  rw [if_neg (by intro e; have := congrArg List.length e; rw [List.length_append, hlen, hm] at this; simp at this), sheafL_head, ownStep_leaf 0 [] n _ h0 hn (pc_length _ _) (.inl rfl), Option.bind_some]
  dsimp only
  have hc1 : [] ++ full (pc (txt S) 0) = cont (txt S) 1 := by rw [cont_succ, cont_zero]
  obtain ⟨r1, hr1⟩ := num_cont S (by omega)
  have hcl := cont_length (txt S) 1
  have htk : takeN (cont (txt S) 1) = some (S.length, r1) := by rw [hr1]; exact takeN_tnum _ (by omega) _
  rw [if_pos (rfl : true = true), hc1, TakeNum_some (by unfold okN; omega) htk, Option.bind_some]
  dsimp only
  rw [if_pos (rfl : true = true), if_neg (by omega), Many_f 30 _ (by omega) (by omega), Option.bind_some, manyN_nP, if_neg (by rw [List.length_append, hlen]; omega), if_pos (by omega), Int.toNat_natCast,
    List.take_append_of_le_length (by omega), List.take_of_length_le (by omega)]
  have hd : (sheafL n S).drop 1 = leavesFrom n (txt S) 1 m := by rw [sheafL_from, hm, leavesFrom_succ]; rfl
  rw [hd, ownAll_leaves n (txt S) h0 hn m 1, Option.bind_some]
  dsimp only
  obtain ⟨r2, hr2⟩ := take_cont (txt S)
  have hcl2 := cont_length (txt S) (nP (txt S))
  have htt : takeT (cont (txt S) (nP (txt S))) = some (S, r2) := by rw [hr2]; exact takeT_back S r2 (by omega)
  rw [if_pos (rfl : true = true), show 1 + m = nP (txt S) by omega, TakeText_eq (by unfold okN; omega), htt, Option.bind_some]
  dsimp only
  rw [Put_f n S h0 hn hS, Option.bind_some, if_pos rfl]
  obtain ⟨q, h1, h2⟩ := Equal_f 11000 (sheafL n S) (sheafL n S) (by omega) (by omega)
  rw [h1, Option.bind_some, if_pos (h2.2 rfl)]
theorem leaf_Get_tot (b : ByteArray) : ∃ (is : Bool) (n : Nat) (c : List UInt8), leaf_Get.f b = some ((n : Int), B c, is) ∧ n < 18446744073709551616 ∧ c.length ≤ 48 := by
  unfold leaf_Get.f
  obtain ⟨L, rfl, -⟩ := B_ex b
  rw [B_size, B_data]
  by_cases hc : L.length = 64 ∧ headNum L ≠ 0 ∧ footNum L = headNum L
  · rw [if_pos hc]
    exact ⟨true, headNum L, (L.drop 8).take (56 - 8), by rw [B_extract], headNum_lt L, by rw [List.length_take]; omega⟩
  · rw [if_neg hc]
    exact ⟨false, 0, [], rfl, by decide, by decide⟩
theorem ownStep_tot (st : Nat) (hst : st < 18446744073709551616) (all : List UInt8) (b : ByteArray) : ∃ (ok : Bool) (st' : Nat) (c : List UInt8), ownStep (st : Int) all b = some (ok, (st' : Int), all ++ c) ∧ st' < 18446744073709551616 ∧ c.length ≤ 48 := by
  obtain ⟨is, n, c, h, h1, h2⟩ := leaf_Get_tot b
  unfold ownStep
  rw [h, Option.bind_some]
  dsimp only
  rw [B_data]
  by_cases ha : all = []
  · rw [if_pos ha]; exact ⟨_, n, c, rfl, h1, h2⟩
  · rw [if_neg ha]; exact ⟨_, st, c, rfl, hst, h2⟩
theorem ownAll_tot (l : List ByteArray) : ∀ (st : Nat) (all : List UInt8), st < 18446744073709551616 → ∃ (ok : Bool) (st' : Nat) (al : List UInt8), ownAll l (st : Int) all = some (ok, (st' : Int), al) ∧ st' < 18446744073709551616 ∧ al.length ≤ all.length + 48 * l.length := by
  induction l with
  | nil => intro st all h; exact ⟨true, st, all, rfl, h, by simp⟩
  | cons b r ih =>
    intro st all h
    obtain ⟨ok, st', c, h1, h2, h3⟩ := ownStep_tot st h all b
    rw [ownAll, h1, Option.bind_some]
    dsimp only
    cases ok with
    | false => rw [if_neg (by decide)]; exact ⟨false, 0, [], rfl, by decide, by simp⟩
    | true =>
      rw [if_pos rfl]
      obtain ⟨ok, st2, al, h4, h5, h6⟩ := ih st' (all ++ c) h2
      exact ⟨ok, st2, al, h4, h5, by rw [List.length_append] at h6; rw [List.length_cons]; omega⟩
theorem getFail_eq : getFail = some (0, B [], 0, false) := rfl
theorem Get_spec (l : List ByteArray) : (∃ n S, n ≠ 0 ∧ n < 18446744073709551616 ∧ S.length ≤ 98304 ∧ sheafL n S <+: l ∧ sheaf_Get.f l = some ((n : Int), B S, ((nP (txt S) : Nat) : Int), true)) ∨ sheaf_Get.f l = some (0, B [], 0, false) := by
  have key : sheaf_Get.f l = some (0, B [], 0, false) ∨ ∃ n S, n ≠ 0 ∧ n < 18446744073709551616 ∧ S.length ≤ 98304 ∧ sheafL n S <+: l := by
    unfold sheaf_Get.f
    rw [getFail_eq]
    by_cases hl : l = []
    · rw [if_pos hl]; exact .inl rfl
    rw [if_neg hl]
    obtain ⟨ok, st, c, h1, h2, h3⟩ := ownStep_tot 0 (by decide) [] (rdOf ByteArray.empty l 0)
    rw [show ((0 : Nat) : Int) = 0 from rfl] at h1
    rw [h1, Option.bind_some]
    dsimp only
    cases ok with
    | false => rw [if_neg (by decide)]; exact .inl rfl
    | true =>
    rw [if_pos rfl, List.nil_append]
    have hok : okN c := by unfold okN; omega
    cases ht : takeN c with
    | none => rw [TakeNum_none hok ht, Option.bind_some]; dsimp only; rw [if_neg (by decide)]; exact .inl rfl
    | some x =>
    obtain ⟨tn, tr⟩ := x
    rw [TakeNum_some hok ht, Option.bind_some]
    dsimp only
    rw [if_pos rfl]
    by_cases hb : ((tn : Nat) : Int) > 98304
    · rw [if_pos hb]; exact .inl rfl
    rw [if_neg hb, Many_f 30 tn (by omega) (by omega), Option.bind_some]
    by_cases hm : ((manyN tn : Nat) : Int) > (l.length : Int)
    · rw [if_pos hm]; exact .inl rfl
    have hmn : 1 ≤ manyN tn ∧ manyN tn ≤ 2049 := by
      have a1 := tnum_length_pos tn
      have a2 := tnum_length_le' tn (by omega)
      unfold manyN; omega
    rw [if_neg hm, if_pos (by omega), Int.toNat_natCast]
    obtain ⟨ok, st2, al, h4, h5, h6⟩ := ownAll_tot ((l.take (manyN tn)).drop 1) st c h2
    have h7 : ((l.take (manyN tn)).drop 1).length ≤ 2049 := by rw [List.length_drop, List.length_take]; omega
    rw [h4, Option.bind_some]
    dsimp only
    cases ok with
    | false => rw [if_neg (by decide)]; exact .inl rfl
    | true =>
    rw [if_pos rfl]
    have hok2 : okN al := by unfold okN; omega
    obtain ⟨s, hs⟩ : ∃ s, tally_TakeText.f (B al) = some s := ⟨_, TakeText_eq hok2⟩
    rw [hs, Option.bind_some]
    -- (match takeT al with | some (s, r) => (B s, B r, true) | none => (B [], B [], false)) = s
    obtain ⟨p, hp⟩ := Put_tot st2 s.1 h5
    rw [hp, Option.bind_some]
    by_cases he : p.2 = 0
    · obtain ⟨n, S, e1, e2, e3, e4, e5, e6⟩ := Put_some hp he
      rw [if_pos he]
      subst e6
      have hlen := sheafL_length n S
      have hle := nP_le S e5
      obtain ⟨q, h8, h9⟩ := Equal_f 11000 (sheafL n S) (l.take (manyN tn)) (by omega) (by omega)
      dsimp only
      rw [h8, Option.bind_some]
      by_cases hq : q = true
      · right
        exact ⟨n, S, e3, e4, e5, by rw [h9.1 hq]; exact List.take_prefix _ _⟩
      · rw [if_neg hq]; exact .inl rfl
    · rw [if_neg he]; exact .inl rfl
  rcases key with h | ⟨n, S, h0, hn, hS, hp⟩
  · exact .inr h
  · exact .inl ⟨n, S, h0, hn, hS, hp, Get_back n S l h0 hn hS hp⟩
end Go.Proofs.Ytnhgakmnkpjpdaa.Pure

/- Sheaves of leaves, plain: what the document's Put, Many, Get and Top answer. -/
set_option linter.unusedVariables false
set_option linter.unusedSimpArgs false
namespace Go.Proofs.Ytnhgakmnkpjpdaa.Pure
open Go Go.RowKit Go.Proofs.Ytnhgakmnkpjpdaa Go.Proofs.Ytnhgakmnkpjpdaa.Q Go.Proofs.YtnhgakmnkpjpdaaW.PrintWords Go.Proofs.YtnhgakmnkpjpdaaW.PrintLast Go.Proofs.YtnhgakmnkpjpdaaW.PrintMore
/-! Top -/
def hd (b : ByteArray) : Nat := if b.size = 64 then headNum b.data.toList else 0
def topL : List ByteArray → Nat → Nat
  | [], m => m
  | b :: r, m => topL r (max m (hd b))
theorem ends_hd (b : ByteArray) : ∃ f : Int, leaf_Ends.f b = some (((hd b : Nat) : Int), f) := by
  unfold leaf_Ends.f hd
  by_cases h : b.size = 64
  · rw [if_pos h, if_pos h]; exact ⟨_, rfl⟩
  · rw [if_neg h, if_neg h]; exact ⟨_, rfl⟩
theorem top_l0 (l : List ByteArray) (hl : l.length < 9223372036854775807) (d : Nat) : ∀ (k j m : Nat), j + d = l.length → sheaf_Top.l0 (k + d + 1) (m : Int) l (l.length : Int) (j : Int) = some ((topL (l.drop j) m : Nat) : Int) := by
  induction d with
  | zero =>
    intro k j m h
    rw [show k + 0 + 1 = k + 1 from rfl, sheaf_Top.l0, if_neg (by omega), List.drop_eq_nil_of_le (by omega)]
    rfl
  | succ d ih =>
    intro k j m h
    have e : wrap64 ((j : Int) + 1) = ((j + 1 : Nat) : Int) := by unfold wrap64; omega
    have ha := drop_rdOf l j (by omega) (by omega)
    rw [Int.toNat_natCast] at ha
    obtain ⟨f, hf⟩ := ends_hd (rdOf ByteArray.empty l (j : Int))
    have hm : mx (m : Int) ((hd (rdOf ByteArray.empty l (j : Int)) : Nat) : Int) = ((max m (hd (rdOf ByteArray.empty l (j : Int))) : Nat) : Int) := by unfold mx; split <;> omega
    rw [show k + (d + 1) + 1 = (k + d + 1) + 1 by omega, sheaf_Top.l0, if_pos (by omega), if_pos (by omega), if_pos (by omega), hf, Option.bind_some]
    dsimp only
    rw [hm, e, ih k (j + 1) _ (by omega), ha]
    rfl
theorem Top_f (k : Nat) (l : List ByteArray) (hl : l.length < 9223372036854775807) (hk : l.length < k) : sheaf_Top.f k l = some ((topL l 0 : Nat) : Int) := by
  obtain ⟨m, rfl⟩ : ∃ m, k = m + l.length + 1 := ⟨k - l.length - 1, by omega⟩
  exact top_l0 l hl l.length m 0 0 (by omega)
theorem hd_leaf (n : Nat) (p : List UInt8) (hn : n < 18446744073709551616) (hp : p.length ≤ 48) : hd (B (leafOf n p)) = n := by
  unfold hd; rw [B_size, B_data, if_pos (leafOf_length n p hp), leafOf_head n p hp hn]
theorem topL_leaves (n : Nat) (T : List UInt8) (hn : n < 18446744073709551616) (d : Nat) : ∀ (j m : Nat), m ≤ n → topL (leavesFrom n T j d) m = if d = 0 then m else n := by
  induction d with
  | zero => intro j m h; rfl
  | succ d ih =>
    intro j m h
    rw [leavesFrom_succ, topL, hd_leaf n _ hn (pc_length _ _), ih _ _ (by omega), if_neg (Nat.succ_ne_zero d)]
    split <;> omega
end Go.Proofs.Ytnhgakmnkpjpdaa.Pure

/- What the laws on sheaves begin with. -/
set_option linter.unusedVariables false
set_option linter.unusedSimpArgs false
namespace Go.Proofs.Ytnhgakmnkpjpdaa.Pure
open Go Go.RowKit Go.Proofs.Ytnhgakmnkpjpdaa Go.Proofs.Ytnhgakmnkpjpdaa.Q Go.Proofs.YtnhgakmnkpjpdaaW.PrintWords Go.Proofs.YtnhgakmnkpjpdaaW.PrintLast Go.Proofs.YtnhgakmnkpjpdaaW.PrintMore
end Go.Proofs.Ytnhgakmnkpjpdaa.Pure

/- SheafTorn, plain: sectors, of which each is a leaf of a writing, or none. -/
set_option linter.unusedVariables false
set_option linter.unusedSimpArgs false
namespace Go.Proofs.Ytnhgakmnkpjpdaa.Pure
open Go Go.RowKit Go.Proofs.Ytnhgakmnkpjpdaa Go.Proofs.Ytnhgakmnkpjpdaa.Q Go.Proofs.YtnhgakmnkpjpdaaW.PrintWords Go.Proofs.YtnhgakmnkpjpdaaW.PrintLast Go.Proofs.YtnhgakmnkpjpdaaW.PrintMore
def sat (sec : List (List UInt8)) (i : Nat) : List UInt8 := sec.getD i []
def Valid (L : List UInt8) (n : Nat) : Prop := L.length = 64 ∧ headNum L = n ∧ footNum L = n
def mid (L : List UInt8) : List UInt8 := (L.drop 8).take 48
theorem torn_valid {s n : Nat} {S L : List UInt8} (hS : S.length ≤ 48) (hs : s < 18446744073709551616) (hn : n ≤ 64) (hL : L.length = 64) (hf : footNum L ≤ headNum L) (hgt : headNum L < s) :
    (torn s S n L).length = 64 ∧ footNum (torn s S n L) ≤ headNum (torn s S n L) ∧
    (∀ m, m ≠ 0 → Valid (torn s S n L) m → (m = s ∧ mid (torn s S n L) = full S) ∨ (m ≠ s ∧ Valid L m ∧ mid (torn s S n L) = mid L)) ∧ (n = 64 → torn s S n L = leafOf s S) := by
  obtain ⟨h1, ⟨h2, h3, h4⟩, -⟩ := torn_step (last := (headNum L : Nat)) (content := B (mid L)) hS hs hn hgt ⟨hL, hf, fun _ _ => ⟨rfl, rfl⟩⟩
  refine ⟨h2, h3, ?_, ?_⟩
  · intro m hm ⟨_, v1, v2⟩
    obtain ⟨h5, h6⟩ := h4 (by omega) (by omega)
    by_cases h8 : 8 ≤ n
    · rw [if_pos h8] at h5 h6
      exact .inl ⟨by omega, (B_inj h6).symm⟩
    · rw [if_neg h8] at h5 h6
      have hd := torn_drop_le (s := s) hS hL hn (by omega)
      have hfe : footNum (torn s S n L) = footNum L := by rw [footNum_eq _ h2, footNum_eq _ hL, hd]
      exact .inr ⟨by omega, ⟨hL, by omega, by omega⟩, (B_inj h6).symm⟩
  · intro h
    subst h
    unfold torn
    rw [List.drop_of_length_le (by omega), List.append_nil, List.take_of_length_le (by rw [leafOf_length s S hS]; exact Nat.le_refl _)]
theorem valid_leaf (n : Nat) (p : List UInt8) (hn : n < 18446744073709551616) (hp : p.length ≤ 48) : Valid (leafOf n p) n ∧ mid (leafOf n p) = full p :=
  ⟨⟨leafOf_length n p hp, leafOf_head n p hp hn, leafOf_foot n p hp hn⟩, leafOf_drop8 n p hp⟩
theorem cont_full {T T' : List UInt8} (m : Nat) (h : ∀ j, j < m → full (pc T j) = full (pc T' j)) : cont T m = cont T' m := by
  induction m with
  | zero => rw [cont_zero, cont_zero]
  | succ m ih => rw [cont_succ, cont_succ, ih (fun j hj => h j (by omega)), h m (by omega)]
theorem text_same {S S' : List UInt8} (hS : S.length ≤ 98304) (hS' : S'.length ≤ 98304) (h : ∀ j, j < nP (txt S) → full (pc (txt S) j) = full (pc (txt S') j)) : S = S' := by
  have hp := nP_pos S
  have h1 := cont_full 1 (fun j hj => h j (by omega))
  obtain ⟨r1, e1⟩ := num_cont S (by omega)
  obtain ⟨r2, e2⟩ := num_cont S' (by omega)
  have t1 := takeN_tnum S.length (by omega) r1
  have t2 := takeN_tnum S'.length (by omega) r2
  rw [← e1, h1, e2, t2] at t1
  have hl : S'.length = S.length := (Prod.mk.inj (Option.some.inj t1)).1
  have hnp : nP (txt S') = nP (txt S) := by unfold nP; rw [txt_length, txt_length, hl]
  have h2 := cont_full (nP (txt S)) h
  obtain ⟨q1, c1⟩ := take_cont (txt S)
  obtain ⟨q2, c2⟩ := take_cont (txt S')
  rw [hnp] at c2
  rw [c1, c2] at h2
  have u1 := takeT_back S q1 (by omega)
  have u2 := takeT_back S' q2 (by omega)
  have u3 : takeT (txt S ++ q1) = takeT (txt S' ++ q2) := by rw [h2]
  have u4 : some (S, q1) = some (S', q2) := u1.symm.trans (u3.trans u2)
  exact (Prod.mk.inj (Option.some.inj u4)).1
theorem topL_ge (l : List ByteArray) : ∀ m, m ≤ topL l m := by
  induction l with
  | nil => intro m; exact Nat.le_refl _
  | cons b r ih => intro m; rw [topL]; exact Nat.le_trans (Nat.le_max_left _ _) (ih _)
theorem topL_mem (l : List ByteArray) : ∀ m b, b ∈ l → hd b ≤ topL l m := by
  induction l with
  | nil => intro m b h; cases h
  | cons c r ih =>
    intro m b h
    rw [topL]
    rcases List.mem_cons.1 h with rfl | h
    · exact Nat.le_trans (Nat.le_max_right _ _) (topL_ge r _)
    · exact ih _ b h
theorem sat_set (sec : List (List UInt8)) (i j : Nat) (v : List UInt8) (hi : i < sec.length) : sat (sec.set i v) j = if j = i then v else sat sec j := by
  unfold sat
  rw [List.getD_eq_getElem?_getD, List.getElem?_set]
  by_cases h : i = j
  · subst h; rw [if_pos rfl, if_pos hi, if_pos rfl]; rfl
  · rw [if_neg h, if_neg (fun e => h e.symm), List.getD_eq_getElem?_getD]
end Go.Proofs.Ytnhgakmnkpjpdaa.Pure
