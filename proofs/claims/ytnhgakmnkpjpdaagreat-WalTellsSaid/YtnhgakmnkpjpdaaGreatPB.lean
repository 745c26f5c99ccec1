import Derived.Test.YtnhgakmnkpjpdaaGreatPA
import Derived.Test.YtnhgakmnkpjpdaaGreatLB
import Derived.Test.YtnhgakmnkpjpdaaGreatG4
import Derived.Test.YtnhgakmnkpjpdaaGreatQ2
/- Sheaves of leaves, plain: what Put, Many, Get and Top of the package sheaf answer. -/
set_option linter.unusedVariables false
set_option linter.unusedSimpArgs false
namespace Go.Proofs.YtnhgakmnkpjpdaaGreat.Pure
open Go Go.RowKit Go.Proofs.YtnhgakmnkpjpdaaGreat Go.Proofs.YtnhgakmnkpjpdaaGreat.Q Go.Proofs.YtnhgakmnkpjpdaaGreatW.PrintWords Go.Proofs.YtnhgakmnkpjpdaaGreatW.PrintLast Go.Proofs.YtnhgakmnkpjpdaaGreatW.PrintMore
theorem long_l0 (a : Nat) : ∀ (k : Nat) (c : Nat), a < 18446744073709551616 → c + (hA a).length < 1000 → (hA a).length < k → tally_Long.l0 k (a : Int) (c : Int) = some ((c + (hA a).length : Nat) : Int) := by
  induction a using Nat.strongRecOn with
  | ind a ih =>
    intro k c ha hc hk
    obtain ⟨k, rfl⟩ : ∃ m, k = m + 1 := ⟨k - 1, by omega⟩
    by_cases h : a = 0
    · subst h
      rw [hA_zero, tally_Long.l0, if_neg (by decide)]
      rfl
    · have hp := hA_pos h
      have hlt : (a - 1) / 128 < a := Nat.lt_of_le_of_lt (Nat.div_le_self _ _) (by omega)
      have hlen : (hA a).length = (hA ((a - 1) / 128)).length + 1 := by rw [hp]; simp
      have e1 : IntKind.u64.wrap ((a : Int) - 1) = ((a - 1 : Nat) : Int) := by rw [u64w _ (by omega) (by omega)]; omega
      have e2 : (((a - 1 : Nat) : Int)) / 128 = (((a - 1) / 128 : Nat) : Int) := by omega
      have e3 : wrap64 ((c : Int) + 1) = ((c + 1 : Nat) : Int) := by unfold wrap64; omega
      rw [tally_Long.l0, if_pos (by omega), e1, e2, e3, ih _ hlt k (c + 1) (by omega) (by omega) (by omega), hlen]
      congr 2
      omega
theorem Long_f (k : Nat) (n : Nat) (hn : n < 18446744073709551616) (hk : 24 ≤ k) : tally_Long.f k (n : Int) = some (((tnum n).length : Nat) : Int) := by
  unfold tally_Long.f
  have hl := hA_length_le (n / 128) (by omega)
  have := long_l0 (n / 128) k 1 (by omega) (by omega) (by omega)
  rw [show (n : Int) / 128 = ((n / 128 : Nat) : Int) by omega]
  refine this.trans ?_
  unfold tnum
  rw [List.length_append, List.length_singleton, Nat.add_comm]
def txt (S : List UInt8) : List UInt8 := tnum S.length ++ S
def pc (L : List UInt8) (j : Nat) : List UInt8 := (L.drop (48 * j)).take 48
def nP (L : List UInt8) : Nat := (L.length + 47) / 48
def sheafL (n : Nat) (S : List UInt8) : List ByteArray := (List.range (nP (txt S))).map fun j => B (leafOf n (pc (txt S) j))
theorem pc_length (L : List UInt8) (j : Nat) : (pc L j).length ≤ 48 := by unfold pc; rw [List.length_take]; omega
theorem txt_length (S : List UInt8) : (txt S).length = (tnum S.length).length + S.length := by unfold txt; rw [List.length_append]
theorem nP_pos (S : List UInt8) : 0 < nP (txt S) := by
  have := tnum_length_pos S.length
  have := txt_length S
  unfold nP; omega
theorem sheafL_length (n : Nat) (S : List UInt8) : (sheafL n S).length = nP (txt S) := by unfold sheafL; rw [List.length_map, List.length_range]
theorem map_leaf (n : Nat) (T : List UInt8) : (piecesL T).map (leafB (n : Int)) = (List.range (nP T)).map fun j => B (leafOf n (pc T j)) := by
  unfold piecesL piecesTo nP
  rw [List.map_map]
  apply List.map_congr_left
  intro j _
  show leafB (n : Int) (pieceAt T j) = _
  unfold leafB pieceAt leafOf
  rw [B_data, Int.toNat_natCast]
  show B (leafL n (pc T j)) = _
  rw [leafL_eq n _ (pc_length T j)]
theorem Put_f (n : Nat) (S : List UInt8) (h0 : n ≠ 0) (hn : n < 18446744073709551616) (hS : S.length ≤ 98304) : sheaf_Put.f (n : Int) (B S) = some (sheafL n S, 0) := by
  unfold sheaf_Put.f
  have ht := tnum_length_le' S.length (by omega)
  rw [if_neg (by omega), B_size, if_neg (by omega), Text_f 30 S (by omega) (by omega), Option.bind_some, B_size, B_data, if_pos ⟨⟨by omega, by omega⟩, by rw [List.length_append]; omega⟩, map_leaf]
  rfl
theorem Put_zero (s : ByteArray) : sheaf_Put.f 0 s = some ([], 2) := rfl
theorem Put_long (n : Int) (s : ByteArray) (h0 : n ≠ 0) (hs : 98304 < s.size) : sheaf_Put.f n s = some ([], 3) := by
  unfold sheaf_Put.f; rw [if_neg h0, if_pos (by omega)]
theorem Put_some {n : Int} {s : ByteArray} {r : List ByteArray × Int} (h : sheaf_Put.f n s = some r) (h2 : r.2 = 0) :
    ∃ m S, n = ((m : Nat) : Int) ∧ s = B S ∧ m ≠ 0 ∧ m < 18446744073709551616 ∧ S.length ≤ 98304 ∧ r = (sheafL m S, 0) := by
  obtain ⟨S, rfl, -⟩ := B_ex s
  have h' := h
  unfold sheaf_Put.f at h
  by_cases c0 : n = 0
  · rw [if_pos c0] at h; cases h; cases h2
  rw [if_neg c0] at h
  rw [B_size] at h
  by_cases c1 : ((S.length : Nat) : Int) > 98304
  · rw [if_pos c1] at h; cases h; cases h2
  rw [if_neg c1] at h
  obtain ⟨T, -, h⟩ := Option.bind_eq_some_iff.mp h
  by_cases c2 : (0 < n ∧ n < 18446744073709551616) ∧ T.size < 200000
  · obtain ⟨m, rfl⟩ : ∃ m : Nat, n = (m : Int) := ⟨n.toNat, by omega⟩
    refine ⟨m, S, rfl, rfl, by omega, by omega, by omega, ?_⟩
    rw [Put_f m S (by omega) (by omega) (by omega)] at h'
    exact (Option.some.inj h').symm
  · rw [if_neg c2] at h; cases h
theorem Put_tot (n : Nat) (s : ByteArray) (hn : n < 18446744073709551616) : ∃ r, sheaf_Put.f (n : Int) s = some r := by
  obtain ⟨S, rfl, -⟩ := B_ex s
  by_cases c0 : n = 0
  · subst c0; exact ⟨_, Put_zero _⟩
  by_cases c1 : 98304 < S.length
  · exact ⟨_, Put_long _ _ (by omega) (by rw [B_size]; exact c1)⟩
  · exact ⟨_, Put_f n S c0 hn (by omega)⟩
/-- How many leaves a text of so many bytes takes. -/
def manyN (n : Nat) : Nat := (n + (tnum n).length + 47) / 48
theorem manyN_nP (S : List UInt8) : manyN S.length = nP (txt S) := by unfold manyN nP; rw [txt_length]; congr 1; omega
theorem Many_f (k n : Nat) (hn : n ≤ 1000000000) (hk : 24 ≤ k) : sheaf_Many.f k (n : Int) = some ((manyN n : Nat) : Int) := by
  unfold sheaf_Many.f
  have hl := tnum_length_le' n (by omega)
  have e0 : mx (n : Int) 0 = (n : Int) := by unfold mx; split <;> omega
  rw [e0, u64w _ (by omega) (by omega), Long_f k n (by omega) hk, Option.bind_some]
  unfold manyN
  generalize (tnum n).length = t at hl
  have e1 : wrap64 ((n : Int) / 48) = (n : Int) / 48 := wrap64_in' _ (by omega) (by omega)
  have e2 : wrap64 ((n : Int) % 48 + (t : Int)) = (n : Int) % 48 + (t : Int) := wrap64_in' _ (by omega) (by omega)
  have e3 : wrap64 ((n : Int) % 48 + (t : Int) + 48) = (n : Int) % 48 + (t : Int) + 48 := wrap64_in' _ (by omega) (by omega)
  have e4 : wrap64 ((n : Int) % 48 + (t : Int) + 48 - 1) = (n : Int) % 48 + (t : Int) + 48 - 1 := wrap64_in' _ (by omega) (by omega)
  have e5 : Int.tdiv ((n : Int) % 48 + (t : Int) + 48 - 1) 48 = ((n : Int) % 48 + (t : Int) + 48 - 1) / 48 := Int.tdiv_eq_ediv_of_nonneg (by omega)
  have e6 : wrap64 (((n : Int) % 48 + (t : Int) + 48 - 1) / 48) = ((n : Int) % 48 + (t : Int) + 48 - 1) / 48 := wrap64_in' _ (by omega) (by omega)
  have e7 : wrap64 ((n : Int) / 48 + ((n : Int) % 48 + (t : Int) + 48 - 1) / 48) = (n : Int) / 48 + ((n : Int) % 48 + (t : Int) + 48 - 1) / 48 := wrap64_in' _ (by omega) (by omega)
  rw [e1, e2, e3, e4, e5, e6, e7]
  congr 1
  omega
/-- The contents of the first leaves of a text. -/
def cont (T : List UInt8) (j : Nat) : List UInt8 := T.take (48 * j) ++ List.replicate (48 * j - T.length) 0
theorem cont_zero (T : List UInt8) : cont T 0 = [] := by unfold cont; simp
theorem cont_length (T : List UInt8) (j : Nat) : (cont T j).length = 48 * j := by unfold cont; rw [List.length_append, List.length_take, List.length_replicate]; omega
theorem cont_all (T : List UInt8) (j : Nat) (h : T.length ≤ 48 * j) : cont T j = T ++ List.replicate (48 * j - T.length) 0 := by unfold cont; rw [List.take_of_length_le h]
theorem cont_succ (T : List UInt8) (j : Nat) : cont T (j + 1) = cont T j ++ full (pc T j) := by
  unfold cont full pc
  by_cases h : T.length ≤ 48 * j
  · have e : T.drop (48 * j) = [] := List.drop_eq_nil_of_le h
    rw [e, List.take_of_length_le h, List.take_of_length_le (by omega), List.take_nil, List.nil_append, List.length_nil, List.append_assoc, List.replicate_append_replicate]
    congr 2; omega
  · rw [show 48 * j - T.length = 0 by omega, List.replicate_zero, List.append_nil, show 48 * (j + 1) = 48 * j + 48 by omega, List.take_add, List.append_assoc, List.length_take, List.length_drop]
    congr 3; omega
theorem take_cont (T : List UInt8) : ∃ r, cont T (nP T) = T ++ r := ⟨_, cont_all T _ (by unfold nP; omega)⟩
theorem num_cont (S : List UInt8) (hS : S.length < 18446744073709551616) : ∃ r, cont (txt S) 1 = tnum S.length ++ r := by
  have ht := tnum_length_le' S.length hS
  unfold cont txt
  rw [List.take_append, List.take_of_length_le (by omega), List.append_assoc]
  exact ⟨_, rfl⟩
theorem ownStep_leaf (st : Int) (all : List UInt8) (n : Nat) (p : List UInt8) (h0 : n ≠ 0) (hn : n < 18446744073709551616) (hp : p.length ≤ 48) (h : all = [] ∨ st = n) :
    ownStep st all (B (leafOf n p)) = some (true, (n : Int), all ++ full p) := by
  unfold ownStep
  rw [get_leafOf n p h0 hp hn, Option.bind_some]
  dsimp only
  rw [B_data]
  rcases h with h | h
  · rw [if_pos h]; simp
  · rw [h, ite_self]; simp
def leavesFrom (n : Nat) (T : List UInt8) (j d : Nat) : List ByteArray := (List.range' j d).map fun j => B (leafOf n (pc T j))
theorem sheafL_from (n : Nat) (S : List UInt8) : sheafL n S = leavesFrom n (txt S) 0 (nP (txt S)) := by unfold sheafL leavesFrom; rw [List.range_eq_range']
theorem leavesFrom_succ (n : Nat) (T : List UInt8) (j d : Nat) : leavesFrom n T j (d + 1) = B (leafOf n (pc T j)) :: leavesFrom n T (j + 1) d := rfl
theorem ownAll_leaves (n : Nat) (T : List UInt8) (h0 : n ≠ 0) (hn : n < 18446744073709551616) (d : Nat) : ∀ j, ownAll (leavesFrom n T j d) n (cont T j) = some (true, (n : Int), cont T (j + d)) := by
  induction d with
  | zero => intro j; rfl
  | succ d ih =>
    intro j
    rw [leavesFrom_succ, ownAll, ownStep_leaf _ _ n _ h0 hn (pc_length T j) (.inr rfl), Option.bind_some]
    dsimp only
    rw [if_pos (rfl : true = true), ← cont_succ, ih (j + 1), show j + 1 + d = j + (d + 1) by omega]
end Go.Proofs.YtnhgakmnkpjpdaaGreat.Pure

/- Sheaves of leaves, plain: what Get and Top of the package sheaf answer. -/
set_option linter.unusedVariables false
set_option linter.unusedSimpArgs false
namespace Go.Proofs.YtnhgakmnkpjpdaaGreat.Pure
open Go Go.RowKit Go.Proofs.YtnhgakmnkpjpdaaGreat Go.Proofs.YtnhgakmnkpjpdaaGreat.Q Go.Proofs.YtnhgakmnkpjpdaaGreatW.PrintWords Go.Proofs.YtnhgakmnkpjpdaaGreatW.PrintLast Go.Proofs.YtnhgakmnkpjpdaaGreatW.PrintMore
theorem toList_inj {x y : ByteArray} (h : x.toList = y.toList) : x = y := by
  obtain ⟨X, rfl, -⟩ := B_ex x
  obtain ⟨Y, rfl, -⟩ := B_ex y
  rw [B_toList, B_toList] at h
  rw [h]
theorem equal_l0 (a b : List ByteArray) (hab : a.length = b.length) (hl : a.length < 9223372036854775807) (d : Nat) : ∀ (k j : Nat), j + d = a.length →
    ∃ q, slices_Equal_string_string.l0 (k + d + 1) a b (a.length : Int) (j : Int) = some q ∧ (q = true ↔ a.drop j = b.drop j) := by
  induction d with
  | zero =>
    intro k j h
    refine ⟨true, ?_, ?_⟩
    · rw [show k + 0 + 1 = k + 1 from rfl, slices_Equal_string_string.l0, if_neg (by omega)]
    · rw [List.drop_eq_nil_of_le (by omega), List.drop_eq_nil_of_le (by omega)]; simp
  | succ d ih =>
    intro k j h
    have e : wrap64 ((j : Int) + 1) = ((j + 1 : Nat) : Int) := by unfold wrap64; omega
    have ha := drop_rdOf a j (by omega) (by omega)
    have hb := drop_rdOf b j (by omega) (by omega)
    rw [Int.toNat_natCast] at ha hb
    rw [show k + (d + 1) + 1 = (k + d + 1) + 1 by omega, slices_Equal_string_string.l0, if_pos (by omega), if_pos (by omega), if_pos (by omega), if_pos (by omega), e, ha, hb]
    by_cases hq : (rdOf ByteArray.empty a (j : Int)).toList = (rdOf ByteArray.empty b (j : Int)).toList
    · obtain ⟨q, h1, h2⟩ := ih k (j + 1) (by omega)
      refine ⟨q, by rw [if_pos hq, h1], ?_⟩
      rw [h2, toList_inj hq]
      simp
    · refine ⟨false, by rw [if_neg hq], ?_⟩
      constructor
      · intro h; cases h
      · intro h; exact absurd (by rw [(List.cons.inj h).1]) hq
theorem Equal_f (k : Nat) (a b : List ByteArray) (hl : a.length < 9223372036854775807) (hk : a.length < k) : ∃ q, slices_Equal_string_string.f k a b = some q ∧ (q = true ↔ a = b) := by
  unfold slices_Equal_string_string.f
  by_cases h : a.length = b.length
  · rw [if_pos (by omega)]
    obtain ⟨m, rfl⟩ : ∃ m, k = m + a.length + 1 := ⟨k - a.length - 1, by omega⟩
    have := equal_l0 a b h hl a.length m 0 (by omega)
    rw [List.drop_zero, List.drop_zero] at this
    exact this
  · rw [if_neg (by omega)]
    refine ⟨false, rfl, ?_⟩
    constructor
    · intro h; cases h
    · intro e; exact absurd (by rw [e]) h
theorem rsame_l0 (a b : List ByteArray) (hab : a.length = b.length) (hl : a.length < 9223372036854775807) (d : Nat) : ∀ (k j : Nat), j + d = a.length →
    ∃ q, quittanceref01_Same.l0 (k + d + 1) a b (j : Int) = some q ∧ (q = true ↔ a.drop j = b.drop j) := by
  induction d with
  | zero =>
    intro k j h
    refine ⟨true, ?_, ?_⟩
    · rw [show k + 0 + 1 = k + 1 from rfl, quittanceref01_Same.l0, if_neg (by omega)]
    · rw [List.drop_eq_nil_of_le (by omega), List.drop_eq_nil_of_le (by omega)]; simp
  | succ d ih =>
    intro k j h
    have e : wrap64 ((j : Int) + 1) = ((j + 1 : Nat) : Int) := by unfold wrap64; omega
    have ha := drop_rdOf a j (by omega) (by omega)
    have hb := drop_rdOf b j (by omega) (by omega)
    rw [Int.toNat_natCast] at ha hb
    rw [show k + (d + 1) + 1 = (k + d + 1) + 1 by omega, quittanceref01_Same.l0, if_pos (by omega), if_pos (by omega), if_pos (by omega), e, ha, hb]
    by_cases hq : (rdOf ByteArray.empty a (j : Int)).toList = (rdOf ByteArray.empty b (j : Int)).toList
    · obtain ⟨q, h1, h2⟩ := ih k (j + 1) (by omega)
      refine ⟨q, by rw [if_pos hq, h1], ?_⟩
      rw [h2, toList_inj hq]
      simp
    · refine ⟨false, by rw [if_neg hq], ?_⟩
      constructor
      · intro h; cases h
      · intro h; exact absurd (by rw [(List.cons.inj h).1]) hq
theorem RSame_f (k : Nat) (a b : List ByteArray) (hl : a.length < 9223372036854775807) (hk : a.length < k) : ∃ q, quittanceref01_Same.f k a b = some q ∧ (q = true ↔ a = b) := by
  unfold quittanceref01_Same.f
  by_cases h : a.length = b.length
  · rw [if_pos (by omega)]
    obtain ⟨m, rfl⟩ : ∃ m, k = m + a.length + 1 := ⟨k - a.length - 1, by omega⟩
    have := rsame_l0 a b h hl a.length m 0 (by omega)
    rw [List.drop_zero, List.drop_zero] at this
    exact this
  · rw [if_neg (by omega)]
    refine ⟨false, rfl, ?_⟩
    constructor
    · intro h; cases h
    · intro e; exact absurd (by rw [e]) h
theorem nP_le (S : List UInt8) (h : S.length ≤ 98304) : nP (txt S) ≤ 2049 := by
  have := tnum_length_le' S.length (by omega)
  have := txt_length S
  unfold nP; omega
theorem sheafL_head (n : Nat) (S : List UInt8) (r : List ByteArray) : rdOf ByteArray.empty (sheafL n S ++ r) 0 = B (leafOf n (pc (txt S) 0)) := by
  obtain ⟨m, hm⟩ : ∃ m, nP (txt S) = m + 1 := ⟨nP (txt S) - 1, by have := nP_pos S; omega⟩
  rw [sheafL_from, hm, leavesFrom_succ]
  rfl
theorem Get_back (n : Nat) (S : List UInt8) (l : List ByteArray) (h0 : n ≠ 0) (hn : n < 18446744073709551616) (hS : S.length ≤ 98304) (h : sheafL n S <+: l) :
    sheaf_Get.f l = some ((n : Int), B S, ((nP (txt S) : Nat) : Int), true) := by
  obtain ⟨r, rfl⟩ := h
  obtain ⟨m, hm⟩ : ∃ m, nP (txt S) = m + 1 := ⟨nP (txt S) - 1, by have := nP_pos S; omega⟩
  have hmle := nP_le S hS
  have hlen := sheafL_length n S
  unfold sheaf_Get.f
  rw [if_neg (by intro e; have := congrArg List.length e; rw [List.length_append, hlen, hm] at this; simp at this), sheafL_head, ownStep_leaf 0 [] n _ h0 hn (pc_length _ _) (.inl rfl), Option.bind_some]
  dsimp only
  have hc1 : [] ++ full (pc (txt S) 0) = cont (txt S) 1 := by rw [cont_succ, cont_zero]
  obtain ⟨r1, hr1⟩ := num_cont S (by omega)
  have hcl := cont_length (txt S) 1
  have htk : takeN (cont (txt S) 1) = some (S.length, r1) := by rw [hr1]; exact takeN_tnum _ (by omega) _
  rw [if_pos (rfl : true = true), hc1, TakeNum_some (by unfold okN; omega) htk, Option.bind_some]
  dsimp only
  rw [if_pos (rfl : true = true), if_neg (by omega), Many_f 30 _ (by omega) (by omega), Option.bind_some, manyN_nP, if_neg (by rw [List.length_append, hlen]; omega), if_pos (by omega), Int.toNat_natCast,
    List.take_append_of_le_length (by omega), List.take_of_length_le (by omega)]
  have hd : (sheafL n S).drop 1 = leavesFrom n (txt S) 1 m := by rw [sheafL_from, hm, leavesFrom_succ]; rfl
  rw [hd, ownAll_leaves n (txt S) h0 hn m 1, Option.bind_some]
  dsimp only
  obtain ⟨r2, hr2⟩ := take_cont (txt S)
  have hcl2 := cont_length (txt S) (nP (txt S))
  have htt : takeT (cont (txt S) (nP (txt S))) = some (S, r2) := by rw [hr2]; exact takeT_back S r2 (by omega)
  rw [if_pos (rfl : true = true), show 1 + m = nP (txt S) by omega, TakeText_eq (by unfold okN; omega), htt, Option.bind_some]
  dsimp only
  rw [Put_f n S h0 hn hS, Option.bind_some, if_pos rfl]
  obtain ⟨q, h1, h2⟩ := Equal_f 11000 (sheafL n S) (sheafL n S) (by omega) (by omega)
  rw [h1, Option.bind_some, if_pos (h2.2 rfl)]
theorem leaf_Get_tot (b : ByteArray) : ∃ (is : Bool) (n : Nat) (c : List UInt8), leaf_Get.f b = some ((n : Int), B c, is) ∧ n < 18446744073709551616 ∧ c.length ≤ 48 := by
  unfold leaf_Get.f
  obtain ⟨L, rfl, -⟩ := B_ex b
  rw [B_size, B_data]
  by_cases hc : L.length = 64 ∧ headNum L ≠ 0 ∧ footNum L = headNum L
  · rw [if_pos hc]
    exact ⟨true, headNum L, (L.drop 8).take (56 - 8), by rw [B_extract], headNum_lt L, by rw [List.length_take]; omega⟩
  · rw [if_neg hc]
    exact ⟨false, 0, [], rfl, by decide, by decide⟩
theorem ownStep_tot (st : Nat) (hst : st < 18446744073709551616) (all : List UInt8) (b : ByteArray) : ∃ (ok : Bool) (st' : Nat) (c : List UInt8), ownStep (st : Int) all b = some (ok, (st' : Int), all ++ c) ∧ st' < 18446744073709551616 ∧ c.length ≤ 48 := by
  obtain ⟨is, n, c, h, h1, h2⟩ := leaf_Get_tot b
  unfold ownStep
  rw [h, Option.bind_some]
  dsimp only
  rw [B_data]
  by_cases ha : all = []
  · rw [if_pos ha]; exact ⟨_, n, c, rfl, h1, h2⟩
  · rw [if_neg ha]; exact ⟨_, st, c, rfl, hst, h2⟩
theorem ownAll_tot (l : List ByteArray) : ∀ (st : Nat) (all : List UInt8), st < 18446744073709551616 → ∃ (ok : Bool) (st' : Nat) (al : List UInt8), ownAll l (st : Int) all = some (ok, (st' : Int), al) ∧ st' < 18446744073709551616 ∧ al.length ≤ all.length + 48 * l.length := by
  induction l with
  | nil => intro st all h; exact ⟨true, st, all, rfl, h, by simp⟩
  | cons b r ih =>
    intro st all h
    obtain ⟨ok, st', c, h1, h2, h3⟩ := ownStep_tot st h all b
    rw [ownAll, h1, Option.bind_some]
    dsimp only
    cases ok with
    | false => rw [if_neg (by decide)]; exact ⟨false, 0, [], rfl, by decide, by simp⟩
    | true =>
      rw [if_pos rfl]
      obtain ⟨ok, st2, al, h4, h5, h6⟩ := ih st' (all ++ c) h2
      exact ⟨ok, st2, al, h4, h5, by rw [List.length_append] at h6; rw [List.length_cons]; omega⟩
theorem getFail_eq : getFail = some (0, B [], 0, false) := rfl
theorem Get_spec (l : List ByteArray) : (∃ n S, n ≠ 0 ∧ n < 18446744073709551616 ∧ S.length ≤ 98304 ∧ sheafL n S <+: l ∧ sheaf_Get.f l = some ((n : Int), B S, ((nP (txt S) : Nat) : Int), true)) ∨ sheaf_Get.f l = some (0, B [], 0, false) := by
  have key : sheaf_Get.f l = some (0, B [], 0, false) ∨ ∃ n S, n ≠ 0 ∧ n < 18446744073709551616 ∧ S.length ≤ 98304 ∧ sheafL n S <+: l := by
    unfold sheaf_Get.f
    rw [getFail_eq]
    by_cases hl : l = []
    · rw [if_pos hl]; exact .inl rfl
    rw [if_neg hl]
    obtain ⟨ok, st, c, h1, h2, h3⟩ := ownStep_tot 0 (by decide) [] (rdOf ByteArray.empty l 0)
    rw [show ((0 : Nat) : Int) = 0 from rfl] at h1
    rw [h1, Option.bind_some]
    dsimp only
    cases ok with
    | false => rw [if_neg (by decide)]; exact .inl rfl
    | true =>
    rw [if_pos rfl, List.nil_append]
    have hok : okN c := by unfold okN; omega
    cases ht : takeN c with
    | none => rw [TakeNum_none hok ht, Option.bind_some]; dsimp only; rw [if_neg (by decide)]; exact .inl rfl
    | some x =>
    obtain ⟨tn, tr⟩ := x
    rw [TakeNum_some hok ht, Option.bind_some]
    dsimp only
    rw [if_pos rfl]
    by_cases hb : ((tn : Nat) : Int) > 98304
    · rw [if_pos hb]; exact .inl rfl
    rw [if_neg hb, Many_f 30 tn (by omega) (by omega), Option.bind_some]
    by_cases hm : ((manyN tn : Nat) : Int) > (l.length : Int)
    · rw [if_pos hm]; exact .inl rfl
    have hmn : 1 ≤ manyN tn ∧ manyN tn ≤ 2049 := by
      have a1 := tnum_length_pos tn
      have a2 := tnum_length_le' tn (by omega)
      unfold manyN; omega
    rw [if_neg hm, if_pos (by omega), Int.toNat_natCast]
    obtain ⟨ok, st2, al, h4, h5, h6⟩ := ownAll_tot ((l.take (manyN tn)).drop 1) st c h2
    have h7 : ((l.take (manyN tn)).drop 1).length ≤ 2049 := by rw [List.length_drop, List.length_take]; omega
    rw [h4, Option.bind_some]
    dsimp only
    cases ok with
    | false => rw [if_neg (by decide)]; exact .inl rfl
    | true =>
    rw [if_pos rfl]
    have hok2 : okN al := by unfold okN; omega
    obtain ⟨s, hs⟩ : ∃ s, tally_TakeText.f (B al) = some s := ⟨_, TakeText_eq hok2⟩
    rw [hs, Option.bind_some]
    -- (match takeT al with | some (s, r) => (B s, B r, true) | none => (B [], B [], false)) = s
    obtain ⟨p, hp⟩ := Put_tot st2 s.1 h5
    rw [hp, Option.bind_some]
    by_cases he : p.2 = 0
    · obtain ⟨n, S, e1, e2, e3, e4, e5, e6⟩ := Put_some hp he
      rw [if_pos he]
      subst e6
      have hlen := sheafL_length n S
      have hle := nP_le S e5
      obtain ⟨q, h8, h9⟩ := Equal_f 11000 (sheafL n S) (l.take (manyN tn)) (by omega) (by omega)
      dsimp only
      rw [h8, Option.bind_some]
      by_cases hq : q = true
      · right
        exact ⟨n, S, e3, e4, e5, by rw [h9.1 hq]; exact List.take_prefix _ _⟩
      · rw [if_neg hq]; exact .inl rfl
    · rw [if_neg he]; exact .inl rfl
  rcases key with h | ⟨n, S, h0, hn, hS, hp⟩
  · exact .inr h
  · exact .inl ⟨n, S, h0, hn, hS, hp, Get_back n S l h0 hn hS hp⟩
end Go.Proofs.YtnhgakmnkpjpdaaGreat.Pure

/- Sheaves of leaves, plain: what the document's Put, Many, Get and Top answer. -/
set_option linter.unusedVariables false
set_option linter.unusedSimpArgs false
namespace Go.Proofs.YtnhgakmnkpjpdaaGreat.Pure
open Go Go.RowKit Go.Proofs.YtnhgakmnkpjpdaaGreat Go.Proofs.YtnhgakmnkpjpdaaGreat.Q Go.Proofs.YtnhgakmnkpjpdaaGreatW.PrintWords Go.Proofs.YtnhgakmnkpjpdaaGreatW.PrintLast Go.Proofs.YtnhgakmnkpjpdaaGreatW.PrintMore
theorem RText_f (S : List UInt8) (hS : S.length < 9223372036854775000) : quittanceref01_Text.f (B S) = some (B (txt S)) := by
  unfold quittanceref01_Text.f
  have := tnum_length_le' S.length (by omega)
  rw [B_size, u64w _ (by omega) (by omega), RNum_f _ (by omega), Option.bind_some, B_size, if_pos (by omega), B_append]
  rfl
theorem rput_l0 (n : Nat) (T : List UInt8) (h0 : n ≠ 0) (hn : n < 18446744073709551616) (hT : T.length ≤ 3100) (d : Nat) : ∀ (k j : Nat) (acc : List ByteArray), j + d = nP T → acc.length = j → 60 + d ≤ k →
    quittanceref04_Put.l0 k (n : Int) (B T) acc ((48 * j : Nat) : Int) = some (acc ++ leavesFrom n T j d, 0) := by
  induction d with
  | zero =>
    intro k j acc hj ha hk
    obtain ⟨k, rfl⟩ : ∃ m, k = m + 1 := ⟨k - 1, by omega⟩
    rw [quittanceref04_Put.l0, if_neg (by rw [B_size]; unfold nP at hj; omega)]
    simp [leavesFrom]
  | succ d ih =>
    intro k j acc hj ha hk
    obtain ⟨k, rfl⟩ : ∃ m, k = m + 1 := ⟨k - 1, by omega⟩
    have hlt : 48 * j < T.length := by unfold nP at hj; omega
    have hjle : j ≤ 65 := by unfold nP at hj; omega
    have e : wrap64 (((48 * j : Nat) : Int) + 48) = ((48 * (j + 1) : Nat) : Int) := by rw [wrap64_in' _ (by omega) (by omega)]; omega
    obtain ⟨m, hm, hm1, hm2, hm3⟩ : ∃ m : Nat, mn ((48 * (j + 1) : Nat) : Int) ((B T).size : Int) = (m : Int) ∧ 48 * j ≤ m ∧ m ≤ T.length ∧ (m = 48 * (j + 1) ∨ (m = T.length ∧ T.length ≤ 48 * (j + 1))) := by
      rw [B_size]
      unfold mn
      split
      · exact ⟨T.length, rfl, by omega, by omega, by omega⟩
      · exact ⟨48 * (j + 1), rfl, by omega, by omega, by omega⟩
    have hpc : (B T).extract ((48 * j : Nat) : Int).toNat (m : Int).toNat = B (pc T j) := by
      rw [Int.toNat_natCast, Int.toNat_natCast, B_extract]
      unfold pc
      rcases hm3 with h | ⟨h, h'⟩
      · rw [h, show 48 * (j + 1) - 48 * j = 48 by omega]
      · rw [List.take_of_length_le (by rw [List.length_drop]; omega), List.take_of_length_le (by rw [List.length_drop]; omega)]
    rw [quittanceref04_Put.l0, e, hm, if_pos (by rw [B_size]; omega), if_pos (by omega), if_pos (by omega), if_pos (by rw [B_size]; omega), hpc, refPut n _ h0 hn (pc_length T j) (by omega), Option.bind_some]
    dsimp only
    rw [if_pos (by omega), ih k (j + 1) _ (by omega) (by rw [List.length_append, List.length_singleton]; omega) (by omega), leavesFrom_succ, List.append_assoc]
    rfl
theorem RPut_f (k n : Nat) (S : List UInt8) (h0 : n ≠ 0) (hn : n < 18446744073709551616) (hS : S.length ≤ 3000) (hk : 200 ≤ k) : quittanceref04_Put.f k (n : Int) (B S) = some (sheafL n S, 0) := by
  have ht := tnum_length_le' S.length (by omega)
  have hl := txt_length S
  have hp : nP (txt S) ≤ 100 := by unfold nP; omega
  unfold quittanceref04_Put.f
  rw [if_neg (by omega), if_neg (by rw [B_size]; omega), RText_f S (by omega), Option.bind_some]
  have := rput_l0 n (txt S) h0 hn (by omega) (nP (txt S)) k 0 [] (by omega) rfl (by omega)
  rw [show ((48 * 0 : Nat) : Int) = 0 from rfl] at this
  rw [this, sheafL_from]
  rfl
theorem RPut_zero (k : Nat) (s : ByteArray) : quittanceref04_Put.f k 0 s = some ([], 2) := by unfold quittanceref04_Put.f; rw [if_pos rfl]
theorem rget_step (l : List ByteArray) (k i : Nat) (all : List UInt8) (st : Nat) (is : Bool) (n : Nat) (c : List UInt8) (hi : i < l.length) (hl : l.length ≤ 1000) (ha : all.length ≤ 48 * i) (hc : c.length ≤ 48) (hk : 49 ≤ k)
    (hg : leaf_Get.f (rdOf ByteArray.empty l (i : Int)) = some ((n : Int), B c, is)) :
    quittanceref04_Get.l0 (k + 1) l (B all) (st : Int) (i : Int) = if is = true ∧ (i = 0 ∨ n = st) then quittanceref04_Get.l0 k l (B (all ++ c)) (n : Int) ((i + 1 : Nat) : Int) else quittanceref04_Get.j1 k l (B all) ((if i = 0 then n else st : Nat) : Int) := by
  have e : wrap64 ((i : Int) + 1) = ((i + 1 : Nat) : Int) := by rw [wrap64_in' _ (by omega) (by omega)]; omega
  rw [quittanceref04_Get.l0, if_pos (by omega), if_pos (by omega), get_one _ hk, hg, Option.bind_some]
  dsimp only
  by_cases h0 : i = 0
  · rw [if_pos (by omega)]
    cases is with
    | false => rw [if_neg (by decide), if_neg (by simp), if_pos h0]
    | true => rw [if_pos rfl, if_pos rfl, if_pos (by rw [B_size, B_size]; omega), if_pos ⟨rfl, .inl h0⟩, e, B_append]
  · rw [if_neg (by omega)]
    cases is with
    | false => rw [if_neg (by decide), if_neg (by simp), if_neg h0]
    | true =>
      rw [if_pos rfl]
      by_cases hs : n = st
      · subst hs
        rw [if_pos rfl, if_pos (by rw [B_size, B_size]; omega), if_pos ⟨rfl, .inr rfl⟩, e, B_append]
      · rw [if_neg (by omega), if_neg (by omega), if_neg h0]
theorem rget_tot (l : List ByteArray) (hl : l.length ≤ 1000) (d : Nat) : ∀ (k i : Nat) (all : List UInt8) (st : Nat), i + d = l.length → all.length ≤ 48 * i → st < 18446744073709551616 →
    ∃ k' c st', quittanceref04_Get.l0 (k + 60 + d) l (B all) (st : Int) (i : Int) = quittanceref04_Get.j1 k' l (B (all ++ c)) ((st' : Nat) : Int) ∧ k ≤ k' ∧ (all ++ c).length ≤ 48 * l.length ∧ st' < 18446744073709551616 ∧ (i ≠ 0 → st' = st) := by
  induction d with
  | zero =>
    intro k i all st h ha hs
    refine ⟨k + 59, [], st, ?_, by omega, by rw [List.append_nil]; omega, hs, fun _ => rfl⟩
    rw [show k + 60 + 0 = (k + 59) + 1 from rfl, quittanceref04_Get.l0, if_neg (by omega), List.append_nil]
  | succ d ih =>
    intro k i all st h ha hs
    obtain ⟨is, n, c, hg, hn, hc⟩ := leaf_Get_tot (rdOf ByteArray.empty l (i : Int))
    rw [show k + 60 + (d + 1) = (k + 60 + d) + 1 by omega, rget_step l (k + 60 + d) i all st is n c (by omega) hl ha hc (by omega) hg]
    by_cases hb : is = true ∧ (i = 0 ∨ n = st)
    · rw [if_pos hb]
      obtain ⟨k', c', st', h1, h2, h3, h4, h5⟩ := ih k (i + 1) (all ++ c) n (by omega) (by rw [List.length_append]; omega) hn
      refine ⟨k', c ++ c', st', by rw [h1, List.append_assoc], h2, by rw [← List.append_assoc]; exact h3, h4, ?_⟩
      intro h0
      rw [h5 (by omega)]
      exact hb.2.resolve_left h0
    · rw [if_neg hb]
      refine ⟨k + 60 + d, [], if i = 0 then n else st, by rw [List.append_nil], by omega, by rw [List.append_nil]; omega, by split <;> omega, ?_⟩
      intro h0
      rw [if_neg h0]
theorem rd_leaf (n : Nat) (S : List UInt8) (r : List ByteArray) (j : Nat) (hj : j < nP (txt S)) : rdOf ByteArray.empty (sheafL n S ++ r) (j : Int) = B (leafOf n (pc (txt S) j)) := by
  unfold rdOf
  rw [Int.toNat_natCast, List.getD_eq_getElem?_getD, List.getElem?_append_left (by rw [sheafL_length]; exact hj)]
  unfold sheafL
  rw [List.getElem?_map, List.getElem?_range hj]
  rfl
theorem rget_leaves (n : Nat) (S : List UInt8) (r : List ByteArray) (h0 : n ≠ 0) (hn : n < 18446744073709551616) (hl : (sheafL n S ++ r).length ≤ 1000) (d : Nat) : ∀ (k j : Nat) (st : Nat), j + d ≤ nP (txt S) → 49 ≤ k → (j = 0 ∨ st = n) →
    ∃ st', (j + d = 0 ∨ st' = n) ∧ quittanceref04_Get.l0 (k + d) (sheafL n S ++ r) (B (cont (txt S) j)) (st : Int) (j : Int) = quittanceref04_Get.l0 k (sheafL n S ++ r) (B (cont (txt S) (j + d))) ((st' : Nat) : Int) ((j + d : Nat) : Int) := by
  have hlen := sheafL_length n S
  induction d with
  | zero => intro k j st h hk hj; exact ⟨st, by simpa using hj, rfl⟩
  | succ d ih =>
    intro k j st h hk hj
    have hg := get_leafOf n (pc (txt S) j) h0 (pc_length _ _) hn
    rw [← rd_leaf n S r j (by omega)] at hg
    have hstep := rget_step (sheafL n S ++ r) (k + d) j (cont (txt S) j) st true n (full (pc (txt S) j)) (by rw [List.length_append]; omega) hl (by rw [cont_length]; exact Nat.le_refl _) (by rw [full_length _ (pc_length _ _)]; exact Nat.le_refl _) (by omega) hg
    rw [if_pos ⟨rfl, by omega⟩, ← cont_succ] at hstep
    obtain ⟨st', h1, h2⟩ := ih k (j + 1) n (by omega) hk (.inr rfl)
    refine ⟨st', by omega, ?_⟩
    rw [show k + (d + 1) = k + d + 1 by omega, hstep, h2, show j + 1 + d = j + (d + 1) by omega]
theorem RGet_back (k n : Nat) (S : List UInt8) (l : List ByteArray) (h0 : n ≠ 0) (hn : n < 18446744073709551616) (hS : S.length ≤ 3000) (hl : l.length ≤ 60) (h : sheafL n S <+: l) (hk : 7400 ≤ k) :
    quittanceref04_Get.f k l = some ((n : Int), B S, ((nP (txt S) : Nat) : Int), true) := by
  obtain ⟨r, rfl⟩ := h
  have hlen := sheafL_length n S
  have hpos := nP_pos S
  have hl' := hl
  rw [List.length_append] at hl'
  obtain ⟨k1, rfl⟩ : ∃ m, k = m + 7100 + 60 + (nP (txt S) + ((sheafL n S ++ r).length - nP (txt S))) := ⟨k - 7100 - 60 - (nP (txt S) + ((sheafL n S ++ r).length - nP (txt S))), by rw [List.length_append]; omega⟩
  unfold quittanceref04_Get.f
  obtain ⟨st', h1, h2⟩ := rget_leaves n S r h0 hn (by omega) (nP (txt S)) (k1 + 7100 + 60 + ((sheafL n S ++ r).length - nP (txt S))) 0 0 (by omega) (by omega) (.inl rfl)
  have hst : st' = n := by omega
  subst hst
  rw [cont_zero, Nat.zero_add] at h2
  rw [show k1 + 7100 + 60 + (nP (txt S) + ((sheafL st' S ++ r).length - nP (txt S))) = k1 + 7100 + 60 + ((sheafL st' S ++ r).length - nP (txt S)) + nP (txt S) by omega, B_nil, show (0 : Int) = ((0 : Nat) : Int) from rfl, h2]
  obtain ⟨k', c, st2, h3, h4, h5, h6, h7⟩ := rget_tot (sheafL st' S ++ r) (by omega) ((sheafL st' S ++ r).length - nP (txt S)) (k1 + 7100) (nP (txt S)) (cont (txt S) (nP (txt S))) st' (by rw [List.length_append]; omega) (by rw [cont_length]; exact Nat.le_refl _) hn
  rw [h7 (by omega)] at h3
  rw [h3]
  obtain ⟨k', rfl⟩ : ∃ m, k' = m + 1 := ⟨k' - 1, by omega⟩
  obtain ⟨r2, hr2⟩ := take_cont (txt S)
  have htt : takeT (cont (txt S) (nP (txt S)) ++ c) = some (S, r2 ++ c) := by rw [hr2, List.append_assoc]; exact takeT_back S (r2 ++ c) (by omega)
  have hres : resT (cont (txt S) (nP (txt S)) ++ c) = (B S, B (r2 ++ c), true) := by unfold resT; rw [htt]
  rw [quittanceref04_Get.j1, RTakeText_f k' _ (by omega) (by omega), hres, Option.bind_some]
  dsimp only
  rw [if_pos (rfl : true = true), RPut_f k' st' S h0 hn hS (by omega), Option.bind_some]
  dsimp only
  rw [if_pos rfl, if_neg (by rw [List.length_append]; omega), if_pos (by omega), if_pos (by rw [List.length_append]; omega), Int.toNat_natCast, List.take_append_of_le_length (Nat.le_refl _), List.take_length]
  obtain ⟨q, h8, h9⟩ := RSame_f k' (sheafL st' S) (sheafL st' S) (by omega) (by omega)
  rw [h8, Option.bind_some, if_pos (h9.2 rfl), hlen]
theorem RGet_spec (k : Nat) (l : List ByteArray) (hl : l.length ≤ 60) (hk : 7400 ≤ k) : (∃ n S, n ≠ 0 ∧ n < 18446744073709551616 ∧ S.length ≤ 3000 ∧ sheafL n S <+: l ∧ quittanceref04_Get.f k l = some ((n : Int), B S, ((nP (txt S) : Nat) : Int), true)) ∨ quittanceref04_Get.f k l = some (0, B [], 0, false) := by
  have key : quittanceref04_Get.f k l = some (0, B [], 0, false) ∨ ∃ n S, n ≠ 0 ∧ n < 18446744073709551616 ∧ S.length ≤ 3000 ∧ sheafL n S <+: l := by
    obtain ⟨k1, rfl⟩ : ∃ m, k = m + 7100 + 60 + l.length := ⟨k - 7100 - 60 - l.length, by omega⟩
    unfold quittanceref04_Get.f
    obtain ⟨k', c, st, h3, h4, h5, h6, -⟩ := rget_tot l (by omega) l.length (k1 + 7100) 0 [] 0 (by omega) (by simp) (by decide)
    rw [show ((0 : Nat) : Int) = 0 from rfl] at h3
    rw [B_nil, h3]
    rw [List.nil_append] at h5 ⊢
    obtain ⟨k', rfl⟩ : ∃ m, k' = m + 1 := ⟨k' - 1, by omega⟩
    rw [quittanceref04_Get.j1, RTakeText_f k' _ (by omega) (by omega), Option.bind_some]
    unfold resT
    cases ht : takeT c with
    | none => dsimp only; rw [if_neg (by decide)]; exact .inl rfl
    | some x =>
    obtain ⟨S, r⟩ := x
    dsimp only
    rw [if_pos (rfl : true = true)]
    have hS : S.length ≤ 3000 := by
      have := congrArg List.length (takeT_once ht)
      rw [List.length_append, List.length_append] at this
      omega
    by_cases hz : st = 0
    · subst hz
      rw [show ((0 : Nat) : Int) = 0 from rfl, RPut_zero, Option.bind_some, if_neg (by decide)]
      exact .inl rfl
    rw [RPut_f k' st S hz h6 hS (by omega), Option.bind_some]
    dsimp only
    rw [if_pos rfl]
    by_cases hm : ((sheafL st S).length : Int) > (l.length : Int)
    · rw [if_pos hm]; exact .inl rfl
    rw [if_neg hm, if_pos (by omega), if_pos (by omega), Int.toNat_natCast]
    obtain ⟨q, h8, h9⟩ := RSame_f k' (sheafL st S) (l.take (sheafL st S).length) (by omega) (by omega)
    rw [h8, Option.bind_some]
    by_cases hq : q = true
    · right
      refine ⟨st, S, hz, h6, hS, ?_⟩
      have h10 := h9.1 hq
      rw [h10]
      exact List.take_prefix _ _
    · rw [if_neg hq]; exact .inl rfl
  rcases key with h | ⟨n, S, h0, hn, hS, hp⟩
  · exact .inr h
  · exact .inl ⟨n, S, h0, hn, hS, hp, RGet_back k n S l h0 hn hS hl hp hk⟩
theorem get_same (k : Nat) (l : List ByteArray) (hl : l.length ≤ 60) (hk : 7400 ≤ k) : quittanceref04_Get.f k l = sheaf_Get.f l := by
  rcases RGet_spec k l hl hk with ⟨n, S, h0, hn, hS, hp, h⟩ | h
  · rw [h, Get_back n S l h0 hn (by omega) hp]
  · rcases Get_spec l with ⟨n, S, h0, hn, hS, hp, h'⟩ | h'
    · have h1 := hp.length_le
      have h2 := sheafL_length n S
      have h3 := txt_length S
      have h4 : S.length ≤ 3000 := by unfold nP at h2; omega
      rw [RGet_back k n S l h0 hn h4 hl hp hk, h']
    · rw [h, h']
/-! Top -/
def hd (b : ByteArray) : Nat := if b.size = 64 then headNum b.data.toList else 0
def topL : List ByteArray → Nat → Nat
  | [], m => m
  | b :: r, m => topL r (max m (hd b))
theorem ends_hd (b : ByteArray) : ∃ f : Int, leaf_Ends.f b = some (((hd b : Nat) : Int), f) := by
  unfold leaf_Ends.f hd
  by_cases h : b.size = 64
  · rw [if_pos h, if_pos h]; exact ⟨_, rfl⟩
  · rw [if_neg h, if_neg h]; exact ⟨_, rfl⟩
theorem top_l0 (l : List ByteArray) (hl : l.length < 9223372036854775807) (d : Nat) : ∀ (k j m : Nat), j + d = l.length → sheaf_Top.l0 (k + d + 1) (m : Int) l (l.length : Int) (j : Int) = some ((topL (l.drop j) m : Nat) : Int) := by
  induction d with
  | zero =>
    intro k j m h
    rw [show k + 0 + 1 = k + 1 from rfl, sheaf_Top.l0, if_neg (by omega), List.drop_eq_nil_of_le (by omega)]
    rfl
  | succ d ih =>
    intro k j m h
    have e : wrap64 ((j : Int) + 1) = ((j + 1 : Nat) : Int) := by unfold wrap64; omega
    have ha := drop_rdOf l j (by omega) (by omega)
    rw [Int.toNat_natCast] at ha
    obtain ⟨f, hf⟩ := ends_hd (rdOf ByteArray.empty l (j : Int))
    have hm : mx (m : Int) ((hd (rdOf ByteArray.empty l (j : Int)) : Nat) : Int) = ((max m (hd (rdOf ByteArray.empty l (j : Int))) : Nat) : Int) := by unfold mx; split <;> omega
    rw [show k + (d + 1) + 1 = (k + d + 1) + 1 by omega, sheaf_Top.l0, if_pos (by omega), if_pos (by omega), if_pos (by omega), hf, Option.bind_some]
    dsimp only
    rw [hm, e, ih k (j + 1) _ (by omega), ha]
    rfl
theorem Top_f (k : Nat) (l : List ByteArray) (hl : l.length < 9223372036854775807) (hk : l.length < k) : sheaf_Top.f k l = some ((topL l 0 : Nat) : Int) := by
  obtain ⟨m, rfl⟩ : ∃ m, k = m + l.length + 1 := ⟨k - l.length - 1, by omega⟩
  exact top_l0 l hl l.length m 0 0 (by omega)
theorem rtop_l0 (l : List ByteArray) (hl : l.length < 9223372036854775807) (d : Nat) : ∀ (k j m : Nat), j + d = l.length → 60 + d ≤ k → quittanceref04_Top.l0 k l (m : Int) (j : Int) = some ((topL (l.drop j) m : Nat) : Int) := by
  induction d with
  | zero =>
    intro k j m h hk
    obtain ⟨k, rfl⟩ : ∃ m, k = m + 1 := ⟨k - 1, by omega⟩
    rw [quittanceref04_Top.l0, if_neg (by omega), List.drop_eq_nil_of_le (by omega)]
    rfl
  | succ d ih =>
    intro k j m h hk
    obtain ⟨k, rfl⟩ : ∃ m, k = m + 1 := ⟨k - 1, by omega⟩
    have e : wrap64 ((j : Int) + 1) = ((j + 1 : Nat) : Int) := by unfold wrap64; omega
    have ha := drop_rdOf l j (by omega) (by omega)
    rw [Int.toNat_natCast] at ha
    obtain ⟨f, hf⟩ := ends_hd (rdOf ByteArray.empty l (j : Int))
    rw [quittanceref04_Top.l0, if_pos (by omega), if_pos (by omega), ends_one _ (by omega), hf, Option.bind_some]
    dsimp only
    rw [e, ha]
    by_cases hc : ((hd (rdOf ByteArray.empty l (j : Int)) : Nat) : Int) > (m : Int)
    · rw [if_pos hc, ih k (j + 1) _ (by omega) (by omega), topL, show max m (hd (rdOf ByteArray.empty l (j : Int))) = hd (rdOf ByteArray.empty l (j : Int)) by omega]
    · rw [if_neg hc, ih k (j + 1) _ (by omega) (by omega), topL, show max m (hd (rdOf ByteArray.empty l (j : Int))) = m by omega]
theorem RTop_f (k : Nat) (l : List ByteArray) (hl : l.length < 9223372036854775807) (hk : 60 + l.length ≤ k) : quittanceref04_Top.f k l = some ((topL l 0 : Nat) : Int) := rtop_l0 l hl l.length k 0 0 (by omega) hk
theorem hd_leaf (n : Nat) (p : List UInt8) (hn : n < 18446744073709551616) (hp : p.length ≤ 48) : hd (B (leafOf n p)) = n := by
  unfold hd; rw [B_size, B_data, if_pos (leafOf_length n p hp), leafOf_head n p hp hn]
theorem topL_leaves (n : Nat) (T : List UInt8) (hn : n < 18446744073709551616) (d : Nat) : ∀ (j m : Nat), m ≤ n → topL (leavesFrom n T j d) m = if d = 0 then m else n := by
  induction d with
  | zero => intro j m h; rfl
  | succ d ih =>
    intro j m h
    rw [leavesFrom_succ, topL, hd_leaf n _ hn (pc_length _ _), ih _ _ (by omega), if_neg (Nat.succ_ne_zero d)]
    split <;> omega
end Go.Proofs.YtnhgakmnkpjpdaaGreat.Pure

/- What the laws on sheaves begin with. -/
set_option linter.unusedVariables false
set_option linter.unusedSimpArgs false
namespace Go.Proofs.YtnhgakmnkpjpdaaGreat.Pure
open Go Go.RowKit Go.Proofs.YtnhgakmnkpjpdaaGreat Go.Proofs.YtnhgakmnkpjpdaaGreat.Q Go.Proofs.YtnhgakmnkpjpdaaGreatW.PrintWords Go.Proofs.YtnhgakmnkpjpdaaGreatW.PrintLast Go.Proofs.YtnhgakmnkpjpdaaGreatW.PrintMore
end Go.Proofs.YtnhgakmnkpjpdaaGreat.Pure

/- SheafTorn, plain: sectors, of which each is a leaf of a writing, or none. -/
set_option linter.unusedVariables false
set_option linter.unusedSimpArgs false
namespace Go.Proofs.YtnhgakmnkpjpdaaGreat.Pure
open Go Go.RowKit Go.Proofs.YtnhgakmnkpjpdaaGreat Go.Proofs.YtnhgakmnkpjpdaaGreat.Q Go.Proofs.YtnhgakmnkpjpdaaGreatW.PrintWords Go.Proofs.YtnhgakmnkpjpdaaGreatW.PrintLast Go.Proofs.YtnhgakmnkpjpdaaGreatW.PrintMore
def mid (L : List UInt8) : List UInt8 := (L.drop 8).take 48
theorem topL_ge (l : List ByteArray) : ∀ m, m ≤ topL l m := by
  induction l with
  | nil => intro m; exact Nat.le_refl _
  | cons b r ih => intro m; rw [topL]; exact Nat.le_trans (Nat.le_max_left _ _) (ih _)
theorem topL_mem (l : List ByteArray) : ∀ m b, b ∈ l → hd b ≤ topL l m := by
  induction l with
  | nil => intro m b h; cases h
  | cons c r ih =>
    intro m b h
    rw [topL]
    rcases List.mem_cons.1 h with rfl | h
    · exact Nat.le_trans (Nat.le_max_right _ _) (topL_ge r _)
    · exact ih _ b h
end Go.Proofs.YtnhgakmnkpjpdaaGreat.Pure
