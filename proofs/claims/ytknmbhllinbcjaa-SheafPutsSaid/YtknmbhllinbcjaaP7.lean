/- Sheaves of leaves, plain: what the document's Put, Many, Get and Top answer. -/
import Derived.Test.YtknmbhllinbcjaaP6
import Derived.Test.YtknmbhllinbcjaaLB4
set_option linter.unusedVariables false
set_option linter.unusedSimpArgs false
namespace Go.Proofs.Ytknmbhllinbcjaa.Pure
open Go Go.RowKit Go.Proofs.Ytknmbhllinbcjaa Go.Proofs.Ytknmbhllinbcjaa.Q Go.Proofs.YtknmbhllinbcjaaW.PrintWords Go.Proofs.YtknmbhllinbcjaaW.PrintLast Go.Proofs.YtknmbhllinbcjaaW.PrintMore
theorem RText_f (S : List UInt8) (hS : S.length < 9223372036854775000) : quittanceref01_Text.f (B S) = some (B (txt S)) := by
  unfold quittanceref01_Text.f
  have := tnum_length_le' S.length (by omega)
  rw [B_size, u64w _ (by omega) (by omega), RNum_f _ (by omega), Option.bind_some, B_size, if_pos (by omega), B_append]
  rfl
theorem rput_l0 (n : Nat) (T : List UInt8) (h0 : n ≠ 0) (hn : n < 18446744073709551616) (hT : T.length ≤ 3100) (d : Nat) : ∀ (k j : Nat) (acc : List ByteArray), j + d = nP T → acc.length = j → 60 + d ≤ k →
    quittanceref04_Put.l0 k (n : Int) (B T) acc ((48 * j : Nat) : Int) = some (acc ++ leavesFrom n T j d, 0) := by
  induction d with
  | zero =>
    intro k j acc hj ha hk
    obtain ⟨k, rfl⟩ : ∃ m, k = m + 1 := ⟨k - 1, by omega⟩
    rw [quittanceref04_Put.l0, if_neg (by rw [B_size]; unfold nP at hj; omega)]
    simp [leavesFrom]
  | succ d ih =>
    intro k j acc hj ha hk
    obtain ⟨k, rfl⟩ : ∃ m, k = m + 1 := ⟨k - 1, by omega⟩
    have hlt : 48 * j < T.length := by unfold nP at hj; omega
    have hjle : j ≤ 65 := by unfold nP at hj; omega
    have e : wrap64 (((48 * j : Nat) : Int) + 48) = ((48 * (j + 1) : Nat) : Int) := by rw [wrap64_in' _ (by omega) (by omega)]; omega
    obtain ⟨m, hm, hm1, hm2, hm3⟩ : ∃ m : Nat, mn ((48 * (j + 1) : Nat) : Int) ((B T).size : Int) = (m : Int) ∧ 48 * j ≤ m ∧ m ≤ T.length ∧ (m = 48 * (j + 1) ∨ (m = T.length ∧ T.length ≤ 48 * (j + 1))) := by
      rw [B_size]
      unfold mn
      split
      · exact ⟨T.length, rfl, by omega, by omega, by omega⟩
      · exact ⟨48 * (j + 1), rfl, by omega, by omega, by omega⟩
    have hpc : (B T).extract ((48 * j : Nat) : Int).toNat (m : Int).toNat = B (pc T j) := by
      rw [Int.toNat_natCast, Int.toNat_natCast, B_extract]
      unfold pc
      rcases hm3 with h | ⟨h, h'⟩
      · rw [h, show 48 * (j + 1) - 48 * j = 48 by omega]
      · rw [List.take_of_length_le (by rw [List.length_drop]; omega), List.take_of_length_le (by rw [List.length_drop]; omega)]
    rw [quittanceref04_Put.l0, e, hm, if_pos (by rw [B_size]; omega), if_pos (by omega), if_pos (by omega), if_pos (by rw [B_size]; omega), hpc, refPut n _ h0 hn (pc_length T j) (by omega), Option.bind_some]
    dsimp only
    rw [if_pos (by omega), ih k (j + 1) _ (by omega) (by rw [List.length_append, List.length_singleton]; omega) (by omega), leavesFrom_succ, List.append_assoc]
    rfl
theorem RPut_f (k n : Nat) (S : List UInt8) (h0 : n ≠ 0) (hn : n < 18446744073709551616) (hS : S.length ≤ 3000) (hk : 200 ≤ k) : quittanceref04_Put.f k (n : Int) (B S) = some (sheafL n S, 0) := by
  have ht := tnum_length_le' S.length (by omega)
  have hl := txt_length S
  have hp : nP (txt S) ≤ 100 := by unfold nP; omega
  unfold quittanceref04_Put.f
  rw [if_neg (by omega), if_neg (by rw [B_size]; omega), RText_f S (by omega), Option.bind_some]
  have := rput_l0 n (txt S) h0 hn (by omega) (nP (txt S)) k 0 [] (by omega) rfl (by omega)
  rw [show ((48 * 0 : Nat) : Int) = 0 from rfl] at this
  rw [this, sheafL_from]
  rfl
theorem RPut_zero (k : Nat) (s : ByteArray) : quittanceref04_Put.f k 0 s = some ([], 2) := by unfold quittanceref04_Put.f; rw [if_pos rfl]
theorem RPut_long (k : Nat) (n : Int) (s : ByteArray) (h0 : n ≠ 0) (hs : 98304 < s.size) : quittanceref04_Put.f k n s = some ([], 3) := by
  unfold quittanceref04_Put.f; rw [if_neg h0, if_pos (by omega)]
theorem rmany_l0 (n : Nat) (hn : n ≤ 1000000) (d : Nat) : ∀ (k j : Nat), j + d = manyN n → d < k → quittanceref04_Many.l0 k (n : Int) (j : Int) = some ((manyN n : Nat) : Int) := by
  have hl := tnum_length_le' n (by omega)
  induction d with
  | zero =>
    intro k j h hk
    obtain ⟨k, rfl⟩ : ∃ m, k = m + 1 := ⟨k - 1, by omega⟩
    have h' : n + (tnum n).length ≤ 48 * j := by unfold manyN at h; omega
    have h2 : j ≤ 1000000 := by unfold manyN at h; omega
    rw [quittanceref04_Many.l0, u64w _ (by omega) (by omega), RNum_f _ (by omega), Option.bind_some, B_size, wrap64_in' (48 * (j : Int)) (by omega) (by omega), wrap64_in' (((tnum n).length : Int) + (n : Int)) (by omega) (by omega), if_neg (by omega), show manyN n = j by omega]
  | succ d ih =>
    intro k j h hk
    obtain ⟨k, rfl⟩ : ∃ m, k = m + 1 := ⟨k - 1, by omega⟩
    have h' : 48 * j < n + (tnum n).length := by unfold manyN at h; omega
    rw [quittanceref04_Many.l0, u64w _ (by omega) (by omega), RNum_f _ (by omega), Option.bind_some, B_size, wrap64_in' (48 * (j : Int)) (by omega) (by omega), wrap64_in' (((tnum n).length : Int) + (n : Int)) (by omega) (by omega), if_pos (by omega),
      show wrap64 ((j : Int) + 1) = ((j + 1 : Nat) : Int) by rw [wrap64_in' _ (by omega) (by omega)]; omega, ih k (j + 1) (by omega) (by omega)]
theorem RMany_f (k n : Nat) (hn : n ≤ 1000000) (hk : 30000 ≤ k) : quittanceref04_Many.f k (n : Int) = some ((manyN n : Nat) : Int) := by
  have hl := tnum_length_le' n (by omega)
  obtain ⟨k, rfl⟩ : ∃ m, k = m + 1 := ⟨k - 1, by omega⟩
  unfold quittanceref04_Many.f
  rw [if_neg (by omega), quittanceref04_Many.j0]
  exact rmany_l0 n hn (manyN n) k 0 (by omega) (by unfold manyN; omega)
theorem RMany_neg (k : Nat) (n : Int) (hn : n < 0) : quittanceref04_Many.f k n = quittanceref04_Many.f k 0 := by
  unfold quittanceref04_Many.f; rw [if_pos hn, if_neg (by decide)]
/-! Get -/
theorem rget_step (l : List ByteArray) (k i : Nat) (all : List UInt8) (st : Nat) (is : Bool) (n : Nat) (c : List UInt8) (hi : i < l.length) (hl : l.length ≤ 1000) (ha : all.length ≤ 48 * i) (hc : c.length ≤ 48) (hk : 49 ≤ k)
    (hg : leaf_Get.f (rdOf ByteArray.empty l (i : Int)) = some ((n : Int), B c, is)) :
    quittanceref04_Get.l0 (k + 1) l (B all) (st : Int) (i : Int) = if is = true ∧ (i = 0 ∨ n = st) then quittanceref04_Get.l0 k l (B (all ++ c)) (n : Int) ((i + 1 : Nat) : Int) else quittanceref04_Get.j1 k l (B all) ((if i = 0 then n else st : Nat) : Int) := by
  have e : wrap64 ((i : Int) + 1) = ((i + 1 : Nat) : Int) := by rw [wrap64_in' _ (by omega) (by omega)]; omega
  rw [quittanceref04_Get.l0, if_pos (by omega), if_pos (by omega), get_one _ hk, hg, Option.bind_some]
  dsimp only
  by_cases h0 : i = 0
  · rw [if_pos (by omega)]
    cases is with
    | false => rw [if_neg (by decide), if_neg (by simp), if_pos h0]
    | true => rw [if_pos rfl, if_pos rfl, if_pos (by rw [B_size, B_size]; omega), if_pos ⟨rfl, .inl h0⟩, e, B_append]
  · rw [if_neg (by omega)]
    cases is with
    | false => rw [if_neg (by decide), if_neg (by simp), if_neg h0]
    | true =>
      rw [if_pos rfl]
      by_cases hs : n = st
      · subst hs
        rw [if_pos rfl, if_pos (by rw [B_size, B_size]; omega), if_pos ⟨rfl, .inr rfl⟩, e, B_append]
      · rw [if_neg (by omega), if_neg (by omega), if_neg h0]
theorem rget_tot (l : List ByteArray) (hl : l.length ≤ 1000) (d : Nat) : ∀ (k i : Nat) (all : List UInt8) (st : Nat), i + d = l.length → all.length ≤ 48 * i → st < 18446744073709551616 →
    ∃ k' c st', quittanceref04_Get.l0 (k + 60 + d) l (B all) (st : Int) (i : Int) = quittanceref04_Get.j1 k' l (B (all ++ c)) ((st' : Nat) : Int) ∧ k ≤ k' ∧ (all ++ c).length ≤ 48 * l.length ∧ st' < 18446744073709551616 ∧ (i ≠ 0 → st' = st) := by
  induction d with
  | zero =>
    intro k i all st h ha hs
    refine ⟨k + 59, [], st, ?_, by omega, by rw [List.append_nil]; omega, hs, fun _ => rfl⟩
    rw [show k + 60 + 0 = (k + 59) + 1 from rfl, quittanceref04_Get.l0, if_neg (by omega), List.append_nil]
  | succ d ih =>
    intro k i all st h ha hs
    obtain ⟨is, n, c, hg, hn, hc⟩ := leaf_Get_tot (rdOf ByteArray.empty l (i : Int))
    rw [show k + 60 + (d + 1) = (k + 60 + d) + 1 by omega, rget_step l (k + 60 + d) i all st is n c (by omega) hl ha hc (by omega) hg]
    by_cases hb : is = true ∧ (i = 0 ∨ n = st)
    · rw [if_pos hb]
      obtain ⟨k', c', st', h1, h2, h3, h4, h5⟩ := ih k (i + 1) (all ++ c) n (by omega) (by rw [List.length_append]; omega) hn
      refine ⟨k', c ++ c', st', by rw [h1, List.append_assoc], h2, by rw [← List.append_assoc]; exact h3, h4, ?_⟩
      intro h0
      rw [h5 (by omega)]
      exact hb.2.resolve_left h0
    · rw [if_neg hb]
      refine ⟨k + 60 + d, [], if i = 0 then n else st, by rw [List.append_nil], by omega, by rw [List.append_nil]; omega, by split <;> omega, ?_⟩
      intro h0
      rw [if_neg h0]
theorem rd_leaf (n : Nat) (S : List UInt8) (r : List ByteArray) (j : Nat) (hj : j < nP (txt S)) : rdOf ByteArray.empty (sheafL n S ++ r) (j : Int) = B (leafOf n (pc (txt S) j)) := by
  unfold rdOf
  rw [Int.toNat_natCast, List.getD_eq_getElem?_getD, List.getElem?_append_left (by rw [sheafL_length]; exact hj)]
  unfold sheafL
  rw [List.getElem?_map, List.getElem?_range hj]
  rfl
theorem rget_leaves (n : Nat) (S : List UInt8) (r : List ByteArray) (h0 : n ≠ 0) (hn : n < 18446744073709551616) (hl : (sheafL n S ++ r).length ≤ 1000) (d : Nat) : ∀ (k j : Nat) (st : Nat), j + d ≤ nP (txt S) → 49 ≤ k → (j = 0 ∨ st = n) →
    ∃ st', (j + d = 0 ∨ st' = n) ∧ quittanceref04_Get.l0 (k + d) (sheafL n S ++ r) (B (cont (txt S) j)) (st : Int) (j : Int) = quittanceref04_Get.l0 k (sheafL n S ++ r) (B (cont (txt S) (j + d))) ((st' : Nat) : Int) ((j + d : Nat) : Int) := by
  have hlen := sheafL_length n S
  induction d with
  | zero => intro k j st h hk hj; exact ⟨st, by simpa using hj, rfl⟩
  | succ d ih =>
    intro k j st h hk hj
    have hg := get_leafOf n (pc (txt S) j) h0 (pc_length _ _) hn
    rw [← rd_leaf n S r j (by omega)] at hg
    have hstep := rget_step (sheafL n S ++ r) (k + d) j (cont (txt S) j) st true n (full (pc (txt S) j)) (by rw [List.length_append]; omega) hl (by rw [cont_length]; exact Nat.le_refl _) (by rw [full_length _ (pc_length _ _)]; exact Nat.le_refl _) (by omega) hg
    rw [if_pos ⟨rfl, by omega⟩, ← cont_succ] at hstep
    obtain ⟨st', h1, h2⟩ := ih k (j + 1) n (by omega) hk (.inr rfl)
    refine ⟨st', by omega, ?_⟩
    rw [show k + (d + 1) = k + d + 1 by omega, hstep, h2, show j + 1 + d = j + (d + 1) by omega]
theorem RGet_back (k n : Nat) (S : List UInt8) (l : List ByteArray) (h0 : n ≠ 0) (hn : n < 18446744073709551616) (hS : S.length ≤ 3000) (hl : l.length ≤ 60) (h : sheafL n S <+: l) (hk : 7400 ≤ k) :
    quittanceref04_Get.f k l = some ((n : Int), B S, ((nP (txt S) : Nat) : Int), true) := by
  obtain ⟨r, rfl⟩ := h
  have hlen := sheafL_length n S
  have hpos := nP_pos S
  have hl' := hl
  rw [List.length_append] at hl'
  obtain ⟨k1, rfl⟩ : ∃ m, k = m + 7100 + 60 + (nP (txt S) + ((sheafL n S ++ r).length - nP (txt S))) := ⟨k - 7100 - 60 - (nP (txt S) + ((sheafL n S ++ r).length - nP (txt S))), by rw [List.length_append]; omega⟩
  unfold quittanceref04_Get.f
  obtain ⟨st', h1, h2⟩ := rget_leaves n S r h0 hn (by omega) (nP (txt S)) (k1 + 7100 + 60 + ((sheafL n S ++ r).length - nP (txt S))) 0 0 (by omega) (by omega) (.inl rfl)
  have hst : st' = n := by omega
  subst hst
  rw [cont_zero, Nat.zero_add] at h2
  rw [show k1 + 7100 + 60 + (nP (txt S) + ((sheafL st' S ++ r).length - nP (txt S))) = k1 + 7100 + 60 + ((sheafL st' S ++ r).length - nP (txt S)) + nP (txt S) by omega, B_nil, show (0 : Int) = ((0 : Nat) : Int) from rfl, h2]
  obtain ⟨k', c, st2, h3, h4, h5, h6, h7⟩ := rget_tot (sheafL st' S ++ r) (by omega) ((sheafL st' S ++ r).length - nP (txt S)) (k1 + 7100) (nP (txt S)) (cont (txt S) (nP (txt S))) st' (by rw [List.length_append]; omega) (by rw [cont_length]; exact Nat.le_refl _) hn
  rw [h7 (by omega)] at h3
  rw [h3]
  obtain ⟨k', rfl⟩ : ∃ m, k' = m + 1 := ⟨k' - 1, by omega⟩
  obtain ⟨r2, hr2⟩ := take_cont (txt S)
  have htt : takeT (cont (txt S) (nP (txt S)) ++ c) = some (S, r2 ++ c) := by rw [hr2, List.append_assoc]; exact takeT_back S (r2 ++ c) (by omega)
  have hres : resT (cont (txt S) (nP (txt S)) ++ c) = (B S, B (r2 ++ c), true) := by unfold resT; rw [htt]
  rw [quittanceref04_Get.j1, RTakeText_f k' _ (by omega) (by omega), hres, Option.bind_some]
  dsimp only
  rw [if_pos (rfl : true = true), RPut_f k' st' S h0 hn hS (by omega), Option.bind_some]
  dsimp only
  rw [if_pos rfl, if_neg (by rw [List.length_append]; omega), if_pos (by omega), if_pos (by rw [List.length_append]; omega), Int.toNat_natCast, List.take_append_of_le_length (Nat.le_refl _), List.take_length]
  obtain ⟨q, h8, h9⟩ := RSame_f k' (sheafL st' S) (sheafL st' S) (by omega) (by omega)
  rw [h8, Option.bind_some, if_pos (h9.2 rfl), hlen]
theorem RGet_spec (k : Nat) (l : List ByteArray) (hl : l.length ≤ 60) (hk : 7400 ≤ k) : (∃ n S, n ≠ 0 ∧ n < 18446744073709551616 ∧ S.length ≤ 3000 ∧ sheafL n S <+: l ∧ quittanceref04_Get.f k l = some ((n : Int), B S, ((nP (txt S) : Nat) : Int), true)) ∨ quittanceref04_Get.f k l = some (0, B [], 0, false) := by
  have key : quittanceref04_Get.f k l = some (0, B [], 0, false) ∨ ∃ n S, n ≠ 0 ∧ n < 18446744073709551616 ∧ S.length ≤ 3000 ∧ sheafL n S <+: l := by
    obtain ⟨k1, rfl⟩ : ∃ m, k = m + 7100 + 60 + l.length := ⟨k - 7100 - 60 - l.length, by omega⟩
    unfold quittanceref04_Get.f
    obtain ⟨k', c, st, h3, h4, h5, h6, -⟩ := rget_tot l (by omega) l.length (k1 + 7100) 0 [] 0 (by omega) (by simp) (by decide)
    rw [show ((0 : Nat) : Int) = 0 from rfl] at h3
    rw [B_nil, h3]
    rw [List.nil_append] at h5 ⊢
    obtain ⟨k', rfl⟩ : ∃ m, k' = m + 1 := ⟨k' - 1, by omega⟩
    rw [quittanceref04_Get.j1, RTakeText_f k' _ (by omega) (by omega), Option.bind_some]
    unfold resT
    cases ht : takeT c with
    | none => dsimp only; rw [if_neg (by decide)]; exact .inl rfl
    | some x =>
    obtain ⟨S, r⟩ := x
    dsimp only
    rw [if_pos (rfl : true = true)]
    have hS : S.length ≤ 3000 := by
      have := congrArg List.length (takeT_once ht)
      rw [List.length_append, List.length_append] at this
      omega
    by_cases hz : st = 0
    · subst hz
      rw [show ((0 : Nat) : Int) = 0 from rfl, RPut_zero, Option.bind_some, if_neg (by decide)]
      exact .inl rfl
    rw [RPut_f k' st S hz h6 hS (by omega), Option.bind_some]
    dsimp only
    rw [if_pos rfl]
    by_cases hm : ((sheafL st S).length : Int) > (l.length : Int)
    · rw [if_pos hm]; exact .inl rfl
    rw [if_neg hm, if_pos (by omega), if_pos (by omega), Int.toNat_natCast]
    obtain ⟨q, h8, h9⟩ := RSame_f k' (sheafL st S) (l.take (sheafL st S).length) (by omega) (by omega)
    rw [h8, Option.bind_some]
    by_cases hq : q = true
    · right
      refine ⟨st, S, hz, h6, hS, ?_⟩
      have h10 := h9.1 hq
      rw [h10]
      exact List.take_prefix _ _
    · rw [if_neg hq]; exact .inl rfl
  rcases key with h | ⟨n, S, h0, hn, hS, hp⟩
  · exact .inr h
  · exact .inl ⟨n, S, h0, hn, hS, hp, RGet_back k n S l h0 hn hS hl hp hk⟩
theorem get_same (k : Nat) (l : List ByteArray) (hl : l.length ≤ 60) (hk : 7400 ≤ k) : quittanceref04_Get.f k l = sheaf_Get.f l := by
  rcases RGet_spec k l hl hk with ⟨n, S, h0, hn, hS, hp, h⟩ | h
  · rw [h, Get_back n S l h0 hn (by omega) hp]
  · rcases Get_spec l with ⟨n, S, h0, hn, hS, hp, h'⟩ | h'
    · have h1 := hp.length_le
      have h2 := sheafL_length n S
      have h3 := txt_length S
      have h4 : S.length ≤ 3000 := by unfold nP at h2; omega
      rw [RGet_back k n S l h0 hn h4 hl hp hk, h']
    · rw [h, h']
/-! Top -/
def hd (b : ByteArray) : Nat := if b.size = 64 then headNum b.data.toList else 0
def topL : List ByteArray → Nat → Nat
  | [], m => m
  | b :: r, m => topL r (max m (hd b))
theorem ends_hd (b : ByteArray) : ∃ f : Int, leaf_Ends.f b = some (((hd b : Nat) : Int), f) := by
  unfold leaf_Ends.f hd
  by_cases h : b.size = 64
  · rw [if_pos h, if_pos h]; exact ⟨_, rfl⟩
  · rw [if_neg h, if_neg h]; exact ⟨_, rfl⟩
theorem top_l0 (l : List ByteArray) (hl : l.length < 9223372036854775807) (d : Nat) : ∀ (k j m : Nat), j + d = l.length → sheaf_Top.l0 (k + d + 1) (m : Int) l (l.length : Int) (j : Int) = some ((topL (l.drop j) m : Nat) : Int) := by
  induction d with
  | zero =>
    intro k j m h
    rw [show k + 0 + 1 = k + 1 from rfl, sheaf_Top.l0, if_neg (by omega), List.drop_eq_nil_of_le (by omega)]
    rfl
  | succ d ih =>
    intro k j m h
    have e : wrap64 ((j : Int) + 1) = ((j + 1 : Nat) : Int) := by unfold wrap64; omega
    have ha := drop_rdOf l j (by omega) (by omega)
    rw [Int.toNat_natCast] at ha
    obtain ⟨f, hf⟩ := ends_hd (rdOf ByteArray.empty l (j : Int))
    have hm : mx (m : Int) ((hd (rdOf ByteArray.empty l (j : Int)) : Nat) : Int) = ((max m (hd (rdOf ByteArray.empty l (j : Int))) : Nat) : Int) := by unfold mx; split <;> omega
    rw [show k + (d + 1) + 1 = (k + d + 1) + 1 by omega, sheaf_Top.l0, if_pos (by omega), if_pos (by omega), if_pos (by omega), hf, Option.bind_some]
    dsimp only
    rw [hm, e, ih k (j + 1) _ (by omega), ha]
    rfl
theorem Top_f (k : Nat) (l : List ByteArray) (hl : l.length < 9223372036854775807) (hk : l.length < k) : sheaf_Top.f k l = some ((topL l 0 : Nat) : Int) := by
  obtain ⟨m, rfl⟩ : ∃ m, k = m + l.length + 1 := ⟨k - l.length - 1, by omega⟩
  exact top_l0 l hl l.length m 0 0 (by omega)
theorem rtop_l0 (l : List ByteArray) (hl : l.length < 9223372036854775807) (d : Nat) : ∀ (k j m : Nat), j + d = l.length → 60 + d ≤ k → quittanceref04_Top.l0 k l (m : Int) (j : Int) = some ((topL (l.drop j) m : Nat) : Int) := by
  induction d with
  | zero =>
    intro k j m h hk
    obtain ⟨k, rfl⟩ : ∃ m, k = m + 1 := ⟨k - 1, by omega⟩
    rw [quittanceref04_Top.l0, if_neg (by omega), List.drop_eq_nil_of_le (by omega)]
    rfl
  | succ d ih =>
    intro k j m h hk
    obtain ⟨k, rfl⟩ : ∃ m, k = m + 1 := ⟨k - 1, by omega⟩
    have e : wrap64 ((j : Int) + 1) = ((j + 1 : Nat) : Int) := by unfold wrap64; omega
    have ha := drop_rdOf l j (by omega) (by omega)
    rw [Int.toNat_natCast] at ha
    obtain ⟨f, hf⟩ := ends_hd (rdOf ByteArray.empty l (j : Int))
    rw [quittanceref04_Top.l0, if_pos (by omega), if_pos (by omega), ends_one _ (by omega), hf, Option.bind_some]
    dsimp only
    rw [e, ha]
    by_cases hc : ((hd (rdOf ByteArray.empty l (j : Int)) : Nat) : Int) > (m : Int)
    · rw [if_pos hc, ih k (j + 1) _ (by omega) (by omega), topL, show max m (hd (rdOf ByteArray.empty l (j : Int))) = hd (rdOf ByteArray.empty l (j : Int)) by omega]
    · rw [if_neg hc, ih k (j + 1) _ (by omega) (by omega), topL, show max m (hd (rdOf ByteArray.empty l (j : Int))) = m by omega]
theorem RTop_f (k : Nat) (l : List ByteArray) (hl : l.length < 9223372036854775807) (hk : 60 + l.length ≤ k) : quittanceref04_Top.f k l = some ((topL l 0 : Nat) : Int) := rtop_l0 l hl l.length k 0 0 (by omega) hk
theorem hd_leaf (n : Nat) (p : List UInt8) (hn : n < 18446744073709551616) (hp : p.length ≤ 48) : hd (B (leafOf n p)) = n := by
  unfold hd; rw [B_size, B_data, if_pos (leafOf_length n p hp), leafOf_head n p hp hn]
theorem topL_leaves (n : Nat) (T : List UInt8) (hn : n < 18446744073709551616) (d : Nat) : ∀ (j m : Nat), m ≤ n → topL (leavesFrom n T j d) m = if d = 0 then m else n := by
  induction d with
  | zero => intro j m h; rfl
  | succ d ih =>
    intro j m h
    rw [leavesFrom_succ, topL, hd_leaf n _ hn (pc_length _ _), ih _ _ (by omega), if_neg (Nat.succ_ne_zero d)]
    split <;> omega
theorem topL_sheaf (n : Nat) (S : List UInt8) (hn : n < 18446744073709551616) : topL (sheafL n S) 0 = n := by
  rw [sheafL_from, topL_leaves n _ hn _ _ _ (by omega), if_neg (by have := nP_pos S; omega)]
end Go.Proofs.Ytknmbhllinbcjaa.Pure
