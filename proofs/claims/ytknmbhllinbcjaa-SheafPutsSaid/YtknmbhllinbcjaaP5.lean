/- Sheaves of leaves, plain: what Put, Many, Get and Top of the package sheaf answer. -/
import Derived.Test.YtknmbhllinbcjaaP3
import Derived.Test.YtknmbhllinbcjaaLB3b
import Derived.Test.YtknmbhllinbcjaaG5
import Derived.Test.YtknmbhllinbcjaaQ3
set_option linter.unusedVariables false
set_option linter.unusedSimpArgs false
namespace Go.Proofs.Ytknmbhllinbcjaa.Pure
open Go Go.RowKit Go.Proofs.Ytknmbhllinbcjaa Go.Proofs.Ytknmbhllinbcjaa.Q Go.Proofs.YtknmbhllinbcjaaW.PrintWords Go.Proofs.YtknmbhllinbcjaaW.PrintLast Go.Proofs.YtknmbhllinbcjaaW.PrintMore
theorem wf_i64 {n : Int} (h : (Lit.int .i64 n).wf = true) : -9223372036854775808 ≤ n ∧ n < 9223372036854775808 := by
  simp [Lit.wf, IntKind.min, IntKind.max, IntKind.signed, IntKind.bits] at h
  omega
theorem long_l0 (a : Nat) : ∀ (k : Nat) (c : Nat), a < 18446744073709551616 → c + (hA a).length < 1000 → (hA a).length < k → tally_Long.l0 k (a : Int) (c : Int) = some ((c + (hA a).length : Nat) : Int) := by
  induction a using Nat.strongRecOn with
  | ind a ih =>
    intro k c ha hc hk
    obtain ⟨k, rfl⟩ : ∃ m, k = m + 1 := ⟨k - 1, by omega⟩
    by_cases h : a = 0
    · subst h
      rw [hA_zero, tally_Long.l0, if_neg (by decide)]
      rfl
    · have hp := hA_pos h
      have hlt : (a - 1) / 128 < a := Nat.lt_of_le_of_lt (Nat.div_le_self _ _) (by omega)
      have hlen : (hA a).length = (hA ((a - 1) / 128)).length + 1 := by rw [hp]; simp
      have e1 : IntKind.u64.wrap ((a : Int) - 1) = ((a - 1 : Nat) : Int) := by rw [u64w _ (by omega) (by omega)]; omega
      have e2 : (((a - 1 : Nat) : Int)) / 128 = (((a - 1) / 128 : Nat) : Int) := by omega
      have e3 : wrap64 ((c : Int) + 1) = ((c + 1 : Nat) : Int) := by unfold wrap64; omega
      rw [tally_Long.l0, if_pos (by omega), e1, e2, e3, ih _ hlt k (c + 1) (by omega) (by omega) (by omega), hlen]
      congr 2
      omega
theorem Long_f (k : Nat) (n : Nat) (hn : n < 18446744073709551616) (hk : 24 ≤ k) : tally_Long.f k (n : Int) = some (((tnum n).length : Nat) : Int) := by
  unfold tally_Long.f
  have hl := hA_length_le (n / 128) (by omega)
  have := long_l0 (n / 128) k 1 (by omega) (by omega) (by omega)
  rw [show (n : Int) / 128 = ((n / 128 : Nat) : Int) by omega]
  refine this.trans ?_
  unfold tnum
  rw [List.length_append, List.length_singleton, Nat.add_comm]
theorem hA_mono (b : Nat) : ∀ a, a ≤ b → (hA a).length ≤ (hA b).length := by
  induction b using Nat.strongRecOn with
  | ind b ih =>
    intro a hab
    by_cases h : a = 0
    · subst h; rw [hA_zero]; exact Nat.zero_le _
    · have hb : b ≠ 0 := by omega
      rw [hA_pos h, hA_pos hb, List.length_append, List.length_append]
      have hlt : (b - 1) / 128 < b := Nat.lt_of_le_of_lt (Nat.div_le_self _ _) (by omega)
      exact Nat.add_le_add_right (ih _ hlt _ (Nat.div_le_div_right (by omega))) _
theorem tnum_mono {a b : Nat} (h : a ≤ b) : (tnum a).length ≤ (tnum b).length := by
  unfold tnum
  rw [List.length_append, List.length_append]
  exact Nat.add_le_add_right (hA_mono _ _ (Nat.div_le_div_right h)) _
def txt (S : List UInt8) : List UInt8 := tnum S.length ++ S
def pc (L : List UInt8) (j : Nat) : List UInt8 := (L.drop (48 * j)).take 48
def nP (L : List UInt8) : Nat := (L.length + 47) / 48
def sheafL (n : Nat) (S : List UInt8) : List ByteArray := (List.range (nP (txt S))).map fun j => B (leafOf n (pc (txt S) j))
theorem pc_length (L : List UInt8) (j : Nat) : (pc L j).length ≤ 48 := by unfold pc; rw [List.length_take]; omega
theorem txt_length (S : List UInt8) : (txt S).length = (tnum S.length).length + S.length := by unfold txt; rw [List.length_append]
theorem nP_pos (S : List UInt8) : 0 < nP (txt S) := by
  have := tnum_length_pos S.length
  have := txt_length S
  unfold nP; omega
theorem sheafL_length (n : Nat) (S : List UInt8) : (sheafL n S).length = nP (txt S) := by unfold sheafL; rw [List.length_map, List.length_range]
theorem map_leaf (n : Nat) (T : List UInt8) : (piecesL T).map (leafB (n : Int)) = (List.range (nP T)).map fun j => B (leafOf n (pc T j)) := by
  unfold piecesL piecesTo nP
  rw [List.map_map]
  apply List.map_congr_left
  intro j _
  show leafB (n : Int) (pieceAt T j) = _
  unfold leafB pieceAt leafOf
  rw [B_data, Int.toNat_natCast]
  show B (leafL n (pc T j)) = _
  rw [leafL_eq n _ (pc_length T j)]
theorem Put_f (n : Nat) (S : List UInt8) (h0 : n ≠ 0) (hn : n < 18446744073709551616) (hS : S.length ≤ 98304) : sheaf_Put.f (n : Int) (B S) = some (sheafL n S, 0) := by
  unfold sheaf_Put.f
  have ht := tnum_length_le' S.length (by omega)
  rw [if_neg (by omega), B_size, if_neg (by omega), Text_f 30 S (by omega) (by omega), Option.bind_some, B_size, B_data, if_pos ⟨⟨by omega, by omega⟩, by rw [List.length_append]; omega⟩, map_leaf]
  rfl
theorem Put_zero (s : ByteArray) : sheaf_Put.f 0 s = some ([], 2) := rfl
theorem Put_long (n : Int) (s : ByteArray) (h0 : n ≠ 0) (hs : 98304 < s.size) : sheaf_Put.f n s = some ([], 3) := by
  unfold sheaf_Put.f; rw [if_neg h0, if_pos (by omega)]
theorem Put_some {n : Int} {s : ByteArray} {r : List ByteArray × Int} (h : sheaf_Put.f n s = some r) (h2 : r.2 = 0) :
    ∃ m S, n = ((m : Nat) : Int) ∧ s = B S ∧ m ≠ 0 ∧ m < 18446744073709551616 ∧ S.length ≤ 98304 ∧ r = (sheafL m S, 0) := by
  obtain ⟨S, rfl, -⟩ := B_ex s
  have h' := h
  unfold sheaf_Put.f at h
  by_cases c0 : n = 0
  · rw [if_pos c0] at h; cases h; cases h2
  rw [if_neg c0] at h
  rw [B_size] at h
  by_cases c1 : ((S.length : Nat) : Int) > 98304
  · rw [if_pos c1] at h; cases h; cases h2
  rw [if_neg c1] at h
  obtain ⟨T, -, h⟩ := Option.bind_eq_some_iff.mp h
  by_cases c2 : (0 < n ∧ n < 18446744073709551616) ∧ T.size < 200000
  · obtain ⟨m, rfl⟩ : ∃ m : Nat, n = (m : Int) := ⟨n.toNat, by omega⟩
    refine ⟨m, S, rfl, rfl, by omega, by omega, by omega, ?_⟩
    rw [Put_f m S (by omega) (by omega) (by omega)] at h'
    exact (Option.some.inj h').symm
  · rw [if_neg c2] at h; cases h
theorem Put_tot (n : Nat) (s : ByteArray) (hn : n < 18446744073709551616) : ∃ r, sheaf_Put.f (n : Int) s = some r := by
  obtain ⟨S, rfl, -⟩ := B_ex s
  by_cases c0 : n = 0
  · subst c0; exact ⟨_, Put_zero _⟩
  by_cases c1 : 98304 < S.length
  · exact ⟨_, Put_long _ _ (by omega) (by rw [B_size]; exact c1)⟩
  · exact ⟨_, Put_f n S c0 hn (by omega)⟩
/-- How many leaves a text of so many bytes takes. -/
def manyN (n : Nat) : Nat := (n + (tnum n).length + 47) / 48
theorem manyN_nP (S : List UInt8) : manyN S.length = nP (txt S) := by unfold manyN nP; rw [txt_length]; congr 1; omega
theorem Many_f (k n : Nat) (hn : n ≤ 1000000000) (hk : 24 ≤ k) : sheaf_Many.f k (n : Int) = some ((manyN n : Nat) : Int) := by
  unfold sheaf_Many.f
  have hl := tnum_length_le' n (by omega)
  have e0 : mx (n : Int) 0 = (n : Int) := by unfold mx; split <;> omega
  rw [e0, u64w _ (by omega) (by omega), Long_f k n (by omega) hk, Option.bind_some]
  unfold manyN
  generalize (tnum n).length = t at hl
  have e1 : wrap64 ((n : Int) / 48) = (n : Int) / 48 := wrap64_in' _ (by omega) (by omega)
  have e2 : wrap64 ((n : Int) % 48 + (t : Int)) = (n : Int) % 48 + (t : Int) := wrap64_in' _ (by omega) (by omega)
  have e3 : wrap64 ((n : Int) % 48 + (t : Int) + 48) = (n : Int) % 48 + (t : Int) + 48 := wrap64_in' _ (by omega) (by omega)
  have e4 : wrap64 ((n : Int) % 48 + (t : Int) + 48 - 1) = (n : Int) % 48 + (t : Int) + 48 - 1 := wrap64_in' _ (by omega) (by omega)
  have e5 : Int.tdiv ((n : Int) % 48 + (t : Int) + 48 - 1) 48 = ((n : Int) % 48 + (t : Int) + 48 - 1) / 48 := Int.tdiv_eq_ediv_of_nonneg (by omega)
  have e6 : wrap64 (((n : Int) % 48 + (t : Int) + 48 - 1) / 48) = ((n : Int) % 48 + (t : Int) + 48 - 1) / 48 := wrap64_in' _ (by omega) (by omega)
  have e7 : wrap64 ((n : Int) / 48 + ((n : Int) % 48 + (t : Int) + 48 - 1) / 48) = (n : Int) / 48 + ((n : Int) % 48 + (t : Int) + 48 - 1) / 48 := wrap64_in' _ (by omega) (by omega)
  rw [e1, e2, e3, e4, e5, e6, e7]
  congr 1
  omega
theorem Many_neg (k : Nat) (n : Int) (hn : n < 0) (hk : 24 ≤ k) : sheaf_Many.f k n = sheaf_Many.f k 0 := by
  unfold sheaf_Many.f
  have e0 : mx n 0 = 0 := by unfold mx; split <;> omega
  have e1 : mx 0 0 = 0 := by unfold mx; split <;> omega
  rw [e0, e1]
/-- The contents of the first leaves of a text. -/
def cont (T : List UInt8) (j : Nat) : List UInt8 := T.take (48 * j) ++ List.replicate (48 * j - T.length) 0
theorem cont_zero (T : List UInt8) : cont T 0 = [] := by unfold cont; simp
theorem cont_length (T : List UInt8) (j : Nat) : (cont T j).length = 48 * j := by unfold cont; rw [List.length_append, List.length_take, List.length_replicate]; omega
theorem cont_all (T : List UInt8) (j : Nat) (h : T.length ≤ 48 * j) : cont T j = T ++ List.replicate (48 * j - T.length) 0 := by unfold cont; rw [List.take_of_length_le h]
theorem cont_succ (T : List UInt8) (j : Nat) : cont T (j + 1) = cont T j ++ full (pc T j) := by
  unfold cont full pc
  by_cases h : T.length ≤ 48 * j
  · have e : T.drop (48 * j) = [] := List.drop_eq_nil_of_le h
    rw [e, List.take_of_length_le h, List.take_of_length_le (by omega), List.take_nil, List.nil_append, List.length_nil, List.append_assoc, List.replicate_append_replicate]
    congr 2; omega
  · rw [show 48 * j - T.length = 0 by omega, List.replicate_zero, List.append_nil, show 48 * (j + 1) = 48 * j + 48 by omega, List.take_add, List.append_assoc, List.length_take, List.length_drop]
    congr 3; omega
theorem take_cont (T : List UInt8) : ∃ r, cont T (nP T) = T ++ r := ⟨_, cont_all T _ (by unfold nP; omega)⟩
theorem num_cont (S : List UInt8) (hS : S.length < 18446744073709551616) : ∃ r, cont (txt S) 1 = tnum S.length ++ r := by
  have ht := tnum_length_le' S.length hS
  unfold cont txt
  rw [List.take_append, List.take_of_length_le (by omega), List.append_assoc]
  exact ⟨_, rfl⟩
theorem cons_ne_nil' {l : List UInt8} (h : 0 < l.length) : l ≠ [] := by intro e; rw [e] at h; exact absurd h (by decide)
theorem ownStep_leaf (st : Int) (all : List UInt8) (n : Nat) (p : List UInt8) (h0 : n ≠ 0) (hn : n < 18446744073709551616) (hp : p.length ≤ 48) (h : all = [] ∨ st = n) :
    ownStep st all (B (leafOf n p)) = some (true, (n : Int), all ++ full p) := by
  unfold ownStep
  rw [get_leafOf n p h0 hp hn, Option.bind_some]
  dsimp only
  rw [B_data]
  rcases h with h | h
  · rw [if_pos h]; simp
  · rw [h, ite_self]; simp
def leavesFrom (n : Nat) (T : List UInt8) (j d : Nat) : List ByteArray := (List.range' j d).map fun j => B (leafOf n (pc T j))
theorem sheafL_from (n : Nat) (S : List UInt8) : sheafL n S = leavesFrom n (txt S) 0 (nP (txt S)) := by unfold sheafL leavesFrom; rw [List.range_eq_range']
theorem leavesFrom_succ (n : Nat) (T : List UInt8) (j d : Nat) : leavesFrom n T j (d + 1) = B (leafOf n (pc T j)) :: leavesFrom n T (j + 1) d := rfl
theorem ownAll_leaves (n : Nat) (T : List UInt8) (h0 : n ≠ 0) (hn : n < 18446744073709551616) (d : Nat) : ∀ j, ownAll (leavesFrom n T j d) n (cont T j) = some (true, (n : Int), cont T (j + d)) := by
  induction d with
  | zero => intro j; rfl
  | succ d ih =>
    intro j
    rw [leavesFrom_succ, ownAll, ownStep_leaf _ _ n _ h0 hn (pc_length T j) (.inr rfl), Option.bind_some]
    dsimp only
    rw [if_pos (rfl : true = true), ← cont_succ, ih (j + 1), show j + 1 + d = j + (d + 1) by omega]
end Go.Proofs.Ytknmbhllinbcjaa.Pure
