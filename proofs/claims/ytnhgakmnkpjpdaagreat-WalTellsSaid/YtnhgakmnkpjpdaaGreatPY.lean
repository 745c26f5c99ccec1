import Derived.Test.YtnhgakmnkpjpdaaGreatPT
import Derived.Test.YtnhgakmnkpjpdaaGreatQ7
/- A log, plain: what the document's functions answer. -/
set_option linter.unusedVariables false
set_option linter.unusedSimpArgs false
namespace Go.Proofs.YtnhgakmnkpjpdaaGreat.Pure
open Go Go.RowKit Go.Proofs.YtnhgakmnkpjpdaaGreat Go.Proofs.YtnhgakmnkpjpdaaGreat.Q Go.Proofs.YtnhgakmnkpjpdaaGreatW.PrintWords Go.Proofs.YtnhgakmnkpjpdaaGreatW.PrintLast Go.Proofs.YtnhgakmnkpjpdaaGreatW.PrintMore
theorem rput4_l0 (n : Nat) (T : List UInt8) (h0 : n ≠ 0) (hn : n < 18446744073709551616) (hT : T.length ≤ 4300) (d : Nat) : ∀ (k j : Nat) (acc : List ByteArray), j + d = nP T → acc.length = j → 60 + d ≤ k →
    quittanceref04_Put.l0 k (n : Int) (B T) acc ((48 * j : Nat) : Int) = some (acc ++ leavesFrom n T j d, 0) := by
  induction d with
  | zero =>
    intro k j acc hj ha hk
    obtain ⟨k, rfl⟩ : ∃ m, k = m + 1 := ⟨k - 1, by omega⟩
    rw [quittanceref04_Put.l0, if_neg (by rw [B_size]; unfold nP at hj; omega)]
    simp [leavesFrom]
  | succ d ih =>
    intro k j acc hj ha hk
    obtain ⟨k, rfl⟩ : ∃ m, k = m + 1 := ⟨k - 1, by omega⟩
    have hlt : 48 * j < T.length := by unfold nP at hj; omega
    have hjle : j ≤ 90 := by unfold nP at hj; omega
    have e : wrap64 (((48 * j : Nat) : Int) + 48) = ((48 * (j + 1) : Nat) : Int) := by rw [wrap64_in' _ (by omega) (by omega)]; omega
    obtain ⟨m, hm, hm1, hm2, hm3⟩ : ∃ m : Nat, mn ((48 * (j + 1) : Nat) : Int) ((B T).size : Int) = (m : Int) ∧ 48 * j ≤ m ∧ m ≤ T.length ∧ (m = 48 * (j + 1) ∨ (m = T.length ∧ T.length ≤ 48 * (j + 1))) := by
      rw [B_size]
      unfold mn
      split
      · exact ⟨T.length, rfl, by omega, by omega, by omega⟩
      · exact ⟨48 * (j + 1), rfl, by omega, by omega, by omega⟩
    have hpc : (B T).extract ((48 * j : Nat) : Int).toNat (m : Int).toNat = B (pc T j) := by
      rw [Int.toNat_natCast, Int.toNat_natCast, B_extract]
      unfold pc
      rcases hm3 with h | ⟨h, h'⟩
      · rw [h, show 48 * (j + 1) - 48 * j = 48 by omega]
      · rw [List.take_of_length_le (by rw [List.length_drop]; omega), List.take_of_length_le (by rw [List.length_drop]; omega)]
    rw [quittanceref04_Put.l0, e, hm, if_pos (by rw [B_size]; omega), if_pos (by omega), if_pos (by omega), if_pos (by rw [B_size]; omega), hpc, refPut n _ h0 hn (pc_length T j) (by omega), Option.bind_some]
    dsimp only
    rw [if_pos (by omega), ih k (j + 1) _ (by omega) (by rw [List.length_append, List.length_singleton]; omega) (by omega), leavesFrom_succ, List.append_assoc]
    rfl
theorem RPut4_f (k n : Nat) (S : List UInt8) (h0 : n ≠ 0) (hn : n < 18446744073709551616) (hS : S.length ≤ 4200) (hk : 200 ≤ k) : quittanceref04_Put.f k (n : Int) (B S) = some (sheafL n S, 0) := by
  have ht := tnum_length_le' S.length (by omega)
  have hl := txt_length S
  have hp : nP (txt S) ≤ 100 := by unfold nP; omega
  unfold quittanceref04_Put.f
  rw [if_neg (by omega), if_neg (by rw [B_size]; omega), RText_f S (by omega), Option.bind_some]
  have := rput4_l0 n (txt S) h0 hn (by omega) (nP (txt S)) k 0 [] (by omega) rfl (by omega)
  rw [show ((48 * 0 : Nat) : Int) = 0 from rfl] at this
  rw [this, sheafL_from]
  rfl
theorem rtexts_l0 {l : List ByteArray} (hl : l.length ≤ 60) : ∀ (m : Nat) (st : TS), l.length - st.en ≤ m → TSok l st → (st.texts = [] ↔ st.last = 0) → ∀ k, 7410 + 2 * m ≤ k →
    quittanceref05_Texts.l0 k l st.texts (st.first : Int) (st.last : Int) (st.en : Int) = some ((openL l st).texts, ((openL l st).first : Int), ((openL l st).en : Int)) := by
  intro m
  induction m with
  | zero =>
    intro st hm h hz k hk
    obtain ⟨k, rfl⟩ : ∃ m, k = m + 2 := ⟨k - 2, by omega⟩
    have hen := h.en
    rw [quittanceref05_Texts.l0, if_pos (by omega), if_pos (by omega), Int.toNat_natCast, get_same _ _ (by rw [List.length_drop]; omega) (by omega)]
    rcases getP_cases (l.drop st.en) with ⟨n, S, hn0, hn, hS, hp, hget, hgp⟩ | ⟨hget, hgp⟩
    · have h2 := getP_len hgp
      rw [List.length_drop] at h2
      omega
    · rw [hget, openL_none hgp, Option.bind_some, if_neg (show ¬ ((0 : Int), B [], (0 : Int), false).2.2.2 = true by decide), quittanceref05_Texts.j1, if_pos rfl]
  | succ m ih =>
    intro st hm h hz k hk
    obtain ⟨k, rfl⟩ : ∃ m, k = m + 2 := ⟨k - 2, by omega⟩
    have hen := h.en
    rw [quittanceref05_Texts.l0, if_pos (by omega), if_pos (by omega), Int.toNat_natCast, get_same _ _ (by rw [List.length_drop]; omega) (by omega)]
    rcases getP_cases (l.drop st.en) with ⟨n, S, hn0, hn, hS, hp, hget, hgp⟩ | ⟨hget, hgp⟩
    · have h2 := getP_len hgp
      rw [List.length_drop] at h2
      rw [hget, openL_some hgp, Option.bind_some, if_pos (show ((n : Int), B S, ((nP (txt S) : Nat) : Int), true).2.2.2 = true from rfl), quittanceref05_Texts.j1]
      by_cases hc : st.last < n
      · rw [if_pos hc, if_neg (by simp; omega)]
        have hw : wrap64 ((st.en : Int) + ((nP (txt S) : Nat) : Int)) = ((st.en + nP (txt S) : Nat) : Int) := by unfold wrap64; omega
        have htl := h.texts
        have i1 := ih (st.add n S) (by show l.length - (st.en + nP (txt S)) ≤ m; omega) (h.add hgp) (by unfold TS.add; simp [hn0]) k (by omega)
        rw [hw]
        by_cases h0 : st.last = 0
        · have ht := hz.2 h0
          rw [if_pos (by rw [ht]; rfl), if_pos (by omega)]
          have e : (st.add n S).first = n := by unfold TS.add; rw [if_pos h0]
          rw [e] at i1
          exact i1
        · have ht : st.texts ≠ [] := fun e => h0 (hz.1 e)
          have ht2 : 0 < st.texts.length := by
            cases h' : st.texts with
            | nil => exact absurd h' ht
            | cons _ _ => simp
          rw [if_neg (by omega), if_pos (by omega)]
          have e : (st.add n S).first = st.first := by unfold TS.add; rw [if_neg h0]
          rw [e] at i1
          exact i1
      · rw [if_neg hc, if_pos (by simp; omega)]
    · rw [hget, openL_none hgp, Option.bind_some, if_neg (show ¬ ((0 : Int), B [], (0 : Int), false).2.2.2 = true by decide), quittanceref05_Texts.j1, if_pos rfl]
theorem RTexts_f (k : Nat) (l : List ByteArray) (hl : l.length ≤ 60) (hk : 7600 ≤ k) : quittanceref05_Texts.f k l = some ((rowT l).texts, ((rowT l).first : Int), ((rowT l).en : Int)) := by
  unfold quittanceref05_Texts.f
  exact rtexts_l0 hl l.length st0 (Nat.sub_le _ _) (st0_ok l) ⟨fun _ => rfl, fun _ => rfl⟩ k (by omega)
theorem rnew_l0 (mn : Nat) (hm : mn ≤ 60) (d : Nat) : ∀ (k j : Nat), j + d = mn → d < k → quittanceref05_New.l0 k (mn : Int) (List.replicate j zB) (j : Int) = some (List.replicate mn zB) := by
  induction d with
  | zero =>
    intro k j hj hk
    obtain ⟨k, rfl⟩ : ∃ m, k = m + 1 := ⟨k - 1, by omega⟩
    rw [quittanceref05_New.l0, if_neg (by omega), show j = mn by omega]
  | succ d ih =>
    intro k j hj hk
    obtain ⟨k, rfl⟩ : ∃ m, k = m + 1 := ⟨k - 1, by omega⟩
    have hw : wrap64 ((j : Int) + 1) = ((j + 1 : Nat) : Int) := by unfold wrap64; omega
    rw [quittanceref05_New.l0, if_pos (by omega), if_pos (by decide), if_pos (by rw [List.length_replicate]; omega), zB_eq, hw, ← List.replicate_succ']
    exact ih k (j + 1) (by omega) (by omega)
theorem RNew_f (k mn : Nat) (hm : mn ≤ 60) (hk : 100 ≤ k) : quittanceref05_New.f k (mn : Int) = some (List.replicate mn zB) := rnew_l0 mn hm mn k 0 (by omega) (by omega)
/-! The log of the document -/
def secD (a b : List ByteArray) : Bool := decide ((rowT a).first < (rowT b).first)
def halfD (a b : List ByteArray) : List ByteArray := if secD a b = true then b else a
def topD (a b : List ByteArray) : Nat := max (topL a 0) (topL b 0)
def txD (l : List ByteArray) : Option (List (List ByteArray)) := parseA [] (rowT l).texts
theorem second_f (k : Nat) (a b : List ByteArray) (ha : a.length ≤ 60) (hb : b.length ≤ 60) (hk : 7600 ≤ k) : quittanceref06_second.f k a b = some (secD a b) := by
  unfold quittanceref06_second.f secD
  rw [RTexts_f k a ha hk, Option.bind_some, RTexts_f k b hb hk, Option.bind_some]
  congr 1
  refine decide_eq_decide.2 ?_
  show ((rowT b).first : Int) > ((rowT a).first : Int) ↔ _
  omega
theorem halfD_len (a b : List ByteArray) (ha : a.length ≤ 60) (hb : b.length ≤ 60) : (halfD a b).length ≤ 60 := by unfold halfD; split <;> assumption
theorem top_f (k : Nat) (a b : List ByteArray) (ha : a.length ≤ 60) (hb : b.length ≤ 60) (hk : 200 ≤ k) : quittanceref06_top.f k a b = some ((topD a b : Nat) : Int) := by
  unfold quittanceref06_top.f topD
  rw [RTop_nat k a ha hk, Option.bind_some, RTop_nat k b hb hk, Option.bind_some]
  congr 1
  unfold mx
  split <;> omega
theorem may_l0 (x : List ByteArray) (hx : fine x) (a b : List ByteArray) (ha : a.length ≤ 60) (hb : b.length ≤ 60) (d : Nat) : ∀ (k j : Nat), j + d = x.length →
    quittanceref06_may.l0 (k + 300 + d + 1) x (j : Int) a b = some (if 9223372036854775807 ≤ topD a b then 6 else 0) := by
  have h3 := hx.1
  induction d with
  | zero =>
    intro k j hj
    have hsz : (B (rowL x)).size ≤ 4110 := by rw [B_size]; exact rowL_fine x hx
    have hlt : topD a b < 18446744073709551616 := by
      have h1 := topL_lt a 0 (by decide)
      have h2 := topL_lt b 0 (by decide)
      unfold topD; omega
    have ew1 : IntKind.u64.wrap (Int.tdiv ((topD a b : Nat) : Int) 2) = ((topD a b / 2 : Nat) : Int) := by
      rw [IntKind.wrap_u64, Int.tdiv_eq_ediv_of_nonneg (by omega)]; omega
    have ew2 : IntKind.u64.wrap (((topD a b : Nat) : Int) + 1) = (((topD a b : Nat) : Int) + 1) % 18446744073709551616 := by rw [IntKind.wrap_u64]
    rw [quittanceref06_may.l0, if_neg (by omega), RRow_f _ x hx (by omega), Option.bind_some, if_neg (by omega), top_f _ a b ha hb (by omega), Option.bind_some, ew1]
    by_cases c : 9223372036854775807 ≤ topD a b
    · rw [if_pos c]
      by_cases c2 : ((topD a b / 2 : Nat) : Int) ≥ 4611686018427387904
      · rw [if_pos c2]
      · rw [if_neg c2, Option.bind_some, ew2, if_pos (by omega)]
    · rw [if_neg c, if_neg (by omega), Option.bind_some, ew2, if_neg (by omega)]
  | succ d ih =>
    intro k j hj
    have hj2 : j < x.length := by omega
    have hrd : rdOf ByteArray.empty x (j : Int) = x[j] := by
      unfold rdOf
      rw [Int.toNat_natCast, List.getD_eq_getElem?_getD, List.getElem?_eq_getElem hj2]; rfl
    have hs := hx.2 x[j] (List.getElem_mem _)
    have hw : wrap64 ((j : Int) + 1) = ((j + 1 : Nat) : Int) := by unfold wrap64; omega
    rw [show k + 300 + (d + 1) + 1 = (k + 300 + d + 1) + 1 by omega, quittanceref06_may.l0, if_pos (by omega), if_pos (by omega), hrd, if_neg (by omega), hw]
    exact ih k (j + 1) (by omega)
theorem may_f (k : Nat) (x : List ByteArray) (hx : fine x) (a b : List ByteArray) (ha : a.length ≤ 60) (hb : b.length ≤ 60) (hk : 400 ≤ k) : quittanceref06_may.f k a b x = some (if 9223372036854775807 ≤ topD a b then 6 else 0) := by
  have h3 := hx.1
  obtain ⟨m, rfl⟩ : ∃ m, k = m + 300 + x.length + 1 := ⟨k - 300 - x.length - 1, by omega⟩
  unfold quittanceref06_may.f
  exact may_l0 x hx a b ha hb x.length m 0 (by omega)
theorem same06_l0 (a b : List (List ByteArray)) (h : a.length = b.length) (hl : a.length ≤ 4096) (hs : ∀ t ∈ a, t.length ≤ 4096) (d : Nat) : ∀ (k j : Nat), j + d = a.length →
    ∃ q, quittanceref06_Same.l0 (k + 4100 + d + 1) a b (j : Int) = some q ∧ (q = true ↔ a.drop j = b.drop j) := by
  induction d with
  | zero =>
    intro k j hj
    refine ⟨true, ?_, ?_⟩
    · rw [quittanceref06_Same.l0, if_neg (by omega)]
    · rw [List.drop_eq_nil_of_le (by omega), List.drop_eq_nil_of_le (by omega)]; simp
  | succ d ih =>
    intro k j hj
    have hj2 : j < a.length := by omega
    have hj3 : j < b.length := by omega
    have hrd : rd_L2 a (j : Int) = a[j] := by
      unfold rd_L2
      rw [Int.toNat_natCast, List.getD_eq_getElem?_getD, List.getElem?_eq_getElem hj2]; rfl
    have hrd2 : rd_L2 b (j : Int) = b[j] := by
      unfold rd_L2
      rw [Int.toNat_natCast, List.getD_eq_getElem?_getD, List.getElem?_eq_getElem hj3]; rfl
    have hw : wrap64 ((j : Int) + 1) = ((j + 1 : Nat) : Int) := by unfold wrap64; omega
    have hsz := hs a[j] (List.getElem_mem _)
    obtain ⟨q, hq, hq2⟩ := RSame_f (k + 4100 + d + 1) a[j] b[j] (by omega) (by omega)
    rw [show k + 4100 + (d + 1) + 1 = (k + 4100 + d + 1) + 1 by omega, quittanceref06_Same.l0, if_pos (by omega), if_pos (by omega), if_pos (by omega), hrd, hrd2, hq, Option.bind_some, hw]
    have ea : a.drop j = a[j] :: a.drop (j + 1) := List.drop_eq_getElem_cons hj2
    have eb : b.drop j = b[j] :: b.drop (j + 1) := List.drop_eq_getElem_cons hj3
    rw [ea, eb]
    by_cases c : q = true
    · rw [if_pos c]
      obtain ⟨q2, h1, h2⟩ := ih k (j + 1) (by omega)
      refine ⟨q2, h1, h2.trans ?_⟩
      rw [hq2.1 c]; exact ⟨fun e => by rw [e], fun e => (List.cons.inj e).2⟩
    · rw [if_neg c]
      refine ⟨false, rfl, ⟨fun e => (by cases e), fun e => ?_⟩⟩
      exact absurd (hq2.2 (List.cons.inj e).1) c
theorem Same06_f (k : Nat) (a b : List (List ByteArray)) (hl : a.length ≤ 4096) (hs : ∀ t ∈ a, t.length ≤ 4096) (hk : 8300 ≤ k) : ∃ q, quittanceref06_Same.f k a b = some q ∧ (q = true ↔ a = b) := by
  unfold quittanceref06_Same.f
  by_cases h : a.length = b.length
  · rw [if_pos (by omega)]
    obtain ⟨m, rfl⟩ : ∃ m, k = m + 4100 + a.length + 1 := ⟨k - 4100 - a.length - 1, by omega⟩
    have := same06_l0 a b h hl hs a.length m 0 (by omega)
    rw [List.drop_zero, List.drop_zero] at this
    exact this
  · rw [if_neg (by omega)]
    exact ⟨false, rfl, fun e => (by cases e), fun e => absurd (by rw [e]) h⟩
end Go.Proofs.YtnhgakmnkpjpdaaGreat.Pure

/- Chapter 06, plain: are acts more than a statement looks at? -/
set_option linter.unusedVariables false
set_option linter.unusedSimpArgs false
namespace Go.Proofs.YtnhgakmnkpjpdaaGreat.Pure
open Go Go.RowKit Go.Proofs.YtnhgakmnkpjpdaaGreat.Q Go.Proofs.YtnhgakmnkpjpdaaGreat Go.Proofs.YtnhgakmnkpjpdaaGreatW.PrintWords Go.Proofs.YtnhgakmnkpjpdaaGreatW.PrintLast Go.Proofs.YtnhgakmnkpjpdaaGreatW.PrintMore
theorem rd32_get (l : List S40) (i : Nat) (h : i < l.length) : rd_T40 l (i : Int) = l[i] := by
  unfold rd_T40
  rw [Int.toNat_natCast, List.getD_eq_getElem?_getD, List.getElem?_eq_getElem h]; rfl
theorem great_l1 (l : List S40) (hl : l.length ≤ 40) (i : Nat) (hi : i < l.length) (h10 : l[i].f1.length ≤ 10) (d : Nat) : ∀ (k j : Nat), j + d = l[i].f1.length →
    ((∀ s ∈ l[i].f1.drop j, s.size ≤ 400) ∧ quittancelaw06_great.l1 (k + d + 1) l (i : Int) (j : Int) = quittancelaw06_great.l0 k l ((i + 1 : Nat) : Int)) ∨
    ((¬ ∀ s ∈ l[i].f1.drop j, s.size ≤ 400) ∧ quittancelaw06_great.l1 (k + d + 1) l (i : Int) (j : Int) = some true) := by
  have hw : wrap64 ((i : Int) + 1) = ((i + 1 : Nat) : Int) := by unfold wrap64; omega
  induction d with
  | zero =>
    intro k j hj
    refine .inl ⟨fun s hs => ?_, ?_⟩
    · rw [List.drop_eq_nil_of_le (by omega)] at hs; cases hs
    · rw [show k + 0 + 1 = k + 1 from rfl, quittancelaw06_great.l1, if_pos (by omega), if_pos (by omega), rd32_get l i hi, if_neg (by omega), hw]
  | succ d ih =>
    intro k j hj
    have hj2 : j < l[i].f1.length := by omega
    have hrd : rdOf ByteArray.empty l[i].f1 (j : Int) = l[i].f1[j] := rdOf_get _ _ (by omega) (by omega)
    have hw2 : wrap64 ((j : Int) + 1) = ((j + 1 : Nat) : Int) := by unfold wrap64; omega
    rw [show k + (d + 1) + 1 = (k + d + 1) + 1 by omega, quittancelaw06_great.l1, if_pos (by omega), if_pos (by omega), rd32_get l i hi, if_pos (by omega), if_pos (by omega), hrd, hw2, List.drop_eq_getElem_cons hj2]
    by_cases c : 400 < l[i].f1[j].size
    · rw [if_pos (by omega)]
      exact .inr ⟨fun e => by have := e _ (List.mem_cons_self ..); omega, rfl⟩
    · rw [if_neg (by omega)]
      rcases ih k (j + 1) (by omega) with ⟨c2, h2⟩ | ⟨c2, h2⟩
      · refine .inl ⟨fun s hs => ?_, h2⟩
        rcases List.mem_cons.1 hs with e | e
        · rw [e]; omega
        · exact c2 s e
      · exact .inr ⟨fun e => c2 (fun s hs => e s (List.mem_cons_of_mem _ hs)), h2⟩
theorem great_l0 (l : List S40) (hl : l.length ≤ 40) (e : Nat) : ∀ (k i : Nat), i + e = l.length → ∃ r, quittancelaw06_great.l0 (k + 12 * e + 1) l (i : Int) = some r ∧ (r = false ↔ ∀ x ∈ l.drop i, fine x.f1) := by
  induction e with
  | zero =>
    intro k i hi
    refine ⟨false, ?_, ⟨fun _ x hx => ?_, fun _ => rfl⟩⟩
    · rw [show k + 12 * 0 + 1 = k + 1 by omega, quittancelaw06_great.l0, if_neg (by omega)]
    · rw [List.drop_eq_nil_of_le (by omega)] at hx; cases hx
  | succ e ih =>
    intro k i hi
    have hi2 : i < l.length := by omega
    rw [show k + 12 * (e + 1) + 1 = (k + 12 * e + 12) + 1 by omega, quittancelaw06_great.l0, if_pos (by omega), if_pos (by omega), rd32_get l i hi2, List.drop_eq_getElem_cons hi2]
    by_cases c : 10 < l[i].f1.length
    · rw [if_pos (by omega)]
      exact ⟨true, rfl, ⟨fun e => (by cases e), fun h => by have := (h _ (List.mem_cons_self ..)).1; omega⟩⟩
    · rw [if_neg (by omega)]
      have h1 := great_l1 l hl i hi2 (by omega) l[i].f1.length (k + 12 * e + 11 - l[i].f1.length) 0 (by omega)
      rw [show k + 12 * e + 11 - l[i].f1.length + l[i].f1.length + 1 = k + 12 * e + 12 by omega, List.drop_zero] at h1
      rcases h1 with ⟨c2, h1⟩ | ⟨c2, h1⟩
      · have h1' : quittancelaw06_great.l1 (k + 12 * e + 12) l (i : Int) 0 = _ := h1
        rw [h1']
        obtain ⟨r, h2, h3⟩ := ih (k + 10 - l[i].f1.length) (i + 1) (by omega)
        rw [show k + 10 - l[i].f1.length + 12 * e + 1 = k + 12 * e + 11 - l[i].f1.length by omega] at h2
        refine ⟨r, h2, h3.trans ⟨fun h x hx => ?_, fun h x hx => h x (List.mem_cons_of_mem _ hx)⟩⟩
        rcases List.mem_cons.1 hx with e | e
        · rw [e]; exact ⟨by omega, c2⟩
        · exact h x e
      · have h1' : quittancelaw06_great.l1 (k + 12 * e + 12) l (i : Int) 0 = _ := h1
        rw [h1']
        exact ⟨true, rfl, ⟨fun e => (by cases e), fun h => absurd (h _ (List.mem_cons_self ..)).2 c2⟩⟩
theorem great_f (l : List S40) (k : Nat) (hk : 500 ≤ k) : ∃ r, quittancelaw06_great.f k l = some r ∧ (r = false ↔ l.length ≤ 40 ∧ ∀ x ∈ l, fine x.f1) := by
  unfold quittancelaw06_great.f
  by_cases c : 40 < l.length
  · rw [if_pos (by omega)]
    exact ⟨true, rfl, ⟨fun e => (by cases e), fun h => by have := h.1; omega⟩⟩
  · rw [if_neg (by omega)]
    obtain ⟨r, h1, h2⟩ := great_l0 l (by omega) l.length (k - 12 * l.length - 1) 0 (by omega)
    rw [show k - 12 * l.length - 1 + 12 * l.length + 1 = k by omega, List.drop_zero] at *
    exact ⟨r, h1, h2.trans ⟨fun h => ⟨by omega, h⟩, fun h => h.2⟩⟩
end Go.Proofs.YtnhgakmnkpjpdaaGreat.Pure
