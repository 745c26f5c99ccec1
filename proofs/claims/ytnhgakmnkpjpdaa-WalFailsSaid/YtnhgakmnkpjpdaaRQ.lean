import Derived.Test.YtnhgakmnkpjpdaaPB
/- A row, plain: what the sheaves of sectors are. -/
set_option linter.unusedVariables false
set_option linter.unusedSimpArgs false
namespace Go.Proofs.Ytnhgakmnkpjpdaa.Pure
open Go Go.RowKit Go.Proofs.Ytnhgakmnkpjpdaa.Q Go.Proofs.Ytnhgakmnkpjpdaa Go.Proofs.YtnhgakmnkpjpdaaW.PrintWords Go.Proofs.YtnhgakmnkpjpdaaW.PrintLast Go.Proofs.YtnhgakmnkpjpdaaW.PrintMore
/-- The sheaf that some leaves begin with. -/
def getP (l : List ByteArray) : Option (Nat × List UInt8) :=
  match sheaf_Get.f l with
  | some (n, b, _, true) => some (n.toNat, b.data.toList)
  | _ => none
theorem getP_cases (l : List ByteArray) : (∃ n S, n ≠ 0 ∧ n < 18446744073709551616 ∧ S.length ≤ 98304 ∧ sheafL n S <+: l ∧ sheaf_Get.f l = some ((n : Int), B S, ((nP (txt S) : Nat) : Int), true) ∧ getP l = some (n, S)) ∨ (sheaf_Get.f l = some (0, B [], 0, false) ∧ getP l = none) := by
  rcases Get_spec l with ⟨n, S, h0, hn, hS, hp, h⟩ | h
  · refine .inl ⟨n, S, h0, hn, hS, hp, h, ?_⟩
    unfold getP
    rw [h]
    rfl
  · exact .inr ⟨h, by unfold getP; rw [h]⟩
theorem getP_some {l : List ByteArray} {n : Nat} {S : List UInt8} (h : getP l = some (n, S)) : n ≠ 0 ∧ n < 18446744073709551616 ∧ S.length ≤ 98304 ∧ sheafL n S <+: l ∧ sheaf_Get.f l = some ((n : Int), B S, ((nP (txt S) : Nat) : Int), true) := by
  rcases getP_cases l with ⟨n', S', h0, hn, hS, hp, hg, he⟩ | ⟨-, he⟩
  · rw [h] at he; cases he; exact ⟨h0, hn, hS, hp, hg⟩
  · rw [h] at he; cases he
theorem sheafL_len (n : Nat) (S : List UInt8) : (sheafL n S).length = nP (txt S) := by unfold sheafL; rw [List.length_map, List.length_range]
theorem getP_len {l : List ByteArray} {n : Nat} {S : List UInt8} (h : getP l = some (n, S)) : 0 < nP (txt S) ∧ nP (txt S) ≤ l.length := by
  obtain ⟨-, -, -, hp, -⟩ := getP_some h
  exact ⟨nP_pos S, by rw [← sheafL_len n S]; exact hp.length_le⟩
/-- What has been read: the texts, the first stamp, the last one, the sectors. -/
structure TS where
  texts : List ByteArray
  first : Nat
  last : Nat
  en : Nat
def TS.add (st : TS) (n : Nat) (S : List UInt8) : TS := ⟨st.texts ++ [B S], if st.last = 0 then n else st.first, n, st.en + nP (txt S)⟩
def openL (l : List ByteArray) (st : TS) : TS :=
  match h : getP (l.drop st.en) with
  | some (n, S) => if st.last < n then openL l (st.add n S) else st
  | none => st
termination_by l.length - st.en
decreasing_by
  have h2 := getP_len h
  rw [List.length_drop] at h2
  show l.length - (st.en + nP (txt S)) < l.length - st.en
  omega
theorem openL_none {l : List ByteArray} {st : TS} (h : getP (l.drop st.en) = none) : openL l st = st := by
  rw [openL]; split
  · rename_i n S h'; rw [h] at h'; cases h'
  · rfl
theorem openL_some {l : List ByteArray} {st : TS} {n : Nat} {S : List UInt8} (h : getP (l.drop st.en) = some (n, S)) : openL l st = if st.last < n then openL l (st.add n S) else st := by
  rw [openL]; split
  · rename_i n' S' h'; rw [h] at h'; cases h'; rfl
  · rename_i h'; rw [h] at h'; cases h'
/-- What the walk keeps. -/
structure TSok (l : List ByteArray) (st : TS) : Prop where
  en : st.en ≤ l.length
  texts : st.texts.length ≤ st.en
  last : st.last < 18446744073709551616
  first : st.first < 18446744073709551616
theorem TSok.add {l : List ByteArray} {st : TS} (h : TSok l st) {n : Nat} {S : List UInt8} (hg : getP (l.drop st.en) = some (n, S)) : TSok l (st.add n S) := by
  have h2 := getP_len hg
  rw [List.length_drop] at h2
  have h3 := (getP_some hg).2.1
  have := h.en
  have := h.texts
  refine ⟨by show st.en + nP (txt S) ≤ l.length; omega, by show (st.texts ++ [B S]).length ≤ st.en + nP (txt S); rw [List.length_append, List.length_singleton]; omega, h3, ?_⟩
  show (if st.last = 0 then n else st.first) < _
  split
  · exact h3
  · exact h.first
def st0 : TS := ⟨[], 0, 0, 0⟩
theorem st0_ok (l : List ByteArray) : TSok l st0 := ⟨Nat.zero_le _, Nat.le_refl _, by decide, by decide⟩
theorem openL_ok {l : List ByteArray} : ∀ (m : Nat) (st : TS), l.length - st.en ≤ m → TSok l st → TSok l (openL l st) := by
  intro m
  induction m with
  | zero =>
    intro st hm h
    cases hg : getP (l.drop st.en) with
    | none => rw [openL_none hg]; exact h
    | some p =>
      have h2 := getP_len (n := p.1) (S := p.2) hg
      rw [List.length_drop] at h2
      omega
  | succ m ih =>
    intro st hm h
    cases hg : getP (l.drop st.en) with
    | none => rw [openL_none hg]; exact h
    | some p =>
      obtain ⟨n, S⟩ := p
      rw [openL_some hg]
      have h2 := getP_len hg
      rw [List.length_drop] at h2
      split
      · exact ih _ (by show l.length - (st.en + nP (txt S)) ≤ m; omega) (h.add hg)
      · exact h
/-- What a row of sectors has. -/
def rowT (l : List ByteArray) : TS := openL l st0
theorem rowT_ok (l : List ByteArray) : TSok l (rowT l) := openL_ok _ st0 (Nat.le_refl _) (st0_ok l)
theorem topL_lt (l : List ByteArray) : ∀ m, m < 18446744073709551616 → topL l m < 18446744073709551616 := by
  induction l with
  | nil => intro m h; exact h
  | cons b r ih =>
    intro m h
    refine ih _ ?_
    have : hd b < 18446744073709551616 := by
      unfold hd
      split
      · exact headNum_lt _
      · decide
    omega
end Go.Proofs.Ytnhgakmnkpjpdaa.Pure

/- A row, plain: what is added stands behind what there was; what is begun stands alone. -/
set_option linter.unusedVariables false
set_option linter.unusedSimpArgs false
namespace Go.Proofs.Ytnhgakmnkpjpdaa.Pure
open Go Go.RowKit Go.Proofs.Ytnhgakmnkpjpdaa.Q Go.Proofs.Ytnhgakmnkpjpdaa Go.Proofs.YtnhgakmnkpjpdaaW.PrintWords Go.Proofs.YtnhgakmnkpjpdaaW.PrintLast Go.Proofs.YtnhgakmnkpjpdaaW.PrintMore
theorem getP_back {n : Nat} {S : List UInt8} {l : List ByteArray} (h0 : n ≠ 0) (hn : n < 18446744073709551616) (hS : S.length ≤ 98304) (hp : sheafL n S <+: l) : getP l = some (n, S) := by
  have h := Get_back n S l h0 hn hS hp
  unfold getP
  rw [h]; rfl
/-- The number at a sheaf's first head is the first sector's. -/
theorem getP_hd {l : List ByteArray} {n : Nat} {S : List UInt8} (h : getP l = some (n, S)) : ∃ b r, l = b :: r ∧ hd b = n := by
  obtain ⟨h0, hn, hS, ⟨r, hr⟩, -⟩ := getP_some h
  have h1 := nP_pos S
  rw [sheafL_from] at hr
  obtain ⟨d, hd'⟩ : ∃ d, nP (txt S) = d + 1 := ⟨nP (txt S) - 1, by omega⟩
  rw [hd', leavesFrom_succ] at hr
  exact ⟨_, _, hr.symm, hd_leaf n _ hn (pc_length _ _)⟩
theorem hd_le_top {l : List ByteArray} {b : ByteArray} (h : b ∈ l) : hd b ≤ topL l 0 := topL_mem l 0 b h
/-- Of sectors whose first ones are the same, the sheaves among these are the same. -/
theorem openL_same {l l' : List ByteArray} : ∀ (m : Nat) (st : TS), l.length - st.en ≤ m → st.en ≤ l.length → st.en ≤ (openL l st).en ∧ (l'.take (openL l st).en = l.take (openL l st).en → openL l' st = openL l' (openL l st)) := by
  intro m
  induction m with
  | zero =>
    intro st hm h
    cases hg : getP (l.drop st.en) with
    | none => rw [openL_none hg]; exact ⟨Nat.le_refl _, fun _ => rfl⟩
    | some p =>
      have h2 := getP_len (n := p.1) (S := p.2) hg
      rw [List.length_drop] at h2
      omega
  | succ m ih =>
    intro st hm h
    cases hg : getP (l.drop st.en) with
    | none => rw [openL_none hg]; exact ⟨Nat.le_refl _, fun _ => rfl⟩
    | some p =>
      obtain ⟨n, S⟩ := p
      rw [openL_some hg]
      have h2 := getP_len hg
      rw [List.length_drop] at h2
      split
      · rename_i hlt
        obtain ⟨i1, i2⟩ := ih (st.add n S) (by show l.length - (st.en + nP (txt S)) ≤ m; omega) (by show st.en + nP (txt S) ≤ l.length; omega)
        have i1' : st.en + nP (txt S) ≤ (openL l (st.add n S)).en := i1
        refine ⟨by omega, fun ht => ?_⟩
        have hg' : getP (l'.drop st.en) = some (n, S) := by
          obtain ⟨h0, hn, hS, hp, -⟩ := getP_some hg
          refine getP_back h0 hn hS ?_
          obtain ⟨r, hr⟩ := hp
          have e1 : (l'.drop st.en).take (nP (txt S)) = sheafL n S := by
            have e2 : (l.drop st.en).take (nP (txt S)) = sheafL n S := by rw [← hr, ← sheafL_len n S, List.take_left']; rfl
            rw [← e2]
            have e3 := congrArg (fun x => (x.take (st.en + nP (txt S))).drop st.en) ht
            simp only [List.take_take, Nat.min_eq_left i1', List.drop_take, Nat.add_sub_cancel_left] at e3
            exact e3
          rw [← e1]
          exact List.take_prefix _ _
        rw [openL_some hg', if_pos hlt]
        exact i2 ht
      · exact ⟨Nat.le_refl _, fun _ => rfl⟩
/-- The last stamp is one of the heads. -/
theorem openL_last {l : List ByteArray} : ∀ (m : Nat) (st : TS), l.length - st.en ≤ m → st.last ≤ topL l 0 → (openL l st).last ≤ topL l 0 := by
  intro m
  induction m with
  | zero =>
    intro st hm h
    cases hg : getP (l.drop st.en) with
    | none => rw [openL_none hg]; exact h
    | some p =>
      have h2 := getP_len (n := p.1) (S := p.2) hg
      rw [List.length_drop] at h2
      omega
  | succ m ih =>
    intro st hm h
    cases hg : getP (l.drop st.en) with
    | none => rw [openL_none hg]; exact h
    | some p =>
      obtain ⟨n, S⟩ := p
      rw [openL_some hg]
      have h2 := getP_len hg
      rw [List.length_drop] at h2
      split
      · refine ih _ (by show l.length - (st.en + nP (txt S)) ≤ m; omega) ?_
        obtain ⟨b, r, hb, hh⟩ := getP_hd hg
        show n ≤ _
        rw [← hh]
        refine hd_le_top (List.mem_of_mem_drop (i := st.en) ?_)
        rw [hb]; simp
      · exact h
theorem rowT_last (l : List ByteArray) : (rowT l).last ≤ topL l 0 := openL_last _ st0 (Nat.le_refl _) (Nat.zero_le _)
/-- What stands behind has no number above. -/
theorem openL_stop {l : List ByteArray} {st : TS} (h : ∀ b ∈ l.drop st.en, hd b ≤ st.last) : openL l st = st := by
  cases hg : getP (l.drop st.en) with
  | none => exact openL_none hg
  | some p =>
    obtain ⟨n, S⟩ := p
    rw [openL_some hg]
    obtain ⟨b, r, hb, hh⟩ := getP_hd hg
    have := h b (by rw [hb]; simp)
    rw [if_neg (by omega)]
/-- Some sectors are written over. -/
def splice {α : Type} (l : List α) (a : Nat) (m : List α) : List α := l.take a ++ m ++ l.drop (a + m.length)
theorem splice_len {α : Type} {l m : List α} {a : Nat} (h : a + m.length ≤ l.length) : (splice l a m).length = l.length := by
  unfold splice; rw [List.length_append, List.length_append, List.length_take, List.length_drop]; omega
theorem splice_drop {α : Type} {l m : List α} {a : Nat} (h : a + m.length ≤ l.length) : (splice l a m).drop a = m ++ l.drop (a + m.length) := by
  have ha : a = (l.take a).length := by rw [List.length_take]; omega
  unfold splice
  rw [List.append_assoc]
  conv => lhs; rw [ha]
  rw [List.length_take, Nat.min_eq_left (by omega)]
  rw [show (l.take a ++ (m ++ l.drop (a + m.length))).drop a = (m ++ l.drop (a + m.length)) by rw [List.drop_append_of_le_length (by omega), List.drop_of_length_le (by omega), List.nil_append]]
theorem splice_take {α : Type} {l m : List α} {a : Nat} (h : a + m.length ≤ l.length) : (splice l a m).take a = l.take a := by
  unfold splice
  rw [List.append_assoc, List.take_append_of_le_length (by rw [List.length_take]; omega), List.take_take, Nat.min_self]
theorem splice_drop2 {α : Type} {l m : List α} {a : Nat} (h : a + m.length ≤ l.length) : (splice l a m).drop (a + m.length) = l.drop (a + m.length) := by
  rw [← List.drop_drop, splice_drop h, List.drop_left]
/-- A sheaf of a number above all stands behind those that there were. -/
theorem rowT_add {l : List ByteArray} {n : Nat} {S : List UInt8} (hn : n < 18446744073709551616) (hS : S.length ≤ 98304) (ht : topL l 0 < n) (hf : (rowT l).en + nP (txt S) ≤ l.length) : rowT (splice l (rowT l).en (sheafL n S)) = (rowT l).add n S := by
  have hf' : (rowT l).en + (sheafL n S).length ≤ l.length := by rw [sheafL_len]; exact hf
  have h1 := (openL_same (l := l) (l' := splice l (rowT l).en (sheafL n S)) _ st0 (Nat.le_refl _) (Nat.zero_le _)).2 (splice_take hf')
  have hl := rowT_last l
  have hg : getP ((splice l (rowT l).en (sheafL n S)).drop (rowT l).en) = some (n, S) := getP_back (by omega) hn hS (by rw [splice_drop hf']; exact List.prefix_append _ _)
  show openL _ st0 = _
  rw [h1]
  show openL (splice l (rowT l).en (sheafL n S)) (rowT l) = _
  rw [openL_some hg, if_pos (by omega)]
  refine openL_stop (fun b hb => ?_)
  have e : ((rowT l).add n S).en = (rowT l).en + (sheafL n S).length := by rw [sheafL_len]; rfl
  rw [e, splice_drop2 hf'] at hb
  have := hd_le_top (List.mem_of_mem_drop hb)
  show hd b ≤ n
  omega
/-- A sheaf of a number above all, at the beginning, stands alone. -/
theorem rowT_begin {l : List ByteArray} {n : Nat} {S : List UInt8} (hn : n < 18446744073709551616) (hS : S.length ≤ 98304) (ht : topL l 0 < n) (hf : nP (txt S) ≤ l.length) : rowT (splice l 0 (sheafL n S)) = ⟨[B S], n, n, nP (txt S)⟩ := by
  have hf' : 0 + (sheafL n S).length ≤ l.length := by rw [sheafL_len]; omega
  have hg : getP ((splice l 0 (sheafL n S)).drop 0) = some (n, S) := getP_back (by omega) hn hS (by rw [splice_drop hf']; exact List.prefix_append _ _)
  show openL _ st0 = _
  rw [openL_some (st := st0) hg, if_pos (by show 0 < n; omega)]
  have e : st0.add n S = ⟨[B S], n, n, nP (txt S)⟩ := by unfold TS.add st0; rw [if_pos rfl, List.nil_append, Nat.zero_add]
  rw [e]
  refine openL_stop (fun b hb => ?_)
  have e2 : (⟨[B S], n, n, nP (txt S)⟩ : TS).en = 0 + (sheafL n S).length := by rw [sheafL_len, Nat.zero_add]
  rw [e2, splice_drop2 hf'] at hb
  have := hd_le_top (List.mem_of_mem_drop hb)
  show hd b ≤ n
  omega
theorem topL_append (a b : List ByteArray) : ∀ m, topL (a ++ b) m = topL b (topL a m) := by
  induction a with
  | nil => intro m; rfl
  | cons x a ih => intro m; exact ih _
theorem topL_le (l : List ByteArray) : ∀ m k, m ≤ k → (∀ b ∈ l, hd b ≤ k) → topL l m ≤ k := by
  induction l with
  | nil => intro m k h _; exact h
  | cons x l ih =>
    intro m k h hb
    refine ih _ k ?_ (fun b hb' => hb b (by simp [hb']))
    have := hb x (by simp)
    omega
theorem top_splice {l : List ByteArray} {n a : Nat} {S : List UInt8} (hn : n < 18446744073709551616) (ht : topL l 0 < n) (hf : a + nP (txt S) ≤ l.length) : topL (splice l a (sheafL n S)) 0 = n := by
  have h1 : topL (l.take a) 0 ≤ n := topL_le _ 0 n (Nat.zero_le _) (fun b hb => by have := hd_le_top (List.mem_of_mem_take hb); omega)
  unfold splice
  rw [topL_append, topL_append]
  have h2 : topL (sheafL n S) (topL (l.take a) 0) = n := by
    rw [sheafL_from, topL_leaves n _ hn _ 0 _ h1, if_neg (by have := nP_pos S; omega)]
  rw [h2]
  exact Nat.le_antisymm (topL_le _ n n (Nat.le_refl _) (fun b hb => by have := hd_le_top (List.mem_of_mem_drop hb); omega)) (topL_ge _ n)
end Go.Proofs.Ytnhgakmnkpjpdaa.Pure
