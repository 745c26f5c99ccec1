import Derived.Test.YtnhgakmnkpjpdaaRT
import Derived.Test.YtnhgakmnkpjpdaaPX
/- Chapter 05, plain: what a crash leaves of sectors; what a row has of them. -/
set_option linter.unusedVariables false
set_option linter.unusedSimpArgs false
namespace Go.Proofs.Ytnhgakmnkpjpdaa.Pure
open Go Go.RowKit Go.Proofs.Ytnhgakmnkpjpdaa.Q Go.Proofs.Ytnhgakmnkpjpdaa Go.Proofs.YtnhgakmnkpjpdaaW.PrintWords Go.Proofs.YtnhgakmnkpjpdaaW.PrintLast Go.Proofs.YtnhgakmnkpjpdaaW.PrintMore
/-- A sector that a crash may leave. -/
structure Sound (L : List UInt8) : Prop where
  len : L.length = 64
  ends : footNum L ≤ headNum L
/-- Where a valid leaf of a sector comes from: from before, or from one of the first k writes. -/
def Src (sure : List (List UInt8)) (opn : List (Nat × List UInt8)) (k i : Nat) (L : List UInt8) : Prop :=
  ∀ m, m ≠ 0 → Valid L m → (Valid (sat sure i) m ∧ mid L = mid (sat sure i)) ∨ ∃ (k' : Nat) (x : Nat × List UInt8), k' < k ∧ opn[k']? = some x ∧ x.1 = i ∧ Valid x.2 m ∧ mid L = mid x.2
structure Wrs (sure : List (List UInt8)) (opn : List (Nat × List UInt8)) : Prop where
  sound : ∀ i, i < sure.length → Sound (sat sure i)
  leaf : ∀ (k : Nat) (x : Nat × List UInt8), opn[k]? = some x → x.1 < sure.length ∧ ∃ st p, x.2 = leafOf st p ∧ p.length ≤ 48 ∧ st < 18446744073709551616 ∧ headNum (sat sure x.1) < st ∧ ∀ (k' : Nat) (y : Nat × List UInt8), k' < k → opn[k']? = some y → y.1 = x.1 → headNum y.2 < st
structure Gd (sure : List (List UInt8)) (opn : List (Nat × List UInt8)) (torn : Int) (k i : Nat) (L : List UInt8) : Prop where
  sound : Sound L
  src : Src sure opn k i L
  bnd : (0 ≤ torn ∧ torn < (k : Int)) ∨ ∀ (k2 : Nat) (x : Nat × List UInt8), k ≤ k2 → opn[k2]? = some x → x.1 = i → headNum L < headNum x.2
  same : (∀ (k' : Nat) (x : Nat × List UInt8), k' < k → opn[k']? = some x → x.1 ≠ i) → L = sat sure i
theorem Src.mono {sure : List (List UInt8)} {opn : List (Nat × List UInt8)} {k k2 i : Nat} {L : List UInt8} (h : Src sure opn k i L) (hk : k ≤ k2) : Src sure opn k2 i L := fun m h0 hv => (h m h0 hv).imp id fun ⟨k', x, h1, h2⟩ => ⟨k', x, Nat.lt_of_lt_of_le h1 hk, h2⟩
theorem crash_gd {sure : List (List UInt8)} {opn : List (Nat × List UInt8)} (H : Wrs sure opn) (keep torn at_ : Int) : ∀ k, k ≤ opn.length → ∀ i, i < sure.length → Gd sure opn torn k i (sat (sureAt keep torn at_ sure opn k) i) := by
  intro k
  induction k with
  | zero =>
    intro _ i hi
    refine ⟨H.sound i hi, fun m _ hv => .inl ⟨hv, rfl⟩, .inr fun k2 x _ hx he => ?_, fun _ => rfl⟩
    obtain ⟨-, st, p, h1, h2, h3, h4, -⟩ := H.leaf k2 x hx
    rw [h1, leafOf_head st p h2 h3, ← he]
    exact h4
  | succ k ih =>
    intro hk i hi
    have hI := ih (by omega) i hi
    have hget : opn[k]? = some opn[k] := List.getElem?_eq_getElem (by omega)
    obtain ⟨x, hx⟩ : ∃ x, x = opn[k] := ⟨_, rfl⟩
    rw [← hx] at hget
    have hgd : opn.getD k (0, []) = x := by rw [List.getD_eq_getElem?_getD, hget]; rfl
    obtain ⟨hxl, st, p, h1, h2, h3, h4, h5⟩ := H.leaf k x hget
    have hlen := sureAt_len keep torn at_ sure opn k
    rw [sureAt, hgd]
    unfold tornL
    rw [sat_set _ _ _ _ (by rw [hlen]; exact hxl)]
    by_cases hj : i = x.1
    · rw [if_pos hj]
      subst hj
      obtain ⟨L, hL⟩ : ∃ L, L = sat (sureAt keep torn at_ sure opn k) x.1 := ⟨_, rfl⟩
      rw [← hL] at hI
      have hLg : (sureAt keep torn at_ sure opn k).getD x.1 [] = L := hL.symm
      rw [hLg, h1]
      have hhead : headNum x.2 = st := by rw [h1, leafOf_head st p h2 h3]
      have hval := valid_leaf st p h3 h2
      have hme : ∀ m L', Valid L' m → mid L' = full p → m = st → ∃ (k' : Nat) (y : Nat × List UInt8), k' < k + 1 ∧ opn[k']? = some y ∧ y.1 = x.1 ∧ Valid y.2 m ∧ mid L' = mid y.2 := by
        intro m L' hv hm he
        exact ⟨k, x, Nat.lt_succ_self _, hget, rfl, by rw [h1, he]; exact hval.1, by rw [hm, h1, hval.2]⟩
      have hself : (∀ (k' : Nat) (y : Nat × List UInt8), k' < k + 1 → opn[k']? = some y → y.1 ≠ x.1) → False := fun h => h k x (Nat.lt_succ_self _) hget rfl
      by_cases ht : (k : Int) = torn
      · have hb : headNum L < st := by
          rcases hI.bnd with ⟨-, h⟩ | h
          · omega
          · rw [← hhead]; exact h k x (Nat.le_refl _) hget rfl
        obtain ⟨t1, t2, t3, -⟩ := torn_valid (n := toOf keep torn at_ k) h2 h3 (toOf_le keep torn at_ k) hI.sound.len hI.sound.ends hb
        refine ⟨⟨t1, t2⟩, fun m h0 hv => ?_, .inl ⟨by omega, by omega⟩, fun h => (hself h).elim⟩
        rcases t3 m h0 hv with ⟨e1, e2⟩ | ⟨-, e1, e2⟩
        · exact .inr (hme m _ hv e2 e1)
        · exact ((hI.src.mono (Nat.le_succ k)) m h0 e1).imp (fun q => ⟨q.1, e2.trans q.2⟩) fun ⟨k', y, q1, q2, q3, q4, q5⟩ => ⟨k', y, q1, q2, q3, q4, e2.trans q5⟩
      · have htt : toOf keep torn at_ k = 64 ∨ toOf keep torn at_ k = 0 := by
          unfold toOf
          rw [if_neg ht]
          split
          · exact .inl rfl
          · exact .inr rfl
        rcases htt with e | e
        · rw [e, List.drop_of_length_le (by rw [hI.sound.len]; exact Nat.le_refl _), List.append_nil, List.take_of_length_le (by rw [leafOf_length st p h2]; exact Nat.le_refl _)]
          refine ⟨⟨leafOf_length st p h2, by rw [leafOf_foot st p h2 h3, leafOf_head st p h2 h3]; exact Nat.le_refl _⟩, fun m h0 hv => .inr (hme m _ hv hval.2 (hv.2.1.symm.trans hval.1.2.1)), .inr fun k2 y hk2 hy he => ?_, fun h => (hself h).elim⟩
          obtain ⟨-, st2, p2, g1, g2, g3, -, g5⟩ := H.leaf k2 y hy
          have := g5 k x (by omega) hget he.symm
          rw [hhead] at this
          rw [leafOf_head st p h2 h3, g1, leafOf_head st2 p2 g2 g3]
          exact this
        · rw [e, List.take_zero, List.nil_append, List.drop_zero]
          exact ⟨hI.sound, hI.src.mono (Nat.le_succ k), hI.bnd.imp (fun q => ⟨q.1, by omega⟩) fun q k2 y hk2 => q k2 y (by omega), fun h => (hself h).elim⟩
    · rw [if_neg hj]
      exact ⟨hI.sound, hI.src.mono (Nat.le_succ k), hI.bnd.imp (fun q => ⟨q.1, by omega⟩) fun q k2 y hk2 => q k2 y (by omega), fun h => hI.same fun k' y hk' => h k' y (by omega)⟩
theorem crash_src {sure : List (List UInt8)} {opn : List (Nat × List UInt8)} (H : Wrs sure opn) (keep torn at_ : Int) (i : Nat) (hi : i < sure.length) :
    Sound (sat (sureAt keep torn at_ sure opn opn.length) i) ∧ Src sure opn opn.length i (sat (sureAt keep torn at_ sure opn opn.length) i) ∧ ((∀ x ∈ opn, x.1 ≠ i) → sat (sureAt keep torn at_ sure opn opn.length) i = sat sure i) :=
  have h := crash_gd H keep torn at_ opn.length (Nat.le_refl _) i hi
  ⟨h.sound, h.src, fun q => h.same fun k' x _ hx => q x (List.mem_of_getElem? hx)⟩
/-! Sheaves' leaves -/
def lvs (adds : List (Nat × List UInt8)) : List (Nat × List UInt8) := adds.flatMap fun a => (List.range (nP (txt a.2))).map fun j => (a.1, pc (txt a.2) j)
theorem lvs_cons (a : Nat × List UInt8) (t : List (Nat × List UInt8)) : lvs (a :: t) = (List.range (nP (txt a.2))).map (fun j => (a.1, pc (txt a.2) j)) ++ lvs t := by unfold lvs; rw [List.flatMap_cons]
theorem lvs_lo (a : Nat × List UInt8) (t : List (Nat × List UInt8)) (j : Nat) (h : j < nP (txt a.2)) : (lvs (a :: t))[j]? = some (a.1, pc (txt a.2) j) := by
  rw [lvs_cons, List.getElem?_append_left (by rw [List.length_map, List.length_range]; exact h), List.getElem?_map, List.getElem?_range h]; rfl
theorem lvs_hi (a : Nat × List UInt8) (t : List (Nat × List UInt8)) (j : Nat) (h : nP (txt a.2) ≤ j) : (lvs (a :: t))[j]? = (lvs t)[j - nP (txt a.2)]? := by
  rw [lvs_cons, List.getElem?_append_right (by rw [List.length_map, List.length_range]; exact h), List.length_map, List.length_range]
theorem lvs_mem {adds : List (Nat × List UInt8)} {x : Nat × List UInt8} (h : x ∈ lvs adds) : ∃ a ∈ adds, x.1 = a.1 ∧ ∃ j, x.2 = pc (txt a.2) j := by
  unfold lvs at h
  obtain ⟨a, ha, hx⟩ := List.mem_flatMap.1 h
  obtain ⟨j, -, rfl⟩ := List.mem_map.1 hx
  exact ⟨a, ha, rfl, j, rfl⟩
def Up : Nat → List (Nat × List UInt8) → Prop
  | _, [] => True
  | t, a :: r => t < a.1 ∧ Up a.1 r
theorem Up.mem : ∀ {adds : List (Nat × List UInt8)} {t : Nat}, Up t adds → ∀ a ∈ adds, t < a.1
  | [], _, _, a, h => by cases h
  | b :: r, t, hu, a, h => by
    rcases List.mem_cons.1 h with rfl | h
    · exact hu.1
    · exact Nat.lt_trans hu.1 (Up.mem hu.2 a h)
theorem Up.snoc : ∀ {adds : List (Nat × List UInt8)} {t : Nat} {a : Nat × List UInt8}, Up t adds → t < a.1 → (∀ b ∈ adds, b.1 < a.1) → Up t (adds ++ [a])
  | [], t, a, _, h, _ => ⟨h, trivial⟩
  | b :: r, t, a, hu, _, hb => ⟨hu.1, Up.snoc hu.2 (hb b (by simp)) (fun c hc => hb c (by simp [hc]))⟩
def posL : Nat → List (Nat × List UInt8) → List (Nat × List UInt8)
  | _, [] => []
  | e, x :: t => (e, leafOf x.1 x.2) :: posL (e + 1) t
theorem posL_get : ∀ (l : List (Nat × List UInt8)) (e k : Nat), (posL e l)[k]? = (l[k]?).map fun x => (e + k, leafOf x.1 x.2)
  | [], e, k => by simp [posL]
  | x :: t, e, 0 => by simp [posL]
  | x :: t, e, k + 1 => by
    rw [posL, List.getElem?_cons_succ, List.getElem?_cons_succ, posL_get t (e + 1) k, show e + 1 + k = e + (k + 1) by omega]
theorem posL_length (l : List (Nat × List UInt8)) : ∀ e, (posL e l).length = l.length := by
  induction l with
  | nil => intro e; rfl
  | cons x t ih => intro e; rw [posL, List.length_cons, ih, List.length_cons]
/-! A sheaf among sectors -/
theorem valid_eq {L p : List UInt8} {m : Nat} (h : Valid L m) (hm : mid L = full p) (hp : p.length ≤ 48) : L = leafOf m p := by
  have h2 := (leaf_iff L h.1).2 (h.2.2.trans h.2.1.symm)
  have h3 : (L.drop 8).take 48 = full p := hm
  rw [h3, full48 (full p) (full_length p hp), h.2.1] at h2
  exact h2.symm
theorem sec_get (sec : List (List UInt8)) (n i : Nat) (hn : n ≤ sec.length) (hi : i < n) : ((sec.take n).map B)[i]? = some (B (sat sec i)) := by
  rw [List.getElem?_map, List.getElem?_take, if_pos hi, List.getElem?_eq_getElem (by omega)]
  unfold sat
  rw [List.getD_eq_getElem?_getD, List.getElem?_eq_getElem (by omega)]
  rfl
theorem pre_sec {sec : List (List UInt8)} {n m e : Nat} {S : List UInt8} (hn : n ≤ sec.length) (he : e ≤ n) : sheafL m S <+: ((sec.take n).map B).drop e ↔ e + nP (txt S) ≤ n ∧ ∀ j, j < nP (txt S) → sat sec (e + j) = leafOf m (pc (txt S) j) := by
  have hlen : (((sec.take n).map B).drop e).length = n - e := by rw [List.length_drop, List.length_map, List.length_take]; omega
  have hsl : ∀ j, j < nP (txt S) → (sheafL m S)[j]? = some (B (leafOf m (pc (txt S) j))) := fun j hj => by
    unfold sheafL
    rw [List.getElem?_map, List.getElem?_range hj]; rfl
  constructor
  · intro h
    have h1 := h.length_le
    rw [sheafL_len, hlen] at h1
    have h0 := nP_pos S
    refine ⟨by omega, fun j hj => ?_⟩
    obtain ⟨r, hr⟩ := h
    have h2 := hsl j hj
    rw [← List.getElem?_append_left (l₂ := r) (by rw [sheafL_len]; exact hj), hr, List.getElem?_drop, sec_get sec n (e + j) hn (by omega)] at h2
    exact B_inj (Option.some.inj h2)
  · rintro ⟨h1, h2⟩
    rw [List.prefix_iff_eq_take]
    refine List.ext_getElem? fun j => ?_
    by_cases hj : j < nP (txt S)
    · rw [hsl j hj, List.getElem?_take, if_pos (by rw [sheafL_len]; exact hj), List.getElem?_drop, sec_get sec n (e + j) hn (by omega), h2 j hj]
    · rw [List.getElem?_eq_none (by rw [sheafL_len]; omega), List.getElem?_eq_none (by rw [List.length_take, sheafL_len]; omega)]
theorem openL_fix {l : List ByteArray} : ∀ (m : Nat) (st : TS), l.length - st.en ≤ m → ∀ n S, getP (l.drop (openL l st).en) = some (n, S) → n ≤ (openL l st).last := by
  intro m
  induction m with
  | zero =>
    intro st hm n S hg
    cases h : getP (l.drop st.en) with
    | none => rw [openL_none h, h] at hg; cases hg
    | some p =>
      have h2 := getP_len (n := p.1) (S := p.2) h
      rw [List.length_drop] at h2
      omega
  | succ m ih =>
    intro st hm n S hg
    cases h : getP (l.drop st.en) with
    | none => rw [openL_none h, h] at hg; cases hg
    | some p =>
      obtain ⟨a, X⟩ := p
      have h2 := getP_len h
      rw [List.length_drop] at h2
      rw [openL_some h] at hg ⊢
      by_cases c : st.last < a
      · rw [if_pos c] at hg ⊢
        exact ih _ (by show l.length - (st.en + nP (txt X)) ≤ m; omega) n S hg
      · rw [if_neg c] at hg ⊢
        rw [h] at hg
        injection hg with hg
        injection hg with h3 h4
        omega
theorem openL_keep {l : List ByteArray} : ∀ (m : Nat) (st : TS), l.length - st.en ≤ m → st.last ≠ 0 → (openL l st).first = st.first := by
  intro m
  induction m with
  | zero =>
    intro st hm h0
    cases h : getP (l.drop st.en) with
    | none => rw [openL_none h]
    | some p =>
      have h2 := getP_len (n := p.1) (S := p.2) h
      rw [List.length_drop] at h2
      omega
  | succ m ih =>
    intro st hm h0
    cases h : getP (l.drop st.en) with
    | none => rw [openL_none h]
    | some p =>
      obtain ⟨a, X⟩ := p
      have h2 := getP_len h
      rw [List.length_drop] at h2
      have h3 := (getP_some h).1
      rw [openL_some h]
      by_cases c : st.last < a
      · rw [if_pos c, ih _ (by show l.length - (st.en + nP (txt X)) ≤ m; omega) (by show a ≠ 0; exact h3)]
        show (if st.last = 0 then a else st.first) = st.first
        rw [if_neg h0]
      · rw [if_neg c]
/-- Of sheaves that were added and perhaps not kept, a row has the first ones. -/
theorem openL_crash {sure l : List (List UInt8)} {n top : Nat} (hn : n ≤ sure.length) (hl : l.length = sure.length) (hold : ∀ i, i < n → ∀ m, m ≠ 0 → Valid (sat sure i) m → m ≤ top) :
    ∀ (adds : List (Nat × List UInt8)) (st : TS), Up (max top st.last) adds → st.en ≤ n → (∀ m S, getP (((sure.take n).map B).drop st.en) = some (m, S) → m ≤ st.last) →
    (∀ a ∈ adds, a.2.length ≤ 98304 ∧ a.1 < 18446744073709551616) →
    (∀ i, st.en ≤ i → i < n → ∀ m, m ≠ 0 → Valid (sat l i) m → (Valid (sat sure i) m ∧ mid (sat l i) = mid (sat sure i)) ∨ ∃ x, (lvs adds)[i - st.en]? = some x ∧ x.1 = m ∧ mid (sat l i) = full x.2) →
    ∃ k, k ≤ adds.length ∧ (openL ((l.take n).map B) st).texts = st.texts ++ (adds.take k).map (fun a => B a.2) := by
  intro adds
  induction adds with
  | nil =>
    intro st hup hen hstop hsz hsrc
    refine ⟨0, Nat.le_refl _, ?_⟩
    rw [List.take_zero, List.map_nil, List.append_nil]
    cases h : getP (((l.take n).map B).drop st.en) with
    | none => rw [openL_none h]
    | some p =>
      obtain ⟨m, S⟩ := p
      rw [openL_some h]
      obtain ⟨h0, hm, hS, hp, -⟩ := getP_some h
      obtain ⟨hb, hj⟩ := (pre_sec (by omega) hen).1 hp
      have hq : ∀ j, j < nP (txt S) → sat sure (st.en + j) = leafOf m (pc (txt S) j) := fun j hjj => by
        have hv := valid_leaf m (pc (txt S) j) hm (pc_length _ _)
        rw [← hj j hjj] at hv
        rcases hsrc (st.en + j) (by omega) (by omega) m h0 hv.1 with ⟨q1, q2⟩ | ⟨x, hx, -⟩
        · exact valid_eq q1 (q2.symm.trans hv.2) (pc_length _ _)
        · exact absurd hx (by simp [lvs])
      have hle := hstop m S (getP_back h0 hm hS ((pre_sec hn hen).2 ⟨hb, hq⟩))
      rw [if_neg (by omega)]
  | cons a t ih =>
    intro st hup hen hstop hsz hsrc
    cases h : getP (((l.take n).map B).drop st.en) with
    | none => exact ⟨0, Nat.zero_le _, by rw [openL_none h]; simp⟩
    | some p =>
      obtain ⟨m, S⟩ := p
      rw [openL_some h]
      by_cases c : st.last < m
      case neg => exact ⟨0, Nat.zero_le _, by rw [if_neg c]; simp⟩
      rw [if_pos c]
      obtain ⟨h0, hm, hS, hp, -⟩ := getP_some h
      obtain ⟨hb, hj⟩ := (pre_sec (by omega) hen).1 hp
      have hP := nP_pos S
      have hval : ∀ j, j < nP (txt S) → Valid (sat l (st.en + j)) m ∧ mid (sat l (st.en + j)) = full (pc (txt S) j) := fun j hjj => by
        rw [hj j hjj]
        exact valid_leaf m (pc (txt S) j) hm (pc_length _ _)
      have hsr : ∀ j, j < nP (txt S) → (Valid (sat sure (st.en + j)) m ∧ mid (sat l (st.en + j)) = mid (sat sure (st.en + j))) ∨ ∃ x, (lvs (a :: t))[j]? = some x ∧ x.1 = m ∧ mid (sat l (st.en + j)) = full x.2 := fun j hjj => by
        have := hsrc (st.en + j) (by omega) (by omega) m h0 (hval j hjj).1
        rw [Nat.add_sub_cancel_left] at this
        exact this
      have hmem : ∀ b ∈ a :: t, top < b.1 := fun b hbm => Nat.lt_of_le_of_lt (Nat.le_max_left _ _) (Up.mem hup b hbm)
      rcases hsr 0 hP with ⟨q1, -⟩ | ⟨x, hx, hxm, hxf⟩
      · exfalso
        have hmt := hold st.en (by omega) m h0 (by simpa using q1)
        have hq : ∀ j, j < nP (txt S) → sat sure (st.en + j) = leafOf m (pc (txt S) j) := fun j hjj => by
          rcases hsr j hjj with ⟨q1, q2⟩ | ⟨x, hx, hxm, -⟩
          · exact valid_eq q1 (q2.symm.trans (hval j hjj).2) (pc_length _ _)
          · obtain ⟨b, hbm, hbe, -⟩ := lvs_mem (List.mem_of_getElem? hx)
            have := hmem b hbm
            omega
        have := hstop m S (getP_back h0 hm hS ((pre_sec hn hen).2 ⟨hb, hq⟩))
        omega
      · have hPa := nP_pos a.2
        rw [lvs_lo a t 0 hPa] at hx
        have hx' := Option.some.inj hx
        have hma : m = a.1 := by rw [← hxm, ← hx']
        have hat : top < a.1 := hmem a (by simp)
        have hSa : S = a.2 := by
          refine text_same hS (hsz a (by simp)).1 fun j hjj => ?_
          rcases hsr j hjj with ⟨q1, -⟩ | ⟨y, hy, hym, hyf⟩
          · have := hold (st.en + j) (by omega) m h0 q1
            omega
          · by_cases hja : j < nP (txt a.2)
            · rw [lvs_lo a t j hja] at hy
              rw [← (hval j hjj).2, hyf, ← Option.some.inj hy]
            · rw [lvs_hi a t j (by omega)] at hy
              obtain ⟨b, hbm, hbe, -⟩ := lvs_mem (List.mem_of_getElem? hy)
              have := Up.mem hup.2 b hbm
              omega
        subst hSa
        rw [hma]
        obtain ⟨k, hk, hT⟩ := ih (st.add a.1 a.2) (by
            show Up (max top a.1) t
            rw [Nat.max_eq_right (by omega)]
            exact hup.2) (by show st.en + nP (txt a.2) ≤ n; omega) (fun m' S' hg => by
            show m' ≤ a.1
            obtain ⟨g0, gm, gS, gp, -⟩ := getP_some hg
            have hen2 : st.en + nP (txt a.2) ≤ n := by omega
            obtain ⟨gb, gj⟩ := (pre_sec (e := st.en + nP (txt a.2)) hn hen2).1 gp
            have h1 := gj 0 (nP_pos S')
            have h2 := valid_leaf m' (pc (txt S') 0) gm (pc_length _ _)
            rw [← h1] at h2
            have h3 := nP_pos S'
            have := hold (st.en + nP (txt a.2) + 0) (by omega) m' g0 h2.1
            omega) (fun b hbm => hsz b (by simp [hbm])) (fun i hi1 hi2 m' g0 hv => by
            have hi1' : st.en + nP (txt a.2) ≤ i := hi1
            have h1 := hsrc i (by omega) hi2 m' g0 hv
            rw [lvs_hi a t (i - st.en) (by omega)] at h1
            show _ ∨ ∃ x, (lvs t)[i - (st.en + nP (txt a.2))]? = some x ∧ _
            rw [show i - (st.en + nP (txt a.2)) = i - st.en - nP (txt a.2) by omega]
            exact h1)
        refine ⟨k + 1, Nat.succ_le_succ hk, ?_⟩
        rw [hT, List.take_succ_cons, List.map_cons]
        show st.texts ++ [B a.2] ++ _ = _
        rw [List.append_assoc]; rfl
/-- Of a row that was begun anew, and perhaps not kept: just that sheaf, or an elder first stamp. -/
theorem openL_begin {l : List (List UInt8)} {n b : Nat} {S : List UInt8} (hn : n ≤ l.length) (h0 : b ≠ 0) (hS : S.length ≤ 98304)
    (hsrc : ∀ i, i < n → ∀ m, m ≠ 0 → Valid (sat l i) m → m < b ∨ (m = b ∧ mid (sat l i) = full (pc (txt S) i))) :
    (rowT ((l.take n).map B)).first ≤ b ∧ ((rowT ((l.take n).map B)).first = b → (rowT ((l.take n).map B)).texts = [B S]) := by
  have hval : ∀ (e m : Nat) (S' : List UInt8), e ≤ n → getP (((l.take n).map B).drop e) = some (m, S') → m ≠ 0 ∧ m ≤ b ∧ (m = b → ∀ j, j < nP (txt S') → full (pc (txt S') j) = full (pc (txt S) (e + j))) ∧ S'.length ≤ 98304 := by
    intro e m S' he hg
    obtain ⟨g0, gm, gS, gp, -⟩ := getP_some hg
    obtain ⟨gb, gj⟩ := (pre_sec hn he).1 gp
    have hP := nP_pos S'
    have hs : ∀ j, j < nP (txt S') → m < b ∨ (m = b ∧ full (pc (txt S') j) = full (pc (txt S) (e + j))) := fun j hj => by
      have hv := valid_leaf m (pc (txt S') j) gm (pc_length _ _)
      rw [← gj j hj] at hv
      rcases hsrc (e + j) (by omega) m g0 hv.1 with h | ⟨h1, h2⟩
      · exact .inl h
      · exact .inr ⟨h1, hv.2.symm.trans h2⟩
    refine ⟨g0, ?_, fun hmb j hj => ?_, gS⟩
    · rcases hs 0 hP with h | h <;> omega
    · rcases hs j hj with h | h
      · omega
      · exact h.2
  unfold rowT
  cases h : getP (((l.take n).map B).drop st0.en) with
  | none =>
    rw [openL_none h]
    exact ⟨Nat.zero_le _, fun e => absurd e.symm h0⟩
  | some p =>
    obtain ⟨m, S'⟩ := p
    obtain ⟨g0, g1, g2, g3⟩ := hval 0 m S' (Nat.zero_le _) h
    have hlast : st0.last < m := by show 0 < m; omega
    rw [openL_some h, if_pos hlast]
    have hf := openL_keep (l := (l.take n).map B) _ (st0.add m S') (Nat.le_refl _) (by show m ≠ 0; exact g0)
    have hf2 : (st0.add m S').first = m := rfl
    rw [hf, hf2]
    refine ⟨g1, fun hmb => ?_⟩
    have hSS : S' = S := text_same g3 hS fun j hj => by
      have := g2 hmb j hj
      rw [Nat.zero_add] at this
      exact this
    subst hSS
    have hen : (st0.add m S').en ≤ n := by
      obtain ⟨-, -, -, gp, -⟩ := getP_some h
      obtain ⟨gb, -⟩ := (pre_sec (e := 0) hn (Nat.zero_le _)).1 gp
      show 0 + nP (txt S') ≤ n
      exact gb
    cases h2 : getP (((l.take n).map B).drop (st0.add m S').en) with
    | none => rw [openL_none h2]; rfl
    | some p =>
      obtain ⟨m2, S2⟩ := p
      obtain ⟨-, k1, -, -⟩ := hval _ m2 S2 hen h2
      rw [openL_some h2, if_neg (by show ¬ m < m2; omega)]
      rfl
end Go.Proofs.Ytnhgakmnkpjpdaa.Pure

/- Chapter 05, plain: a row on a drive that may fail. -/
set_option linter.unusedVariables false
set_option linter.unusedSimpArgs false
namespace Go.Proofs.Ytnhgakmnkpjpdaa.Pure
open Go Go.RowKit Go.Proofs.Ytnhgakmnkpjpdaa.Q Go.Proofs.Ytnhgakmnkpjpdaa Go.Proofs.YtnhgakmnkpjpdaaW.PrintWords Go.Proofs.YtnhgakmnkpjpdaaW.PrintLast Go.Proofs.YtnhgakmnkpjpdaaW.PrintMore
def lf (x : Nat × List UInt8) : List UInt8 := leafOf x.1 x.2
theorem sheaf_lvs (st : Nat) (S : List UInt8) : sheafL st S = (lvs [(st, S)]).map fun x => B (lf x) := by
  unfold sheafL lvs
  rw [List.flatMap_cons, List.flatMap_nil, List.append_nil, List.map_map]; rfl
theorem lvs_one_len (st : Nat) (S : List UInt8) : (lvs [(st, S)]).length = nP (txt S) := by
  unfold lvs
  rw [List.flatMap_cons, List.flatMap_nil, List.append_nil, List.length_map, List.length_range]
theorem lvs_48 {adds : List (Nat × List UInt8)} {x : Nat × List UInt8} (h : x ∈ lvs adds) : x.2.length ≤ 48 := by
  obtain ⟨a, -, -, j, hj⟩ := lvs_mem h
  rw [hj]; exact pc_length _ _
/-- What is written of some leaves, whatever the fuse. -/
theorem wl_any (X : List (Nat × List UInt8)) : ∀ (s : DS) (n : Nat), (∀ x ∈ X, x.2.length ≤ 48) → n + X.length ≤ s.now.length →
    ∃ M, M ≤ X.length ∧ (wl s n (X.map fun x => B (lf x))).1.now = splice s.now n ((X.take M).map lf) ∧ (wl s n (X.map fun x => B (lf x))).1.opn = s.opn ++ posL n (X.take M) ∧ (wl s n (X.map fun x => B (lf x))).1.sure = s.sure ∧
      (((wl s n (X.map fun x => B (lf x))).2 = 0 ∧ M = X.length) ∨ (wl s n (X.map fun x => B (lf x))).2 = 30) := by
  induction X with
  | nil => intro s n _ _; exact ⟨0, Nat.le_refl _, (splice_nil _ _).symm, (List.append_nil _).symm, rfl, .inl ⟨rfl, rfl⟩⟩
  | cons x t ih =>
    intro s n hX hn
    rw [List.length_cons] at hn
    have hL : (lf x).length = 64 := leafOf_length _ _ (hX x (by simp))
    have hw := writeR_leaf s n (lf x) hL (by omega)
    rw [List.map_cons, wl, hw]
    by_cases c : s.fuse = some 0
    · rw [if_pos c, if_neg (show ¬ (30 : Int) = 0 by decide)]
      exact ⟨0, Nat.zero_le _, (splice_nil _ _).symm, (List.append_nil _).symm, rfl, .inr rfl⟩
    · rw [if_neg c, if_pos rfl]
      obtain ⟨M, h1, h2, h3, h4, h5⟩ := ih { s with fuse := decF s.fuse, now := s.now.set n (lf x), opn := s.opn ++ [(n, lf x)] } (n + 1) (fun y hy => hX y (by simp [hy])) (by show _ ≤ (s.now.set n (lf x)).length; rw [List.length_set]; omega)
      refine ⟨M + 1, Nat.succ_le_succ h1, ?_, ?_, h4, h5.imp (fun q => ⟨q.1, by rw [q.2, List.length_cons]⟩) id⟩
      · rw [h2, List.take_succ_cons, List.map_cons, splice_cons _ _ _ _ (by omega)]
      · rw [h3, List.take_succ_cons, posL]
        show s.opn ++ [(n, lf x)] ++ _ = _
        rw [List.append_assoc]; rfl
/-- What a put does, whatever the fuse. -/
theorem putR_any {s : DS} {r : RS} (h : Fit s r) (a st : Nat) (S : ByteArray) (hS : S.size ≤ 98304) (ha : a ≤ r.mn) :
    ((putR s r a st S).e ≠ 0 ∧ (putR s r a st S).e ≠ 30 ∧ (putR s r a st S).s = s ∧ (putR s r a st S).r = r) ∨
    (r.top < st ∧ a + nP (txt S.data.toList) ≤ r.mn ∧ ∃ M, M ≤ nP (txt S.data.toList) ∧ (putR s r a st S).s.now = splice s.now (r.fr + a) (((lvs [(st, S.data.toList)]).take M).map lf) ∧ (putR s r a st S).s.opn = s.opn ++ posL (r.fr + a) ((lvs [(st, S.data.toList)]).take M) ∧ (putR s r a st S).s.sure = s.sure ∧
      (((putR s r a st S).e = 0 ∧ M = nP (txt S.data.toList) ∧ (putR s r a st S).r = { r with top := st } ∧ (putR s r a st S).n = nP (txt S.data.toList)) ∨ ((putR s r a st S).e = 30 ∧ (putR s r a st S).r = { r with down := true }))) := by
  unfold putR
  rw [if_neg (by rw [h.down]; decide)]
  by_cases c1 : st ≤ r.top
  · rw [if_pos c1]
    exact .inl ⟨by show (2 : Int) ≠ 0; decide, by show (2 : Int) ≠ 30; decide, rfl, rfl⟩
  rw [if_neg c1, if_neg (by omega)]
  by_cases c2 : r.mn - a < nP (txt S.data.toList)
  · rw [if_pos c2]
    exact .inl ⟨by show (6 : Int) ≠ 0; decide, by show (6 : Int) ≠ 30; decide, rfl, rfl⟩
  rw [if_neg c2]
  have hlay := h.lay
  obtain ⟨M, h1, h2, h3, h4, h5⟩ := wl_any (lvs [(st, S.data.toList)]) s (r.fr + a) (fun x hx => lvs_48 hx) (by rw [lvs_one_len]; omega)
  rw [← sheaf_lvs] at h2 h3 h4 h5
  rw [lvs_one_len] at h1 h5
  refine .inr ⟨by omega, by omega, M, h1, ?_⟩
  rcases h5 with ⟨e, hM⟩ | e
  · rw [if_pos e]
    exact ⟨h2, h3, h4, .inl ⟨rfl, hM, rfl, rfl⟩⟩
  · rw [if_neg (by rw [e]; decide)]
    refine ⟨h2, h3, h4, .inr ⟨e, ?_⟩⟩
    show { r with down := (wl s (r.fr + a) (sheafL st S.data.toList)).2 == 30 } = _
    rw [e]; rfl
/-- Where all was written, an added row is what its sectors tell. -/
theorem Fit.added {s s' : DS} {r : RS} (h : Fit s r) (st : Nat) (S : ByteArray) (hS : S.size ≤ 98304) (hst : st < 18446744073709551616) (ht : r.top < st) (hroom : r.en + nP (txt S.data.toList) ≤ r.mn)
    (hnow : s'.now = splice s.now (r.fr + r.en) ((lvs [(st, S.data.toList)]).map lf)) :
    Fit s' { r with top := st, first := if r.en = 0 then st else r.first, texts := r.texts ++ [S], en := r.en + nP (txt S.data.toList) } := by
  have hl := rowSec_len s r.fr r.mn
  have hlen : ((lvs [(st, S.data.toList)]).map lf).length = nP (txt S.data.toList) := by rw [List.length_map, lvs_one_len]
  have hlay := h.lay
  have hsec := rowSec_splice s s' r.fr r.mn r.en _ hnow (by rw [hlen]; exact hroom) h.lay
  rw [List.map_map] at hsec
  have e : (B ∘ lf) = fun x => B (lf x) := rfl
  rw [e, ← sheaf_lvs] at hsec
  have hT := rowT_add (l := rowSec s r.fr r.mn) (n := st) (S := S.data.toList) hst (by rw [Array.length_toList]; show S.size ≤ _; omega) (by rw [← h.top]; exact ht) (by rw [← h.en, hl]; exact hroom)
  rw [← h.en, ← hsec] at hT
  refine ⟨by show r.fr + r.mn ≤ s'.now.length; rw [hnow, splice_len (by rw [hlen]; omega)]; exact h.lay, ?_, ?_, ?_, ?_, h.down⟩
  · show r.texts ++ [S] = (rowT (rowSec s' r.fr r.mn)).texts
    rw [hT, h.texts]
    show _ = (rowT (rowSec s r.fr r.mn)).texts ++ [B S.data.toList]
    rw [B_self']
  · show (if r.en = 0 then st else r.first) = (rowT (rowSec s' r.fr r.mn)).first
    rw [hT]
    show _ = if (rowT (rowSec s r.fr r.mn)).last = 0 then st else (rowT (rowSec s r.fr r.mn)).first
    rw [h.first]
    have hz := rowT_zero (rowSec s r.fr r.mn)
    rw [← h.en] at hz
    by_cases h0 : r.en = 0
    · rw [if_pos h0, if_pos (hz.1 h0)]
    · rw [if_neg h0, if_neg (fun e => h0 (hz.2 e))]
  · show r.en + nP (txt S.data.toList) = (rowT (rowSec s' r.fr r.mn)).en
    rw [hT, h.en]; rfl
  · show st = topL (rowSec s' r.fr r.mn) 0
    rw [hsec, top_splice hst (by rw [← h.top]; exact ht) (by rw [hl]; exact hroom)]
theorem Fit.begun {s s' : DS} {r : RS} (h : Fit s r) (st : Nat) (S : ByteArray) (hS : S.size ≤ 98304) (hst : st < 18446744073709551616) (ht : r.top < st) (hroom : 0 + nP (txt S.data.toList) ≤ r.mn)
    (hnow : s'.now = splice s.now (r.fr + 0) ((lvs [(st, S.data.toList)]).map lf)) :
    Fit s' { r with top := st, first := st, texts := [S], en := nP (txt S.data.toList) } := by
  have hl := rowSec_len s r.fr r.mn
  have hlen : ((lvs [(st, S.data.toList)]).map lf).length = nP (txt S.data.toList) := by rw [List.length_map, lvs_one_len]
  have hlay := h.lay
  have hsec := rowSec_splice s s' r.fr r.mn 0 _ hnow (by rw [hlen]; exact hroom) h.lay
  rw [List.map_map] at hsec
  have e : (B ∘ lf) = fun x => B (lf x) := rfl
  rw [e, ← sheaf_lvs] at hsec
  have hT := rowT_begin (l := rowSec s r.fr r.mn) (n := st) (S := S.data.toList) hst (by rw [Array.length_toList]; show S.size ≤ _; omega) (by rw [← h.top]; exact ht) (by rw [hl]; omega)
  rw [← hsec] at hT
  refine ⟨by show r.fr + r.mn ≤ s'.now.length; rw [hnow, splice_len (by rw [hlen]; omega)]; exact h.lay, ?_, ?_, ?_, ?_, h.down⟩
  · show [S] = (rowT (rowSec s' r.fr r.mn)).texts
    rw [hT]
    show _ = [B S.data.toList]
    rw [B_self']
  · show st = (rowT (rowSec s' r.fr r.mn)).first
    rw [hT]
  · show nP (txt S.data.toList) = (rowT (rowSec s' r.fr r.mn)).en
    rw [hT]
  · show st = topL (rowSec s' r.fr r.mn) 0
    rw [hsec, top_splice hst (by rw [← h.top]; exact ht) (by rw [hl]; omega)]
end Go.Proofs.Ytnhgakmnkpjpdaa.Pure

/- Chapter 06, plain: a log on a drive that may fail: with a fuse a call does what it does without one, or it fails. -/
set_option linter.unusedVariables false
set_option linter.unusedSimpArgs false
namespace Go.Proofs.Ytnhgakmnkpjpdaa.Pure
open Go Go.RowKit Go.Proofs.Ytnhgakmnkpjpdaa.Q Go.Proofs.Ytnhgakmnkpjpdaa Go.Proofs.YtnhgakmnkpjpdaaW.PrintWords Go.Proofs.YtnhgakmnkpjpdaaW.PrintLast Go.Proofs.YtnhgakmnkpjpdaaW.PrintMore
def noF (s : DS) : DS := { s with fuse := none }
theorem noF_self {s : DS} (h : s.fuse = none) : noF s = s := by
  cases s
  simp only at h
  subst h
  rfl
theorem writeR_noF (s : DS) (n : Int) (t : ByteArray) (h : (writeR s n t).2 ≠ 30) : writeR (noF s) n t = (noF (writeR s n t).1, (writeR s n t).2) := by
  unfold writeR wrR at h ⊢
  by_cases c1 : hasE s.now.length n = 0
  · have c1' : hasE (noF s).now.length n = 0 := c1
    rw [if_pos c1] at h
    rw [if_pos c1, if_pos c1']
    by_cases c2 : t.size ≤ 64
    · rw [if_pos c2] at h
      rw [if_pos c2, if_pos c2]
      by_cases c3 : s.fuse = some 0
      · rw [if_pos c3] at h
        exact absurd rfl h
      · have c3' : ¬ (noF s).fuse = some 0 := by unfold noF; simp
        rw [if_neg c3, if_neg c3']
        rfl
    · rw [if_neg c2, if_neg c2]
  · have c1' : ¬ hasE (noF s).now.length n = 0 := c1
    rw [if_neg c1, if_neg c1']
theorem wl_noF (l : List ByteArray) : ∀ (s : DS) (n : Nat), (wl s n l).2 ≠ 30 → wl (noF s) n l = (noF (wl s n l).1, (wl s n l).2) := by
  induction l with
  | nil => intro s n h; rfl
  | cons b l ih =>
    intro s n h
    have h' : (if (writeR s n b).2 = 0 then wl (writeR s n b).1 (n + 1) l else writeR s n b).2 ≠ 30 := h
    have hw : (writeR s n b).2 ≠ 30 := by
      by_cases c : (writeR s n b).2 = 0
      · rw [c]; decide
      · rw [if_neg c] at h'; exact h'
    have e := writeR_noF s n b hw
    show (if (writeR (noF s) n b).2 = 0 then wl (writeR (noF s) n b).1 (n + 1) l else writeR (noF s) n b) = (noF (if (writeR s n b).2 = 0 then wl (writeR s n b).1 (n + 1) l else writeR s n b).1, (if (writeR s n b).2 = 0 then wl (writeR s n b).1 (n + 1) l else writeR s n b).2)
    rw [e]
    by_cases c : (writeR s n b).2 = 0
    · rw [if_pos c] at h'
      rw [if_pos c, if_pos c]
      exact ih _ _ h'
    · rw [if_neg c, if_neg c]
theorem putR_noF (s : DS) (r : RS) (a st : Nat) (S : ByteArray) (h : (putR s r a st S).e ≠ 30) : putR (noF s) r a st S = ⟨noF (putR s r a st S).s, (putR s r a st S).r, (putR s r a st S).n, (putR s r a st S).e⟩ := by
  unfold putR at h ⊢
  by_cases c0 : r.down = true
  · rw [if_pos c0] at h; exact absurd rfl h
  rw [if_neg c0] at h
  rw [if_neg c0, if_neg c0]
  by_cases c1 : st ≤ r.top
  · rw [if_pos c1, if_pos c1]
  rw [if_neg c1] at h
  rw [if_neg c1, if_neg c1]
  by_cases c2 : 98304 < S.size
  · rw [if_pos c2, if_pos c2]
  rw [if_neg c2] at h
  rw [if_neg c2, if_neg c2]
  by_cases c3 : r.mn - a < nP (txt S.data.toList)
  · rw [if_pos c3, if_pos c3]
  rw [if_neg c3] at h
  rw [if_neg c3, if_neg c3]
  have hw : (wl s (r.fr + a) (sheafL st S.data.toList)).2 ≠ 30 := by
    by_cases c4 : (wl s (r.fr + a) (sheafL st S.data.toList)).2 = 0
    · rw [c4]; decide
    · rw [if_neg c4] at h; exact h
  rw [wl_noF _ _ _ hw]
  by_cases c4 : (wl s (r.fr + a) (sheafL st S.data.toList)).2 = 0
  · rw [if_pos c4, if_pos (show (noF (wl s (r.fr + a) (sheafL st S.data.toList)).1, (wl s (r.fr + a) (sheafL st S.data.toList)).2).2 = 0 from c4)]
  · rw [if_neg c4, if_neg (show ¬ (noF (wl s (r.fr + a) (sheafL st S.data.toList)).1, (wl s (r.fr + a) (sheafL st S.data.toList)).2).2 = 0 from c4)]
/-- An act of a row does with a fuse what it does without one, unless it fails. -/
def ActFree (act : DS → RS → Nat → ByteArray → ActR) : Prop := ∀ (s : DS) (r : RS) (st : Nat) (S : ByteArray), (act s r st S).e ≠ 30 → act (noF s) r st S = ⟨noF (act s r st S).s, (act s r st S).r, (act s r st S).e⟩
theorem add_free : ActFree addR := by
  intro s r st S h
  unfold addR at h ⊢
  have hp : (putR s r r.en st S).e ≠ 30 := by
    by_cases c : (putR s r r.en st S).e = 0
    · rw [c]; decide
    · rw [if_neg c] at h; exact h
  rw [putR_noF _ _ _ _ _ hp]
  by_cases c : (putR s r r.en st S).e = 0
  · rw [if_pos c, if_pos c]
  · rw [if_neg c, if_neg c]
theorem begin_free : ActFree beginR := by
  intro s r st S h
  unfold beginR at h ⊢
  have hp : (putR s r 0 st S).e ≠ 30 := by
    by_cases c : (putR s r 0 st S).e = 0
    · rw [c]; decide
    · rw [if_neg c] at h; exact h
  rw [putR_noF _ _ _ _ _ hp]
  by_cases c : (putR s r 0 st S).e = 0
  · rw [if_pos c, if_pos c]
  · rw [if_neg c, if_neg c]
theorem syncR_ne {s : DS} (h : (syncR s).2 ≠ 30) : syncR s = (syncS { s with fuse := decF s.fuse }, 0) := by
  unfold syncR at h ⊢
  by_cases c : s.fuse = some 0
  · rw [if_pos c] at h; exact absurd rfl h
  · rw [if_neg c]
theorem syncR_zero {s : DS} (h : (syncR s).2 = 0) : syncR s = (syncS { s with fuse := decF s.fuse }, 0) := syncR_ne (by rw [h]; decide)
theorem syncR_30 {s : DS} (h : (syncR s).2 ≠ 0) : syncR s = (s, 30) := by
  unfold syncR at h ⊢
  by_cases c : s.fuse = some 0
  · rw [if_pos c]
  · rw [if_neg c] at h; exact absurd rfl h
theorem putW_noF {act : DS → RS → Nat → ByteArray → ActR} (ha : ActFree act) (s : DS) (q : WS) (b : Bool) (S : ByteArray) (h : (putW act s q b S).e ≠ 30) : putW act (noF s) q b S = ⟨noF (putW act s q b S).s, (putW act s q b S).q, (putW act s q b S).e⟩ := by
  unfold putW at h ⊢
  by_cases c0 : 9223372036854775807 ≤ topW q
  · rw [if_pos c0, if_pos c0]
  rw [if_neg c0] at h
  rw [if_neg c0, if_neg c0]
  have hp : (act s (q.h b) (topW q + 1) S).e ≠ 30 := by
    by_cases c : (act s (q.h b) (topW q + 1) S).e = 0
    · rw [c]; decide
    · rw [if_neg c] at h; exact h
  rw [ha _ _ _ _ hp]
  by_cases c : (act s (q.h b) (topW q + 1) S).e = 0
  · rw [if_pos c] at h
    rw [if_pos c, if_pos c]
    have h2 := syncR_ne h
    have h3 : syncR (noF (act s (q.h b) (topW q + 1) S).s) = (syncS (noF (act s (q.h b) (topW q + 1) S).s), 0) := syncR_free _ rfl
    rw [h2, h3]
    rfl
  · rw [if_neg c, if_neg c]
theorem saveW_noF {s : DS} {q : WS} {x : List ByteArray} (hd : q.down = false) (h : (saveW s q x).e ≠ 30) : saveW (noF s) q x = ⟨noF (saveW s q x).s, (saveW s q x).q, (saveW s q x).e⟩ := by
  obtain ⟨b, hb⟩ : ∃ b, (if (q.h q.log).first = 0 then false else !q.log) = b := ⟨_, rfl⟩
  rw [saveW_eq (s := s) hd b hb rfl] at h
  rw [saveW_eq (s := noF s) hd b hb rfl, saveW_eq (s := s) hd b hb rfl]
  have hp : (putW beginR s q b (B (rowL x))).e ≠ 30 := by
    by_cases c : (putW beginR s q b (B (rowL x))).e = 0
    · rw [c]; decide
    · rw [if_neg c] at h; exact h
  rw [putW_noF begin_free _ _ _ _ hp]
  by_cases c : (putW beginR s q b (B (rowL x))).e = 0
  · rw [if_pos c, if_pos c]
  · rw [if_neg c, if_neg c]
theorem commitW_z {s : DS} {q : WS} {x : List ByteArray} (hd : q.down = false) (hz : (q.h q.log).first = 0) : commitW s q x = saveW s q x := by
  unfold commitW
  rw [if_neg (by rw [hd]; decide), if_pos hz]
theorem commitW_noF {s : DS} {q : WS} {x : List ByteArray} (hd : q.down = false) (h : (commitW s q x).e ≠ 30) : commitW (noF s) q x = ⟨noF (commitW s q x).s, (commitW s q x).q, (commitW s q x).e⟩ := by
  by_cases hz : (q.h q.log).first = 0
  · rw [commitW_z (s := s) hd hz] at h
    rw [commitW_z (s := s) hd hz, commitW_z (s := noF s) hd hz]
    exact saveW_noF hd h
  rw [commitW_eq (s := s) hd hz rfl] at h
  rw [commitW_eq (s := noF s) hd hz rfl, commitW_eq (s := s) hd hz rfl]
  have hp : (putW addR s q q.log (B (rowL x))).e ≠ 30 := by
    by_cases c : (putW addR s q q.log (B (rowL x))).e = 0
    · rw [c]; decide
    · rw [if_neg c] at h; exact h
  rw [putW_noF add_free _ _ _ _ hp]
  by_cases c : (putW addR s q q.log (B (rowL x))).e = 0
  · rw [if_pos c, if_pos c]
  · rw [if_neg c, if_neg c]
/-! What is written, whatever the fuse -/
structure ActAny (act : DS → RS → Nat → ByteArray → ActR) (at_ : RS → Nat) : Prop where
  is : ∀ {s : DS} {r : RS}, Fit s r → ∀ (st : Nat) (S : ByteArray), S.size ≤ 98304 →
    ((act s r st S).e ≠ 0 ∧ (act s r st S).e ≠ 30 ∧ (act s r st S).s = s) ∨
    (r.top < st ∧ at_ r + nP (txt S.data.toList) ≤ r.mn ∧ ∃ M, (act s r st S).s.now = splice s.now (r.fr + at_ r) (((lvs [(st, S.data.toList)]).take M).map lf) ∧ (act s r st S).s.opn = s.opn ++ posL (r.fr + at_ r) ((lvs [(st, S.data.toList)]).take M) ∧ (act s r st S).s.sure = s.sure ∧ ((act s r st S).e = 0 ∨ (act s r st S).e = 30))
theorem add_any : ActAny addR (fun r => r.en) := ⟨fun {s r} h st S hS => by
  have hp := putR_any h r.en st S hS h.en_le
  have hs : (addR s r st S).s = (putR s r r.en st S).s ∧ (addR s r st S).e = (putR s r r.en st S).e := by
    unfold addR
    by_cases c : (putR s r r.en st S).e = 0
    · rw [if_pos c]; exact ⟨rfl, c.symm⟩
    · rw [if_neg c]; exact ⟨rfl, rfl⟩
  rw [hs.1, hs.2]
  rcases hp with ⟨h1, h2, h3, -⟩ | ⟨h1, h2, M, -, h3, h4, h5, h6⟩
  · exact .inl ⟨h1, h2, h3⟩
  · exact .inr ⟨h1, h2, M, h3, h4, h5, h6.imp (fun q => q.1) (fun q => q.1)⟩⟩
theorem begin_any : ActAny beginR (fun _ => 0) := ⟨fun {s r} h st S hS => by
  have hp := putR_any h 0 st S hS (Nat.zero_le _)
  have hs : (beginR s r st S).s = (putR s r 0 st S).s ∧ (beginR s r st S).e = (putR s r 0 st S).e := by
    unfold beginR
    by_cases c : (putR s r 0 st S).e = 0
    · rw [if_pos c]; exact ⟨rfl, c.symm⟩
    · rw [if_neg c]; exact ⟨rfl, rfl⟩
  rw [hs.1, hs.2]
  rcases hp with ⟨h1, h2, h3, -⟩ | ⟨h1, h2, M, -, h3, h4, h5, h6⟩
  · exact .inl ⟨h1, h2, h3⟩
  · exact .inr ⟨h1, h2, M, h3, h4, h5, h6.imp (fun q => q.1) (fun q => q.1)⟩⟩
/-- Of a put, with the sync: refused, or done, or failed. -/
inductive PutO (s : DS) (q : WS) (b : Bool) (a : Nat) (S : List UInt8) (P : PW) : Prop
  | no : P.e ≠ 0 → P.e ≠ 30 → P.s = s → PutO s q b a S P
  | ok (M : Nat) : P.e = 0 → topW q < 9223372036854775807 → a + nP (txt S) ≤ (q.h b).mn → P.s.now = splice s.now ((q.h b).fr + a) (((lvs [(topW q + 1, S)]).take M).map lf) → P.s.sure = P.s.now → P.s.opn = [] → PutO s q b a S P
  | ko (M : Nat) : P.e = 30 → topW q < 9223372036854775807 → a + nP (txt S) ≤ (q.h b).mn → P.s.now = splice s.now ((q.h b).fr + a) (((lvs [(topW q + 1, S)]).take M).map lf) → P.s.sure = s.sure → P.s.opn = s.opn ++ posL ((q.h b).fr + a) ((lvs [(topW q + 1, S)]).take M) → P.q.down = true → PutO s q b a S P
theorem putW_any {act : DS → RS → Nat → ByteArray → ActR} {at_ : RS → Nat} (ha : ActAny act at_) {s : DS} {q : WS} {b : Bool} (hf : Fit s (q.h b)) (S : ByteArray) (hS : S.size ≤ 98304) : PutO s q b (at_ (q.h b)) S.data.toList (putW act s q b S) := by
  unfold putW
  by_cases c0 : 9223372036854775807 ≤ topW q
  · rw [if_pos c0]
    exact .no (by show (6 : Int) ≠ 0; decide) (by show (6 : Int) ≠ 30; decide) rfl
  rw [if_neg c0]
  rcases ha.is hf (topW q + 1) S hS with ⟨h1, h2, h3⟩ | ⟨h1, h2, M, h3, h4, h5, h6⟩
  · rw [if_neg h1]
    exact .no h1 h2 h3
  · by_cases c : (act s (q.h b) (topW q + 1) S).e = 0
    · rw [if_pos c]
      by_cases c2 : (syncR (act s (q.h b) (topW q + 1) S).s).2 = 0
      · have e := syncR_zero c2
        rw [e]
        exact .ok M rfl (by omega) h2 h3 rfl rfl
      · have e := syncR_30 c2
        rw [e]
        exact .ko M rfl (by omega) h2 h3 h5 h4 rfl
    · rw [if_neg c]
      have h30 := h6.resolve_left c
      exact .ko M h30 (by omega) h2 h3 h5 h4 (by show ((act s (q.h b) (topW q + 1) S).e == 30) = true; rw [h30]; rfl)
end Go.Proofs.Ytnhgakmnkpjpdaa.Pure

/- Chapter 06, plain: what a failure leaves of a log's half. -/
set_option linter.unusedVariables false
set_option linter.unusedSimpArgs false
namespace Go.Proofs.Ytnhgakmnkpjpdaa.Pure
open Go Go.RowKit Go.Proofs.Ytnhgakmnkpjpdaa.Q Go.Proofs.Ytnhgakmnkpjpdaa Go.Proofs.YtnhgakmnkpjpdaaW.PrintWords Go.Proofs.YtnhgakmnkpjpdaaW.PrintLast Go.Proofs.YtnhgakmnkpjpdaaW.PrintMore
/-- So many sectors, from one on. -/
def win (l : List (List UInt8)) (fr n : Nat) : List (List UInt8) := (l.drop fr).take n
theorem win_len {l : List (List UInt8)} {fr n : Nat} (h : fr + n ≤ l.length) : (win l fr n).length = n := by unfold win; rw [List.length_take, List.length_drop]; omega
theorem win_sat (l : List (List UInt8)) (fr n i : Nat) (hi : i < n) : sat (win l fr n) i = sat l (fr + i) := by
  unfold sat win
  rw [List.getD_eq_getElem?_getD, List.getD_eq_getElem?_getD, List.getElem?_take, if_pos hi, List.getElem?_drop]
theorem win_take {l : List (List UInt8)} {fr n : Nat} (h : fr + n ≤ l.length) : (win l fr n).take n = win l fr n := List.take_of_length_le (by rw [win_len h]; exact Nat.le_refl _)
theorem win_same {l l' : List (List UInt8)} {fr n : Nat} (hl : l'.length = l.length) (hs : ∀ i, i < n → sat l' (fr + i) = sat l (fr + i)) (h : fr + n ≤ l.length) : win l' fr n = win l fr n := by
  refine List.ext_getElem (by rw [win_len h, win_len (by omega)]) fun j h1 h2 => ?_
  rw [win_len (by omega)] at h1
  have := hs j h1
  rw [← win_sat l' fr n j h1, ← win_sat l fr n j h1] at this
  unfold sat at this
  rw [List.getD_eq_getElem?_getD, List.getD_eq_getElem?_getD, List.getElem?_eq_getElem (by rw [win_len (by omega)]; exact h1), List.getElem?_eq_getElem (by rw [win_len h]; exact h1)] at this
  exact this
theorem rowSec_win (s : DS) (fr n : Nat) (h : fr + n ≤ s.now.length) : rowSec s fr n = (win s.now fr n).map B := rowSec_eq s fr n h
/-- A sheaf has been written to a half, perhaps not all of it. -/
structure Half1 (now : List (List UInt8)) (fr n a st : Nat) (S : List UInt8) (M : Nat) : Prop where
  lay : fr + n ≤ now.length
  sound : ∀ i, i < now.length → Sound (sat now i)
  head : topL ((win now fr n).map B) 0 < st
  lt : st < 18446744073709551616
  room : a + nP (txt S) ≤ n
  sz : S.length ≤ 98304
def opn1 (fr a st : Nat) (S : List UInt8) (M : Nat) : List (Nat × List UInt8) := posL (fr + a) ((lvs [(st, S)]).take M)
section
variable {now : List (List UInt8)} {fr n a st : Nat} {S : List UInt8} {M : Nat}
theorem Half1.heads (h : Half1 now fr n a st S M) (i : Nat) (hi : i < n) : headNum (sat now (fr + i)) ≤ topL ((win now fr n).map B) 0 := by
  have hlen := win_len h.lay
  have h1 : B (sat (win now fr n) i) ∈ (win now fr n).map B := by
    have := List.mem_of_getElem? (sec_get (win now fr n) n i (by omega) hi)
    rwa [win_take h.lay] at this
  have h2 := topL_mem ((win now fr n).map B) 0 _ h1
  have h3 : hd (B (sat (win now fr n) i)) = headNum (sat (win now fr n) i) := by
    have hl := h.lay
    unfold hd
    rw [if_pos (by rw [B_size, win_sat _ _ _ _ hi]; exact (h.sound _ (by omega)).len), B_data]
  rw [h3, win_sat _ _ _ _ hi] at h2
  exact h2
theorem opn1_get (k : Nat) (x : Nat × List UInt8) (hx : (opn1 fr a st S M)[k]? = some x) : k < nP (txt S) ∧ x = (fr + a + k, leafOf st (pc (txt S) k)) := by
  unfold opn1 at hx
  rw [posL_get] at hx
  obtain ⟨u, hu, rfl⟩ := Option.map_eq_some_iff.1 hx
  rw [List.getElem?_take] at hu
  split at hu
  · have hl : k < (lvs [(st, S)]).length := (List.getElem?_eq_some_iff.1 hu).1
    rw [lvs_one_len] at hl
    rw [lvs_lo (st, S) [] _ hl] at hu
    rw [← Option.some.inj hu]
    exact ⟨hl, rfl⟩
  · cases hu
theorem Half1.wrs (h : Half1 now fr n a st S M) : Wrs now (opn1 fr a st S M) := by
  refine ⟨h.sound, fun k x hx => ?_⟩
  obtain ⟨hk, rfl⟩ := opn1_get k x hx
  have h1 := h.lay
  have h2 := h.room
  refine ⟨by show fr + a + k < now.length; omega, st, _, rfl, pc_length _ _, h.lt, ?_, fun k' y hk' hy he => ?_⟩
  · have := h.heads (a + k) (by omega)
    rw [← Nat.add_assoc] at this
    have := h.head
    show headNum (sat now (fr + a + k)) < st
    omega
  · obtain ⟨-, rfl⟩ := opn1_get k' y hy
    have he' : fr + a + k' = fr + a + k := he
    omega
/-- Behind the failure. -/
structure Left (now : List (List UInt8)) (fr n a st : Nat) (S : List UInt8) (l : List (List UInt8)) : Prop where
  len : l.length = now.length
  sound : ∀ i, i < l.length → Sound (sat l i)
  out : ∀ i, i < now.length → (i < fr + a ∨ fr + n ≤ i) → sat l i = sat now i
  src : ∀ i, i < n → ∀ m, m ≠ 0 → Valid (sat l (fr + i)) m → (Valid (sat now (fr + i)) m ∧ mid (sat l (fr + i)) = mid (sat now (fr + i))) ∨ (a ≤ i ∧ i - a < nP (txt S) ∧ m = st ∧ mid (sat l (fr + i)) = full (pc (txt S) (i - a)))
theorem Half1.left (h : Half1 now fr n a st S M) (keep torn at_ : Int) : Left now fr n a st S (sureAt keep torn at_ now (opn1 fr a st S M) (opn1 fr a st S M).length) := by
  have H := h.wrs
  have hr := h.room
  have hlay := h.lay
  have hlen := sureAt_len keep torn at_ now (opn1 fr a st S M) (opn1 fr a st S M).length
  refine ⟨hlen, fun i hi => (crash_src H keep torn at_ i (by omega)).1, fun i hi ho => (crash_src H keep torn at_ i hi).2.2 fun x hx => ?_, fun i hi m h0 hv => ?_⟩
  · obtain ⟨k, hk⟩ := List.getElem?_of_mem hx
    obtain ⟨hkl, rfl⟩ := opn1_get k x hk
    show fr + a + k ≠ i
    omega
  · rcases (crash_src H keep torn at_ (fr + i) (by omega)).2.1 m h0 hv with q | ⟨k, x, -, hx, hxi, hxv, hxm⟩
    · exact .inl q
    · obtain ⟨hkl, rfl⟩ := opn1_get k x hx
      have hxi' : fr + a + k = fr + i := hxi
      have hvl := valid_leaf st (pc (txt S) k) h.lt (pc_length _ _)
      have hk : i - a = k := by omega
      refine .inr ⟨by omega, by omega, ?_, ?_⟩
      · have h4 : headNum (leafOf st (pc (txt S) k)) = m := hxv.2.1
        rw [← h4]; exact hvl.1.2.1
      · rw [hk]; exact hxm.trans hvl.2
/-- A sheaf was to be added. -/
theorem Half1.add {l : List (List UInt8)} (h : Half1 now fr n a st S M) (hL : Left now fr n a st S l) (ha : a = (rowT ((win now fr n).map B)).en) (h0 : (rowT ((win now fr n).map B)).last ≠ 0) :
    (rowT ((win l fr n).map B)).first = (rowT ((win now fr n).map B)).first ∧ ((rowT ((win l fr n).map B)).texts = (rowT ((win now fr n).map B)).texts ∨ (rowT ((win l fr n).map B)).texts = (rowT ((win now fr n).map B)).texts ++ [B S]) := by
  have hlay := h.lay
  have hlen := hL.len
  have hroom := h.room
  have w1 := win_len hlay
  have w2 := win_len (l := l) (fr := fr) (n := n) (by omega)
  have t1 := win_take hlay
  have t2 := win_take (l := l) (fr := fr) (n := n) (by omega)
  obtain ⟨T, hT⟩ : ∃ T, T = rowT ((win now fr n).map B) := ⟨_, rfl⟩
  have hlast := rowT_last ((win now fr n).map B)
  have hfix := fun m S' => openL_fix (l := (win now fr n).map B) _ st0 (Nat.le_refl _) m S'
  have hTe : openL ((win now fr n).map B) st0 = T := hT.symm
  rw [hTe] at hfix
  rw [← hT] at ha h0 hlast ⊢
  have htake : ((win l fr n).map B).take T.en = ((win now fr n).map B).take T.en := by
    refine List.ext_getElem? fun j => ?_
    rw [List.getElem?_take, List.getElem?_take]
    by_cases hj : j < T.en
    · rw [if_pos hj, if_pos hj]
      have g1 := sec_get (win l fr n) n j (by omega) (by omega)
      have g2 := sec_get (win now fr n) n j (by omega) (by omega)
      rw [t2] at g1
      rw [t1] at g2
      rw [g1, g2, win_sat _ _ _ _ (by omega), win_sat _ _ _ _ (by omega), hL.out (fr + j) (by omega) (.inl (by omega))]
    · rw [if_neg hj, if_neg hj]
  have hsame := (openL_same (l := (win now fr n).map B) (l' := (win l fr n).map B) _ st0 (Nat.le_refl _) (Nat.zero_le _)).2 (by rw [hTe]; exact htake)
  rw [hTe] at hsame
  obtain ⟨k, hk, hX⟩ := openL_crash (sure := win now fr n) (l := win l fr n) (n := n) (top := topL ((win now fr n).map B) 0) (by omega) (by omega)
    (fun i hi m hm0 hv => by
      rw [win_sat _ _ _ _ hi] at hv
      rw [← hv.2.1]; exact h.heads i hi) [(st, S)] T (by
        rw [Nat.max_eq_left hlast]; exact ⟨h.head, trivial⟩) (by omega)
    (fun m S' hg => hfix m S' (by rw [t1] at hg; exact hg)) (fun x hx => by rw [List.mem_singleton.1 hx]; exact ⟨h.sz, h.lt⟩) (fun i hi1 hi2 m hm0 hv => by
      rw [win_sat _ _ _ _ hi2] at hv ⊢
      rw [win_sat _ _ _ _ hi2]
      rcases hL.src i hi2 m hm0 hv with q | ⟨q1, q2, q3, q4⟩
      · exact .inl q
      · refine .inr ⟨(st, pc (txt S) (i - a)), ?_, q3.symm, q4⟩
        rw [← ha]
        exact lvs_lo (st, S) [] _ q2)
  rw [t2] at hX
  have hrow : rowT ((win l fr n).map B) = openL ((win l fr n).map B) T := hsame
  refine ⟨by rw [hrow]; exact openL_keep _ T (Nat.le_refl _) h0, ?_⟩
  rw [hrow, hX]
  rcases (show k = 0 ∨ k = 1 by simp at hk; omega) with e | e
  · rw [e]; exact .inl (by simp)
  · rw [e]; exact .inr rfl
/-- A sheaf was to begin the half anew. -/
theorem Half1.begun {l : List (List UInt8)} (h : Half1 now fr n 0 st S M) (hL : Left now fr n 0 st S l) :
    ((rowT ((win l fr n).map B)).first = st ∧ (rowT ((win l fr n).map B)).texts = [B S]) ∨ (rowT ((win l fr n).map B)).first = 0 ∨ (rowT ((win l fr n).map B)).first = (rowT ((win now fr n).map B)).first := by
  have hlay := h.lay
  have hlen := hL.len
  have hroom := h.room
  have w1 := win_len hlay
  have w2 := win_len (l := l) (fr := fr) (n := n) (by omega)
  have t1 := win_take hlay
  have t2 := win_take (l := l) (fr := fr) (n := n) (by omega)
  have hhead := h.head
  have hb := openL_begin (l := win l fr n) (n := n) (b := st) (S := S) (by omega) (by omega) h.sz (fun i hi m h0 hv => by
    rw [win_sat _ _ _ _ hi] at hv ⊢
    rcases hL.src i hi m h0 hv with ⟨q, -⟩ | ⟨-, -, q3, q4⟩
    · have := h.heads i hi
      rw [q.2.1] at this
      exact .inl (by omega)
    · exact .inr ⟨q3, by rw [Nat.sub_zero] at q4; exact q4⟩)
  rw [t2] at hb
  by_cases c : (rowT ((win l fr n).map B)).first = st
  · exact .inl ⟨c, hb.2 c⟩
  refine .inr ?_
  cases hg : getP (((win l fr n).map B).drop 0) with
  | none =>
    left
    have : rowT ((win l fr n).map B) = st0 := openL_none (st := st0) hg
    rw [this]; rfl
  | some p =>
    obtain ⟨m, S'⟩ := p
    right
    obtain ⟨h0, hm, hS, hp, -⟩ := getP_some hg
    have hrow : ∀ X : List ByteArray, getP (X.drop 0) = some (m, S') → (rowT X).first = m := fun X hX => by
      have e : rowT X = openL X (st0.add m S') := by
        show openL X st0 = _
        rw [openL_some (st := st0) hX, if_pos (by show 0 < m; omega)]
      rw [e, openL_keep _ (st0.add m S') (Nat.le_refl _) (by show m ≠ 0; exact h0)]
      rfl
    have hfm := hrow _ hg
    have hmst : m ≠ st := fun e => c (hfm.trans e)
    have hp2 : sheafL m S' <+: (((win l fr n).take n).map B).drop 0 := by rw [t2]; exact hp
    obtain ⟨gb, gj⟩ := (pre_sec (e := 0) (by omega) (Nat.zero_le _)).1 hp2
    have hq : ∀ j, j < nP (txt S') → sat (win now fr n) (0 + j) = leafOf m (pc (txt S') j) := fun j hj => by
      have hjn : 0 + j < n := by omega
      have hv := valid_leaf m (pc (txt S') j) hm (pc_length _ _)
      have hgj := gj j hj
      rw [win_sat _ _ _ _ hjn] at hgj ⊢
      rw [← hgj] at hv
      rcases hL.src (0 + j) hjn m h0 hv.1 with ⟨q1, q2⟩ | ⟨-, -, q3, -⟩
      · exact valid_eq q1 (q2.symm.trans hv.2) (pc_length _ _)
      · exact absurd q3 hmst
    have hback := getP_back h0 hm hS ((pre_sec (e := 0) (sec := win now fr n) (n := n) (by omega) (Nat.zero_le _)).2 ⟨gb, hq⟩)
    rw [t1] at hback
    rw [hfm, hrow _ hback]
end
end Go.Proofs.Ytnhgakmnkpjpdaa.Pure

/- Chapter 06, plain: what a commit and a save leave on a drive that may fail. -/
set_option linter.unusedVariables false
set_option linter.unusedSimpArgs false
namespace Go.Proofs.Ytnhgakmnkpjpdaa.Pure
open Go Go.RowKit Go.Proofs.Ytnhgakmnkpjpdaa.Q Go.Proofs.Ytnhgakmnkpjpdaa Go.Proofs.YtnhgakmnkpjpdaaW.PrintWords Go.Proofs.YtnhgakmnkpjpdaaW.PrintLast Go.Proofs.YtnhgakmnkpjpdaaW.PrintMore
/-- A log, and a drive where all is sure and sound. -/
structure Clean (s : DS) (q : WS) (n N : Nat) : Prop where
  fit : LFit s q n
  opn : s.opn = []
  sure : s.sure = s.now
  sound : ∀ i, i < s.now.length → Sound (sat s.now i)
  len : s.now.length = N
theorem sat_splice (l m : List (List UInt8)) (p i : Nat) (h : p + m.length ≤ l.length) : sat (splice l p m) i = if i < p then sat l i else if i < p + m.length then sat m (i - p) else sat l i := by
  unfold sat splice
  simp only [List.getD_eq_getElem?_getD, List.getElem?_append, List.length_take, List.length_append, List.getElem?_take, List.getElem?_drop]
  by_cases h1 : i < p
  · rw [if_pos (by omega), if_pos (by omega), if_pos h1, if_pos h1]
  · by_cases h2 : i < p + m.length
    · rw [if_pos (by omega), if_neg (by omega), if_neg h1, if_pos h2]
      congr 2; omega
    · rw [if_neg (by omega), if_neg h1, if_neg h2]
      congr 2; omega
theorem leaf_sound (st : Nat) (p : List UInt8) (h : p.length ≤ 48) (hs : st < 18446744073709551616) : Sound (leafOf st p) :=
  ⟨leafOf_length st p h, by rw [leafOf_foot st p h hs, leafOf_head st p h hs]; exact Nat.le_refl _⟩
theorem splice_sound {now : List (List UInt8)} {p st M : Nat} {S : List UInt8} (hs : ∀ i, i < now.length → Sound (sat now i)) (hst : st < 18446744073709551616) (hp : p + nP (txt S) ≤ now.length) :
    (splice now p (((lvs [(st, S)]).take M).map lf)).length = now.length ∧ ∀ i, i < now.length → Sound (sat (splice now p (((lvs [(st, S)]).take M).map lf)) i) := by
  have hl : (((lvs [(st, S)]).take M).map lf).length ≤ nP (txt S) := by
    rw [List.length_map, List.length_take, lvs_one_len]; omega
  refine ⟨splice_len (by omega), fun i hi => ?_⟩
  rw [sat_splice _ _ _ _ (by omega)]
  split
  · exact hs i hi
  · split
    · rename_i h1 h2
      unfold sat
      rw [List.getD_eq_getElem?_getD, List.getElem?_eq_getElem (by omega), Option.getD_some]
      obtain ⟨u, hu, e⟩ := List.mem_map.1 (List.getElem_mem (show i - p < (((lvs [(st, S)]).take M).map lf).length by omega))
      rw [← e]
      have hum := List.mem_of_mem_take hu
      obtain ⟨a, ha, hae, -⟩ := lvs_mem hum
      rw [List.mem_singleton.1 ha] at hae
      exact leaf_sound _ _ (lvs_48 hum) (by rw [hae]; exact hst)
    · exact hs i hi
theorem rowT_nil {l : List ByteArray} (h : (rowT l).first = 0) : (rowT l).texts = [] := by
  have h1 := (rowT_first l).2.1 h
  have h2 := (rowT_ok l).texts
  exact List.eq_nil_of_length_eq_zero (by omega)
theorem LFit.at_ {s : DS} {q : WS} {n : Nat} (h : LFit s q n) (c : DS) (b : Bool) : halfB (rowSec c 0 n) (rowSec c n n) b = rowSec c (q.h b).fr n := by
  cases b with
  | false => rw [h.f0.1]; rfl
  | true => rw [h.f1.1]; rfl
theorem LFit.lay {s : DS} {q : WS} {n : Nat} (h : LFit s q n) (b : Bool) : (q.h b).mn = n ∧ (q.h b).fr + n ≤ 2 * n ∧ ((q.h (!b)).fr + n ≤ (q.h b).fr ∨ (q.h b).fr + n ≤ (q.h (!b)).fr) := by
  have h0 := h.f0
  have h1 := h.f1
  cases b with
  | false => exact ⟨h0.2, by omega, by simp only [Bool.not_false]; omega⟩
  | true => exact ⟨h1.2, by omega, by simp only [Bool.not_true]; omega⟩
/-- No sheaf of the log: no transaction. -/
theorem LFit.blank {s : DS} {q : WS} {n : Nat} (h : LFit s q n) (h0 : (q.h q.log).first = 0) : q.log = false ∧ q.txns = [] := by
  have h2 := h.fsec q.log
  rw [h0] at h2
  have h5 := h.log
  have h3 : secD (rowSec s 0 n) (rowSec s n n) = false := by
    cases hc : secD (rowSec s 0 n) (rowSec s n n) with
    | false => rfl
    | true =>
      have h4 := secD_if _ _ _ hc
      rw [if_pos rfl] at h4
      rw [h5, hc] at h2
      omega
  have ht := h.txns
  unfold txD at ht
  rw [halfD_B, ← h5, rowT_nil h2.symm] at ht
  exact ⟨h5.trans h3, (Option.some.inj ht).symm⟩
theorem opened_of {c : DS} {n N : Nat} (hf : c.fuse = none) (ho : c.opn = []) (hs : c.sure = c.now) (hsd : ∀ i, i < c.now.length → Sound (sat c.now i)) (hl : c.now.length = N) (hN : N / 2 = n) {L : List (List ByteArray)} (ht : txD (halfD (rowSec c 0 n) (rowSec c n n)) = some L) :
    ∃ q', openW c = some q' ∧ Clean c q' n N ∧ q'.txns = L := by
  have h := openW_fit hf
  rw [hl, hN] at h
  cases hq : openW c with
  | none =>
    rw [hq] at h
    have h' : txD (halfD (rowSec c 0 n) (rowSec c n n)) = none := h
    rw [ht] at h'
    cases h'
  | some q' =>
    rw [hq] at h
    have h' : LFit c q' n := h
    exact ⟨q', rfl, ⟨h', ho, hs, hsd, hl⟩, Option.some.inj (h'.txns.symm.trans ht)⟩
/-- What is found behind a failure. -/
def After (q : WS) (n N : Nat) (s : DS) (L : List (List ByteArray)) : Prop := s.opn.length < 900000 ∧ ∀ keep torn at_ : Int, ∃ q', openW (crashS s keep torn at_) = some q' ∧ Clean (crashS s keep torn at_) q' n N ∧ (q'.txns = q.txns ∨ q'.txns = L)
inductive OutW (q : WS) (n N : Nat) (L : List (List ByteArray)) (P : PW) : Prop
  | ok : P.e = 0 → Clean (noF P.s) P.q n N → P.q.txns = L → OutW q n N L P
  | no : P.e ≠ 0 → P.e ≠ 30 → Clean (noF P.s) P.q n N → OutW q n N L P
  | ko : P.e = 30 → P.q.down = true → P.q.txns = q.txns → After q n N P.s L → OutW q n N L P
theorem fit_noF {s : DS} {r : RS} (h : Fit (noF s) r) : Fit s r := ⟨h.lay, h.texts, h.first, h.en, h.top, h.down⟩
/-- A put failed: what the halves tell behind it. -/
theorem ko_halves {s : DS} {q : WS} {n N : Nat} (h : Clean (noF s) q n N) (hN : N / 2 = n) (b : Bool) (a : Nat) (S : List UInt8) (hS : S.length ≤ 98304) (M : Nat) {s' : DS} (ht : topW q < 9223372036854775807) (hroom : a + nP (txt S) ≤ (q.h b).mn)
    (hsu : s'.sure = s.sure) (hop : s'.opn = s.opn ++ posL ((q.h b).fr + a) ((lvs [(topW q + 1, S)]).take M)) (keep torn at_ : Int) :
    Half1 s.now (q.h b).fr n a (topW q + 1) S M ∧ Left s.now (q.h b).fr n a (topW q + 1) S (crashS s' keep torn at_).now ∧ rowSec (crashS s' keep torn at_) (q.h (!b)).fr n = rowSec s (q.h (!b)).fr n := by
  have hlay := h.fit.lay b
  have hlay2 := h.fit.lay (!b)
  have hlen : s.now.length = N := h.len
  have h2n : 2 * n ≤ s.now.length := h.fit.len
  have hopn : s.opn = [] := h.opn
  have hsure : s.sure = s.now := h.sure
  have hH : Half1 s.now (q.h b).fr n a (topW q + 1) S M := by
    refine ⟨by omega, h.sound, ?_, by omega, by omega, hS⟩
    have h1 := (h.fit.fit b).top
    rw [hlay.1] at h1
    have h2 : rowSec s (q.h b).fr n = (win s.now (q.h b).fr n).map B := rowSec_win s _ _ (by omega)
    have h1' : (q.h b).top = topL (rowSec s (q.h b).fr n) 0 := h1
    rw [h2] at h1'
    rw [← h1']
    have h3 : (q.h b).top ≤ topW q := by
      unfold topW
      cases b
      · exact Nat.le_max_left _ _
      · exact Nat.le_max_right _ _
    omega
  have hL := hH.left keep torn at_
  have e : sureAt keep torn at_ s.now (opn1 (q.h b).fr a (topW q + 1) S M) (opn1 (q.h b).fr a (topW q + 1) S M).length = (crashS s' keep torn at_).now := by
    show _ = sureAt keep torn at_ s'.sure s'.opn s'.opn.length
    rw [hsu, hsure, hop, hopn, List.nil_append]
    rfl
  rw [e] at hL
  refine ⟨hH, hL, ?_⟩
  have hcl := hL.len
  rw [rowSec_win _ _ _ (by omega), rowSec_win _ _ _ (by omega), win_same hcl (fun i hi => hL.out _ (by omega) (by omega)) (by omega)]
theorem save_out {s : DS} {q : WS} {n N : Nat} (h : Clean (noF s) q n N) (hN : N / 2 = n) (hN2 : N ≤ 4096) (x : List ByteArray) (hx : fine x) : OutW q n N [x] (saveW s q x) := by
  have hd := h.fit.down
  obtain ⟨b, hb⟩ : ∃ b, (if (q.h q.log).first = 0 then false else !q.log) = b := ⟨_, rfl⟩
  have hS : (B (rowL x)).size ≤ 98304 := by have := rowL_size x hx; omega
  have hS' : (rowL x).length ≤ 98304 := by rw [B_size] at hS; exact hS
  have hp := putW_any begin_any (fit_noF (h.fit.fit b)) (B (rowL x)) hS
  rw [B_data] at hp
  have hsv := saveW_eq (s := s) (x := x) hd b hb rfl
  have hlay := h.fit.lay b
  have h2n : 2 * n ≤ s.now.length := h.fit.len
  have hlen : s.now.length = N := h.len
  by_cases c30 : (saveW s q x).e = 30
  · have c0 : (putW beginR s q b (B (rowL x))).e ≠ 0 := fun e => by
      rw [hsv, if_pos e] at c30
      exact absurd c30 (by show (0 : Int) ≠ 30; decide)
    rw [if_neg c0] at hsv
    rw [hsv] at c30 ⊢
    cases hp with
    | no h1 h2 _ => exact absurd c30 h2
    | ok M h1 => exact absurd h1 c0
    | ko M _ ht hroom hnow hsu hop hdn =>
      refine .ko c30 hdn (putW_log beginR s q b (B (rowL x))).2 ⟨?_, fun keep torn at_ => ?_⟩
      · rw [hop, show s.opn = [] from h.opn, List.nil_append, posL_length, List.length_take, lvs_one_len]
        omega
      obtain ⟨hH, hL, hoth⟩ := ko_halves h hN b 0 (rowL x) hS' M ht hroom hsu hop keep torn at_
      obtain ⟨c, hc⟩ : ∃ c, c = crashS (putW beginR s q b (B (rowL x))).s keep torn at_ := ⟨_, rfl⟩
      have hcs : c.sure = c.now ∧ c.opn = [] ∧ c.fuse = none := by rw [hc]; exact ⟨rfl, rfl, rfl⟩
      rw [← hc] at hL hoth ⊢
      have hcl := hL.len
      have hbeg := hH.begun hL
      rw [← rowSec_win c _ _ (by omega), ← rowSec_win s _ _ (by omega), ← h.fit.at_ c b, ← h.fit.at_ s b] at hbeg
      rw [← h.fit.at_ c (!b), ← h.fit.at_ s (!b)] at hoth
      have hfs := h.fit.fsec
      have hlog := h.fit.log
      have htx := h.fit.txns
      have htop := h.fit.topW
      have r0 : ∀ k, rowSec (noF s) k n = rowSec s k n := fun _ => rfl
      simp only [r0] at hfs hlog htx htop
      have key : ∃ L, txD (halfD (rowSec c 0 n) (rowSec c n n)) = some L ∧ (L = q.txns ∨ L = [x]) := by
        have hle : (rowT (halfB (rowSec c 0 n) (rowSec c n n) b)).first = topW q + 1 ∧ (rowT (halfB (rowSec c 0 n) (rowSec c n n) b)).texts = [B (rowL x)] ∨ (rowT (halfB (rowSec c 0 n) (rowSec c n n) b)).first ≤ (rowT (halfB (rowSec s 0 n) (rowSec s n n) b)).first := by
          rcases hbeg with e | e | e
          · exact .inl e
          · exact .inr (by omega)
          · exact .inr (by omega)
        rcases hle with ⟨e1, e2⟩ | e
        · have hsec : secD (rowSec c 0 n) (rowSec c n n) = b := by
            refine secD_B _ _ _ ?_
            rw [hoth, e1]
            have h1 := first_le_topD (rowSec s 0 n) (rowSec s n n) (!b)
            rw [← htop] at h1
            split <;> omega
          refine ⟨[x], ?_, .inr rfl⟩
          unfold txD
          rw [halfB_sec b hsec, e2]
          exact parseA_one x hx
        · by_cases h0 : (q.h q.log).first = 0
          · obtain ⟨hl, htn⟩ := h.fit.blank h0
            rw [if_pos h0] at hb
            subst hb
            rw [hl] at h0 hlog
            rw [← hfs false, h0] at e
            have e0 : (rowT (halfB (rowSec c 0 n) (rowSec c n n) false)).first = 0 := by omega
            have hif := secD_if _ _ false hlog.symm
            rw [if_neg (by decide), ← hfs false, h0] at hif
            have hsec : secD (rowSec c 0 n) (rowSec c n n) = false := by
              refine secD_B _ _ _ ?_
              rw [if_neg (by decide), hoth]
              omega
            refine ⟨[], ?_, .inl htn.symm⟩
            unfold txD
            rw [halfB_sec false hsec, rowT_nil e0]
            rfl
          · rw [if_neg h0] at hb
            obtain ⟨lg, hlg⟩ : ∃ lg, q.log = lg := ⟨_, rfl⟩
            rw [hlg] at hb hlog
            have hb' : (!b) = lg := by rw [← hb]; simp
            have hb2 : b = !lg := hb.symm
            rw [hb'] at hoth
            rw [hb2] at e
            have hif := secD_if _ _ lg hlog.symm
            have hsec : secD (rowSec c 0 n) (rowSec c n n) = lg := by
              refine secD_B _ _ _ ?_
              rw [hoth]
              split
              · rename_i hl1
                rw [if_pos hl1] at hif
                omega
              · rename_i hl1
                rw [if_neg hl1] at hif
                omega
            refine ⟨q.txns, ?_, .inl rfl⟩
            unfold txD at htx ⊢
            rw [halfB_sec lg hsec, hoth, ← halfB_sec lg hlog.symm]
            exact htx
      obtain ⟨L, hL1, hL2⟩ := key
      have hsd : ∀ i, i < c.now.length → Sound (sat c.now i) := hL.sound
      obtain ⟨q', g1, g2, g3⟩ := opened_of hcs.2.2 hcs.2.1 hcs.1 hsd (hcl.trans hlen) hN hL1
      exact ⟨q', g1, g2, by rw [g3]; exact hL2⟩
  · have hno := saveW_noF hd c30
    have ht := (saveW_told h.fit x hx).fit
    rw [hno] at ht
    have ht' : LFit (noF (saveW s q x).s) (saveW s q x).q n := ht
    by_cases c0 : (putW beginR s q b (B (rowL x))).e = 0
    · rw [if_pos c0] at hsv
      rw [hsv] at ht' ⊢
      cases hp with
      | no h1 _ _ => exact absurd c0 h1
      | ko M h1 => rw [h1] at c0; exact absurd c0 (by decide)
      | ok M _ ht hroom hnow hsu hop =>
        have hsp := splice_sound (p := (q.h b).fr + 0) (st := topW q + 1) (M := M) (S := rowL x) h.sound (by omega) (by show _ ≤ s.now.length; omega)
        refine .ok rfl ⟨ht', hop, hsu, fun i hi => ?_, ?_⟩ rfl
        · have e : (noF (putW beginR s q b (B (rowL x))).s).now = _ := hnow
          have hi' : i < (noF (putW beginR s q b (B (rowL x))).s).now.length := hi
          show Sound (sat (noF (putW beginR s q b (B (rowL x))).s).now i)
          rw [e] at hi' ⊢
          exact hsp.2 i (by rw [← hsp.1]; exact hi')
        · have e : (noF (putW beginR s q b (B (rowL x))).s).now = _ := hnow
          show (noF (putW beginR s q b (B (rowL x))).s).now.length = N
          rw [e]
          exact hsp.1.trans hlen
    · rw [if_neg c0] at hsv
      rw [hsv] at ht' c30 ⊢
      cases hp with
      | ok M h1 => exact absurd h1 c0
      | ko M h1 => exact absurd h1 c30
      | no h1 h2 hs =>
        rw [hs] at ht'
        refine .no h1 h2 ?_
        rw [hs]
        exact ⟨ht', h.opn, h.sure, h.sound, h.len⟩
theorem commit_out {s : DS} {q : WS} {n N : Nat} (h : Clean (noF s) q n N) (hN : N / 2 = n) (hN2 : N ≤ 4096) (x : List ByteArray) (hx : fine x) : OutW q n N (q.txns ++ [x]) (commitW s q x) := by
  have hd := h.fit.down
  by_cases h0 : (q.h q.log).first = 0
  · rw [commitW_z hd h0, (h.fit.blank h0).2, List.nil_append]
    exact save_out h hN hN2 x hx
  have hS : (B (rowL x)).size ≤ 98304 := by have := rowL_size x hx; omega
  have hS' : (rowL x).length ≤ 98304 := by rw [B_size] at hS; exact hS
  have hp := putW_any add_any (fit_noF (h.fit.fit q.log)) (B (rowL x)) hS
  rw [B_data] at hp
  have hsv := commitW_eq (s := s) (x := x) hd h0 rfl
  have hlay := h.fit.lay q.log
  have h2n : 2 * n ≤ s.now.length := h.fit.len
  have hlen : s.now.length = N := h.len
  by_cases c30 : (commitW s q x).e = 30
  · have c0 : (putW addR s q q.log (B (rowL x))).e ≠ 0 := fun e => by
      rw [hsv, if_pos e] at c30
      exact absurd c30 (by show (0 : Int) ≠ 30; decide)
    rw [if_neg c0] at hsv
    rw [hsv] at c30 ⊢
    cases hp with
    | no h1 h2 _ => exact absurd c30 h2
    | ok M h1 => exact absurd h1 c0
    | ko M _ ht hroom hnow hsu hop hdn =>
      refine .ko c30 hdn (putW_log addR s q q.log (B (rowL x))).2 ⟨?_, fun keep torn at_ => ?_⟩
      · rw [hop, show s.opn = [] from h.opn, List.nil_append, posL_length, List.length_take, lvs_one_len]
        omega
      obtain ⟨hH, hL, hoth⟩ := ko_halves h hN q.log (q.h q.log).en (rowL x) hS' M ht hroom hsu hop keep torn at_
      obtain ⟨c, hc⟩ : ∃ c, c = crashS (putW addR s q q.log (B (rowL x))).s keep torn at_ := ⟨_, rfl⟩
      have hcs : c.sure = c.now ∧ c.opn = [] ∧ c.fuse = none := by rw [hc]; exact ⟨rfl, rfl, rfl⟩
      rw [← hc] at hL hoth ⊢
      have hcl := hL.len
      have hfs := h.fit.fsec
      have hes := h.fit.esec
      have hlog := h.fit.log
      have htx := h.fit.txns
      have r0 : ∀ k, rowSec (noF s) k n = rowSec s k n := fun _ => rfl
      simp only [r0] at hfs hes hlog htx
      have ew : (win s.now (q.h q.log).fr n).map B = halfB (rowSec s 0 n) (rowSec s n n) q.log := by rw [← rowSec_win s _ _ (by omega), ← h.fit.at_ s q.log]
      have hadd := hH.add hL (by rw [ew]; exact hes q.log) (by
        rw [ew]
        intro e
        have e1 := (rowT_zero (halfB (rowSec s 0 n) (rowSec s n n) q.log)).2 e
        exact h0 ((hfs q.log).trans ((rowT_first _).2.2 e1)))
      rw [← rowSec_win c _ _ (by omega), ← rowSec_win s _ _ (by omega), ← h.fit.at_ c q.log, ← h.fit.at_ s q.log] at hadd
      rw [← h.fit.at_ c (!q.log), ← h.fit.at_ s (!q.log)] at hoth
      have hif := secD_if _ _ q.log hlog.symm
      have hsec : secD (rowSec c 0 n) (rowSec c n n) = q.log := by
        refine secD_B _ _ _ ?_
        rw [hoth, hadd.1]
        exact hif
      have key : ∃ L, txD (halfD (rowSec c 0 n) (rowSec c n n)) = some L ∧ (L = q.txns ∨ L = q.txns ++ [x]) := by
        unfold txD at htx ⊢
        rw [halfB_sec q.log hlog.symm] at htx
        rw [halfB_sec q.log hsec]
        rcases hadd.2 with e | e
        · exact ⟨q.txns, by rw [e]; exact htx, .inl rfl⟩
        · refine ⟨q.txns ++ [x], ?_, .inr rfl⟩
          rw [e, parseA_snoc, one_rowL x hx, htx]
          rfl
      obtain ⟨L, hL1, hL2⟩ := key
      have hsd : ∀ i, i < c.now.length → Sound (sat c.now i) := hL.sound
      obtain ⟨q', g1, g2, g3⟩ := opened_of hcs.2.2 hcs.2.1 hcs.1 hsd (hcl.trans hlen) hN hL1
      exact ⟨q', g1, g2, by rw [g3]; exact hL2⟩
  · have hno := commitW_noF hd c30
    have ht := (commitW_told h.fit x hx).fit
    rw [hno] at ht
    have ht' : LFit (noF (commitW s q x).s) (commitW s q x).q n := ht
    by_cases c0 : (putW addR s q q.log (B (rowL x))).e = 0
    · rw [if_pos c0] at hsv
      rw [hsv] at ht' ⊢
      cases hp with
      | no h1 _ _ => exact absurd c0 h1
      | ko M h1 => rw [h1] at c0; exact absurd c0 (by decide)
      | ok M _ ht hroom hnow hsu hop =>
        have hsp := splice_sound (p := (q.h q.log).fr + (q.h q.log).en) (st := topW q + 1) (M := M) (S := rowL x) h.sound (by omega) (by show _ ≤ s.now.length; omega)
        refine .ok rfl ⟨ht', hop, hsu, fun i hi => ?_, ?_⟩ (by
          show (putW addR s q q.log (B (rowL x))).q.txns ++ [x] = q.txns ++ [x]
          rw [(putW_log addR s q q.log (B (rowL x))).2])
        · have e : (noF (putW addR s q q.log (B (rowL x))).s).now = _ := hnow
          have hi' : i < (noF (putW addR s q q.log (B (rowL x))).s).now.length := hi
          show Sound (sat (noF (putW addR s q q.log (B (rowL x))).s).now i)
          rw [e] at hi' ⊢
          exact hsp.2 i (by rw [← hsp.1]; exact hi')
        · have e : (noF (putW addR s q q.log (B (rowL x))).s).now = _ := hnow
          show (noF (putW addR s q q.log (B (rowL x))).s).now.length = N
          rw [e]
          exact hsp.1.trans hlen
    · rw [if_neg c0] at hsv
      rw [hsv] at ht' c30 ⊢
      cases hp with
      | ok M h1 => exact absurd h1 c0
      | ko M h1 => exact absurd h1 c30
      | no h1 h2 hs =>
        rw [hs] at ht'
        refine .no h1 h2 ?_
        rw [hs]
        exact ⟨ht', h.opn, h.sure, h.sound, h.len⟩
/-- Nothing is under way. -/
theorem idle_after {s : DS} {q : WS} {n N : Nat} (h : Clean (noF s) q n N) (hN : N / 2 = n) : After q n N s q.txns := by
  refine ⟨by rw [show s.opn = [] from h.opn]; decide, fun keep torn at_ => ?_⟩
  have hc : crashS s keep torn at_ = noF s := by
    have h1 : s.opn = [] := h.opn
    have h2 : s.sure = s.now := h.sure
    unfold crashS noF
    rw [h1, h2]
    rfl
  rw [hc]
  obtain ⟨q', g1, g2⟩ := openW_some h.fit (by rw [h.len]; exact hN)
  exact ⟨q', g1, ⟨g2, h.opn, h.sure, h.sound, h.len⟩, .inl (fit_agree h.fit g2).2.1⟩
/-- A log that is down stays so. -/
theorem down_calls {s : DS} {q : WS} (h : q.down = true) (x : List ByteArray) : commitW s q x = ⟨s, q, 30⟩ ∧ saveW s q x = ⟨s, q, 30⟩ := by
  unfold commitW saveW
  rw [if_pos h, if_pos h]
  exact ⟨rfl, rfl⟩
theorem z64_sound : Sound z64 := ⟨List.length_replicate .., by decide⟩
theorem clean_new (N : Nat) (h8 : 8 ≤ N) : Clean (newS N) (q0 (N / 2)) (N / 2) N := by
  have hl : (newS N).now.length = N := List.length_replicate ..
  have hfit := openW_fit (s := newS N) rfl
  rw [openW_new, hl] at hfit
  refine ⟨hfit, rfl, rfl, fun i hi => ?_, hl⟩
  have e : sat (newS N).now i = z64 := by
    show (List.replicate N z64).getD i [] = z64
    rw [List.getD_eq_getElem?_getD, List.getElem?_replicate, if_pos (by rw [hl] at hi; exact hi)]
    rfl
  rw [e]
  exact z64_sound
end Go.Proofs.Ytnhgakmnkpjpdaa.Pure
