/- Chapter 05, plain: what a crash leaves of sectors; what a row has of them. -/
import Derived.Test.YthbbdilcclepoaaRT
set_option linter.unusedVariables false
set_option linter.unusedSimpArgs false
namespace Go.Proofs.Ythbbdilcclepoaa.Pure
open Go Go.RowKit Go.Proofs.Ythbbdilcclepoaa.Q Go.Proofs.Ythbbdilcclepoaa Go.Proofs.YthbbdilcclepoaaW.PrintWords Go.Proofs.YthbbdilcclepoaaW.PrintLast Go.Proofs.YthbbdilcclepoaaW.PrintMore
/-- A sector that a crash may leave. -/
structure Sound (L : List UInt8) : Prop where
  len : L.length = 64
  ends : footNum L ≤ headNum L
/-- Where a valid leaf of a sector comes from: from before, or from one of the first k writes. -/
def Src (sure : List (List UInt8)) (opn : List (Nat × List UInt8)) (k i : Nat) (L : List UInt8) : Prop :=
  ∀ m, m ≠ 0 → Valid L m → (Valid (sat sure i) m ∧ mid L = mid (sat sure i)) ∨ ∃ (k' : Nat) (x : Nat × List UInt8), k' < k ∧ opn[k']? = some x ∧ x.1 = i ∧ Valid x.2 m ∧ mid L = mid x.2
structure Wrs (sure : List (List UInt8)) (opn : List (Nat × List UInt8)) : Prop where
  sound : ∀ i, i < sure.length → Sound (sat sure i)
  leaf : ∀ (k : Nat) (x : Nat × List UInt8), opn[k]? = some x → x.1 < sure.length ∧ ∃ st p, x.2 = leafOf st p ∧ p.length ≤ 48 ∧ st < 18446744073709551616 ∧ headNum (sat sure x.1) < st ∧ ∀ (k' : Nat) (y : Nat × List UInt8), k' < k → opn[k']? = some y → y.1 = x.1 → headNum y.2 < st
structure Gd (sure : List (List UInt8)) (opn : List (Nat × List UInt8)) (torn : Int) (k i : Nat) (L : List UInt8) : Prop where
  sound : Sound L
  src : Src sure opn k i L
  bnd : (0 ≤ torn ∧ torn < (k : Int)) ∨ ∀ (k2 : Nat) (x : Nat × List UInt8), k ≤ k2 → opn[k2]? = some x → x.1 = i → headNum L < headNum x.2
  same : (∀ (k' : Nat) (x : Nat × List UInt8), k' < k → opn[k']? = some x → x.1 ≠ i) → L = sat sure i
theorem Src.mono {sure : List (List UInt8)} {opn : List (Nat × List UInt8)} {k k2 i : Nat} {L : List UInt8} (h : Src sure opn k i L) (hk : k ≤ k2) : Src sure opn k2 i L := fun m h0 hv => (h m h0 hv).imp id fun ⟨k', x, h1, h2⟩ => ⟨k', x, Nat.lt_of_lt_of_le h1 hk, h2⟩
theorem crash_gd {sure : List (List UInt8)} {opn : List (Nat × List UInt8)} (H : Wrs sure opn) (keep torn at_ : Int) : ∀ k, k ≤ opn.length → ∀ i, i < sure.length → Gd sure opn torn k i (sat (sureAt keep torn at_ sure opn k) i) := by
  intro k
  induction k with
  | zero =>
    intro _ i hi
    refine ⟨H.sound i hi, fun m _ hv => .inl ⟨hv, rfl⟩, .inr fun k2 x _ hx he => ?_, fun _ => rfl⟩
    obtain ⟨-, st, p, h1, h2, h3, h4, -⟩ := H.leaf k2 x hx
    rw [h1, leafOf_head st p h2 h3, ← he]
    exact h4
  | succ k ih =>
    intro hk i hi
    have hI := ih (by omega) i hi
    have hget : opn[k]? = some opn[k] := List.getElem?_eq_getElem (by omega)
    obtain ⟨x, hx⟩ : ∃ x, x = opn[k] := ⟨_, rfl⟩
    rw [← hx] at hget
    have hgd : opn.getD k (0, []) = x := by rw [List.getD_eq_getElem?_getD, hget]; rfl
    obtain ⟨hxl, st, p, h1, h2, h3, h4, h5⟩ := H.leaf k x hget
    have hlen := sureAt_len keep torn at_ sure opn k
    rw [sureAt, hgd]
    unfold tornL
    rw [sat_set _ _ _ _ (by rw [hlen]; exact hxl)]
    by_cases hj : i = x.1
    · rw [if_pos hj]
      subst hj
      obtain ⟨L, hL⟩ : ∃ L, L = sat (sureAt keep torn at_ sure opn k) x.1 := ⟨_, rfl⟩
      rw [← hL] at hI
      have hLg : (sureAt keep torn at_ sure opn k).getD x.1 [] = L := hL.symm
      rw [hLg, h1]
      have hhead : headNum x.2 = st := by rw [h1, leafOf_head st p h2 h3]
      have hval := valid_leaf st p h3 h2
      have hme : ∀ m L', Valid L' m → mid L' = full p → m = st → ∃ (k' : Nat) (y : Nat × List UInt8), k' < k + 1 ∧ opn[k']? = some y ∧ y.1 = x.1 ∧ Valid y.2 m ∧ mid L' = mid y.2 := by
        intro m L' hv hm he
        exact ⟨k, x, Nat.lt_succ_self _, hget, rfl, by rw [h1, he]; exact hval.1, by rw [hm, h1, hval.2]⟩
      have hself : (∀ (k' : Nat) (y : Nat × List UInt8), k' < k + 1 → opn[k']? = some y → y.1 ≠ x.1) → False := fun h => h k x (Nat.lt_succ_self _) hget rfl
      by_cases ht : (k : Int) = torn
      · have hb : headNum L < st := by
          rcases hI.bnd with ⟨-, h⟩ | h
          · omega
          · rw [← hhead]; exact h k x (Nat.le_refl _) hget rfl
        obtain ⟨t1, t2, t3, -⟩ := torn_valid (n := toOf keep torn at_ k) h2 h3 (toOf_le keep torn at_ k) hI.sound.len hI.sound.ends hb
        refine ⟨⟨t1, t2⟩, fun m h0 hv => ?_, .inl ⟨by omega, by omega⟩, fun h => (hself h).elim⟩
        rcases t3 m h0 hv with ⟨e1, e2⟩ | ⟨-, e1, e2⟩
        · exact .inr (hme m _ hv e2 e1)
        · exact ((hI.src.mono (Nat.le_succ k)) m h0 e1).imp (fun q => ⟨q.1, e2.trans q.2⟩) fun ⟨k', y, q1, q2, q3, q4, q5⟩ => ⟨k', y, q1, q2, q3, q4, e2.trans q5⟩
      · have htt : toOf keep torn at_ k = 64 ∨ toOf keep torn at_ k = 0 := by
          unfold toOf
          rw [if_neg ht]
          split
          · exact .inl rfl
          · exact .inr rfl
        rcases htt with e | e
        · rw [e, List.drop_of_length_le (by rw [hI.sound.len]; exact Nat.le_refl _), List.append_nil, List.take_of_length_le (by rw [leafOf_length st p h2]; exact Nat.le_refl _)]
          refine ⟨⟨leafOf_length st p h2, by rw [leafOf_foot st p h2 h3, leafOf_head st p h2 h3]; exact Nat.le_refl _⟩, fun m h0 hv => .inr (hme m _ hv hval.2 (hv.2.1.symm.trans hval.1.2.1)), .inr fun k2 y hk2 hy he => ?_, fun h => (hself h).elim⟩
          obtain ⟨-, st2, p2, g1, g2, g3, -, g5⟩ := H.leaf k2 y hy
          have := g5 k x (by omega) hget he.symm
          rw [hhead] at this
          rw [leafOf_head st p h2 h3, g1, leafOf_head st2 p2 g2 g3]
          exact this
        · rw [e, List.take_zero, List.nil_append, List.drop_zero]
          exact ⟨hI.sound, hI.src.mono (Nat.le_succ k), hI.bnd.imp (fun q => ⟨q.1, by omega⟩) fun q k2 y hk2 => q k2 y (by omega), fun h => (hself h).elim⟩
    · rw [if_neg hj]
      exact ⟨hI.sound, hI.src.mono (Nat.le_succ k), hI.bnd.imp (fun q => ⟨q.1, by omega⟩) fun q k2 y hk2 => q k2 y (by omega), fun h => hI.same fun k' y hk' => h k' y (by omega)⟩
theorem crash_src {sure : List (List UInt8)} {opn : List (Nat × List UInt8)} (H : Wrs sure opn) (keep torn at_ : Int) (i : Nat) (hi : i < sure.length) :
    Sound (sat (sureAt keep torn at_ sure opn opn.length) i) ∧ Src sure opn opn.length i (sat (sureAt keep torn at_ sure opn opn.length) i) ∧ ((∀ x ∈ opn, x.1 ≠ i) → sat (sureAt keep torn at_ sure opn opn.length) i = sat sure i) :=
  have h := crash_gd H keep torn at_ opn.length (Nat.le_refl _) i hi
  ⟨h.sound, h.src, fun q => h.same fun k' x _ hx => q x (List.mem_of_getElem? hx)⟩
/-! Sheaves' leaves -/
def lvs (adds : List (Nat × List UInt8)) : List (Nat × List UInt8) := adds.flatMap fun a => (List.range (nP (txt a.2))).map fun j => (a.1, pc (txt a.2) j)
theorem lvs_cons (a : Nat × List UInt8) (t : List (Nat × List UInt8)) : lvs (a :: t) = (List.range (nP (txt a.2))).map (fun j => (a.1, pc (txt a.2) j)) ++ lvs t := by unfold lvs; rw [List.flatMap_cons]
theorem lvs_append (a b : List (Nat × List UInt8)) : lvs (a ++ b) = lvs a ++ lvs b := by unfold lvs; rw [List.flatMap_append]
theorem lvs_lo (a : Nat × List UInt8) (t : List (Nat × List UInt8)) (j : Nat) (h : j < nP (txt a.2)) : (lvs (a :: t))[j]? = some (a.1, pc (txt a.2) j) := by
  rw [lvs_cons, List.getElem?_append_left (by rw [List.length_map, List.length_range]; exact h), List.getElem?_map, List.getElem?_range h]; rfl
theorem lvs_hi (a : Nat × List UInt8) (t : List (Nat × List UInt8)) (j : Nat) (h : nP (txt a.2) ≤ j) : (lvs (a :: t))[j]? = (lvs t)[j - nP (txt a.2)]? := by
  rw [lvs_cons, List.getElem?_append_right (by rw [List.length_map, List.length_range]; exact h), List.length_map, List.length_range]
theorem lvs_mem {adds : List (Nat × List UInt8)} {x : Nat × List UInt8} (h : x ∈ lvs adds) : ∃ a ∈ adds, x.1 = a.1 ∧ ∃ j, x.2 = pc (txt a.2) j := by
  unfold lvs at h
  obtain ⟨a, ha, hx⟩ := List.mem_flatMap.1 h
  obtain ⟨j, -, rfl⟩ := List.mem_map.1 hx
  exact ⟨a, ha, rfl, j, rfl⟩
def Up : Nat → List (Nat × List UInt8) → Prop
  | _, [] => True
  | t, a :: r => t < a.1 ∧ Up a.1 r
theorem Up.mem : ∀ {adds : List (Nat × List UInt8)} {t : Nat}, Up t adds → ∀ a ∈ adds, t < a.1
  | [], _, _, a, h => by cases h
  | b :: r, t, hu, a, h => by
    rcases List.mem_cons.1 h with rfl | h
    · exact hu.1
    · exact Nat.lt_trans hu.1 (Up.mem hu.2 a h)
theorem Up.snoc : ∀ {adds : List (Nat × List UInt8)} {t : Nat} {a : Nat × List UInt8}, Up t adds → t < a.1 → (∀ b ∈ adds, b.1 < a.1) → Up t (adds ++ [a])
  | [], t, a, _, h, _ => ⟨h, trivial⟩
  | b :: r, t, a, hu, _, hb => ⟨hu.1, Up.snoc hu.2 (hb b (by simp)) (fun c hc => hb c (by simp [hc]))⟩
def posL : Nat → List (Nat × List UInt8) → List (Nat × List UInt8)
  | _, [] => []
  | e, x :: t => (e, leafOf x.1 x.2) :: posL (e + 1) t
theorem posL_get : ∀ (l : List (Nat × List UInt8)) (e k : Nat), (posL e l)[k]? = (l[k]?).map fun x => (e + k, leafOf x.1 x.2)
  | [], e, k => by simp [posL]
  | x :: t, e, 0 => by simp [posL]
  | x :: t, e, k + 1 => by
    rw [posL, List.getElem?_cons_succ, List.getElem?_cons_succ, posL_get t (e + 1) k, show e + 1 + k = e + (k + 1) by omega]
theorem posL_length (l : List (Nat × List UInt8)) : ∀ e, (posL e l).length = l.length := by
  induction l with
  | nil => intro e; rfl
  | cons x t ih => intro e; rw [posL, List.length_cons, ih, List.length_cons]
theorem posL_append (a b : List (Nat × List UInt8)) : ∀ e, posL e (a ++ b) = posL e a ++ posL (e + a.length) b := by
  induction a with
  | nil => intro e; rfl
  | cons x t ih => intro e; rw [List.cons_append, posL, ih, posL, List.cons_append, List.length_cons, show e + 1 + t.length = e + (t.length + 1) by omega]
/-! A sheaf among sectors -/
theorem valid_eq {L p : List UInt8} {m : Nat} (h : Valid L m) (hm : mid L = full p) (hp : p.length ≤ 48) : L = leafOf m p := by
  have h2 := (leaf_iff L h.1).2 (h.2.2.trans h.2.1.symm)
  have h3 : (L.drop 8).take 48 = full p := hm
  rw [h3, full48 (full p) (full_length p hp), h.2.1] at h2
  exact h2.symm
theorem sec_get (sec : List (List UInt8)) (n i : Nat) (hn : n ≤ sec.length) (hi : i < n) : ((sec.take n).map B)[i]? = some (B (sat sec i)) := by
  rw [List.getElem?_map, List.getElem?_take, if_pos hi, List.getElem?_eq_getElem (by omega)]
  unfold sat
  rw [List.getD_eq_getElem?_getD, List.getElem?_eq_getElem (by omega)]
  rfl
theorem pre_sec {sec : List (List UInt8)} {n m e : Nat} {S : List UInt8} (hn : n ≤ sec.length) (he : e ≤ n) : sheafL m S <+: ((sec.take n).map B).drop e ↔ e + nP (txt S) ≤ n ∧ ∀ j, j < nP (txt S) → sat sec (e + j) = leafOf m (pc (txt S) j) := by
  have hlen : (((sec.take n).map B).drop e).length = n - e := by rw [List.length_drop, List.length_map, List.length_take]; omega
  have hsl : ∀ j, j < nP (txt S) → (sheafL m S)[j]? = some (B (leafOf m (pc (txt S) j))) := fun j hj => by
    unfold sheafL
    rw [List.getElem?_map, List.getElem?_range hj]; rfl
  constructor
  · intro h
    have h1 := h.length_le
    rw [sheafL_len, hlen] at h1
    have h0 := nP_pos S
    refine ⟨by omega, fun j hj => ?_⟩
    obtain ⟨r, hr⟩ := h
    have h2 := hsl j hj
    rw [← List.getElem?_append_left (l₂ := r) (by rw [sheafL_len]; exact hj), hr, List.getElem?_drop, sec_get sec n (e + j) hn (by omega)] at h2
    exact B_inj (Option.some.inj h2)
  · rintro ⟨h1, h2⟩
    rw [List.prefix_iff_eq_take]
    refine List.ext_getElem? fun j => ?_
    by_cases hj : j < nP (txt S)
    · rw [hsl j hj, List.getElem?_take, if_pos (by rw [sheafL_len]; exact hj), List.getElem?_drop, sec_get sec n (e + j) hn (by omega), h2 j hj]
    · rw [List.getElem?_eq_none (by rw [sheafL_len]; omega), List.getElem?_eq_none (by rw [List.length_take, sheafL_len]; omega)]
theorem openL_fix {l : List ByteArray} : ∀ (m : Nat) (st : TS), l.length - st.en ≤ m → ∀ n S, getP (l.drop (openL l st).en) = some (n, S) → n ≤ (openL l st).last := by
  intro m
  induction m with
  | zero =>
    intro st hm n S hg
    cases h : getP (l.drop st.en) with
    | none => rw [openL_none h, h] at hg; cases hg
    | some p =>
      have h2 := getP_len (n := p.1) (S := p.2) h
      rw [List.length_drop] at h2
      omega
  | succ m ih =>
    intro st hm n S hg
    cases h : getP (l.drop st.en) with
    | none => rw [openL_none h, h] at hg; cases hg
    | some p =>
      obtain ⟨a, X⟩ := p
      have h2 := getP_len h
      rw [List.length_drop] at h2
      rw [openL_some h] at hg ⊢
      by_cases c : st.last < a
      · rw [if_pos c] at hg ⊢
        exact ih _ (by show l.length - (st.en + nP (txt X)) ≤ m; omega) n S hg
      · rw [if_neg c] at hg ⊢
        rw [h] at hg
        injection hg with hg
        injection hg with h3 h4
        omega
theorem openL_first {l : List ByteArray} : ∀ (m : Nat) (st : TS), l.length - st.en ≤ m → st.last ≠ 0 → (openL l st).first = st.first := by
  intro m
  induction m with
  | zero =>
    intro st hm h0
    cases h : getP (l.drop st.en) with
    | none => rw [openL_none h]
    | some p =>
      have h2 := getP_len (n := p.1) (S := p.2) h
      rw [List.length_drop] at h2
      omega
  | succ m ih =>
    intro st hm h0
    cases h : getP (l.drop st.en) with
    | none => rw [openL_none h]
    | some p =>
      obtain ⟨a, X⟩ := p
      have h2 := getP_len h
      rw [List.length_drop] at h2
      have h3 := (getP_some h).1
      rw [openL_some h]
      by_cases c : st.last < a
      · rw [if_pos c, ih _ (by show l.length - (st.en + nP (txt X)) ≤ m; omega) (by show a ≠ 0; exact h3)]
        show (if st.last = 0 then a else st.first) = st.first
        rw [if_neg h0]
      · rw [if_neg c]
/-- Of sheaves that were added and perhaps not kept, a row has the first ones. -/
theorem openL_crash {sure l : List (List UInt8)} {n top : Nat} (hn : n ≤ sure.length) (hl : l.length = sure.length) (hold : ∀ i, i < n → ∀ m, m ≠ 0 → Valid (sat sure i) m → m ≤ top) :
    ∀ (adds : List (Nat × List UInt8)) (st : TS), Up (max top st.last) adds → st.en ≤ n → (∀ m S, getP (((sure.take n).map B).drop st.en) = some (m, S) → m ≤ st.last) →
    (∀ a ∈ adds, a.2.length ≤ 98304 ∧ a.1 < 18446744073709551616) →
    (∀ i, st.en ≤ i → i < n → ∀ m, m ≠ 0 → Valid (sat l i) m → (Valid (sat sure i) m ∧ mid (sat l i) = mid (sat sure i)) ∨ ∃ x, (lvs adds)[i - st.en]? = some x ∧ x.1 = m ∧ mid (sat l i) = full x.2) →
    ∃ k, k ≤ adds.length ∧ (openL ((l.take n).map B) st).texts = st.texts ++ (adds.take k).map (fun a => B a.2) := by
  intro adds
  induction adds with
  | nil =>
    intro st hup hen hstop hsz hsrc
    refine ⟨0, Nat.le_refl _, ?_⟩
    rw [List.take_zero, List.map_nil, List.append_nil]
    cases h : getP (((l.take n).map B).drop st.en) with
    | none => rw [openL_none h]
    | some p =>
      obtain ⟨m, S⟩ := p
      rw [openL_some h]
      obtain ⟨h0, hm, hS, hp, -⟩ := getP_some h
      obtain ⟨hb, hj⟩ := (pre_sec (by omega) hen).1 hp
      have hq : ∀ j, j < nP (txt S) → sat sure (st.en + j) = leafOf m (pc (txt S) j) := fun j hjj => by
        have hv := valid_leaf m (pc (txt S) j) hm (pc_length _ _)
        rw [← hj j hjj] at hv
        rcases hsrc (st.en + j) (by omega) (by omega) m h0 hv.1 with ⟨q1, q2⟩ | ⟨x, hx, -⟩
        · exact valid_eq q1 (q2.symm.trans hv.2) (pc_length _ _)
        · exact absurd hx (by simp [lvs])
      have hle := hstop m S (getP_back h0 hm hS ((pre_sec hn hen).2 ⟨hb, hq⟩))
      rw [if_neg (by omega)]
  | cons a t ih =>
    intro st hup hen hstop hsz hsrc
    cases h : getP (((l.take n).map B).drop st.en) with
    | none => exact ⟨0, Nat.zero_le _, by rw [openL_none h]; simp⟩
    | some p =>
      obtain ⟨m, S⟩ := p
      rw [openL_some h]
      by_cases c : st.last < m
      case neg => exact ⟨0, Nat.zero_le _, by rw [if_neg c]; simp⟩
      rw [if_pos c]
      obtain ⟨h0, hm, hS, hp, -⟩ := getP_some h
      obtain ⟨hb, hj⟩ := (pre_sec (by omega) hen).1 hp
      have hP := nP_pos S
      have hval : ∀ j, j < nP (txt S) → Valid (sat l (st.en + j)) m ∧ mid (sat l (st.en + j)) = full (pc (txt S) j) := fun j hjj => by
        rw [hj j hjj]
        exact valid_leaf m (pc (txt S) j) hm (pc_length _ _)
      have hsr : ∀ j, j < nP (txt S) → (Valid (sat sure (st.en + j)) m ∧ mid (sat l (st.en + j)) = mid (sat sure (st.en + j))) ∨ ∃ x, (lvs (a :: t))[j]? = some x ∧ x.1 = m ∧ mid (sat l (st.en + j)) = full x.2 := fun j hjj => by
        have := hsrc (st.en + j) (by omega) (by omega) m h0 (hval j hjj).1
        rw [Nat.add_sub_cancel_left] at this
        exact this
      have hmem : ∀ b ∈ a :: t, top < b.1 := fun b hbm => Nat.lt_of_le_of_lt (Nat.le_max_left _ _) (Up.mem hup b hbm)
      rcases hsr 0 hP with ⟨q1, -⟩ | ⟨x, hx, hxm, hxf⟩
      · exfalso
        have hmt := hold st.en (by omega) m h0 (by simpa using q1)
        have hq : ∀ j, j < nP (txt S) → sat sure (st.en + j) = leafOf m (pc (txt S) j) := fun j hjj => by
          rcases hsr j hjj with ⟨q1, q2⟩ | ⟨x, hx, hxm, -⟩
          · exact valid_eq q1 (q2.symm.trans (hval j hjj).2) (pc_length _ _)
          · obtain ⟨b, hbm, hbe, -⟩ := lvs_mem (List.mem_of_getElem? hx)
            have := hmem b hbm
            omega
        have := hstop m S (getP_back h0 hm hS ((pre_sec hn hen).2 ⟨hb, hq⟩))
        omega
      · have hPa := nP_pos a.2
        rw [lvs_lo a t 0 hPa] at hx
        have hx' := Option.some.inj hx
        have hma : m = a.1 := by rw [← hxm, ← hx']
        have hat : top < a.1 := hmem a (by simp)
        have hSa : S = a.2 := by
          refine text_same hS (hsz a (by simp)).1 fun j hjj => ?_
          rcases hsr j hjj with ⟨q1, -⟩ | ⟨y, hy, hym, hyf⟩
          · have := hold (st.en + j) (by omega) m h0 q1
            omega
          · by_cases hja : j < nP (txt a.2)
            · rw [lvs_lo a t j hja] at hy
              rw [← (hval j hjj).2, hyf, ← Option.some.inj hy]
            · rw [lvs_hi a t j (by omega)] at hy
              obtain ⟨b, hbm, hbe, -⟩ := lvs_mem (List.mem_of_getElem? hy)
              have := Up.mem hup.2 b hbm
              omega
        subst hSa
        rw [hma]
        obtain ⟨k, hk, hT⟩ := ih (st.add a.1 a.2) (by
            show Up (max top a.1) t
            rw [Nat.max_eq_right (by omega)]
            exact hup.2) (by show st.en + nP (txt a.2) ≤ n; omega) (fun m' S' hg => by
            show m' ≤ a.1
            obtain ⟨g0, gm, gS, gp, -⟩ := getP_some hg
            have hen2 : st.en + nP (txt a.2) ≤ n := by omega
            obtain ⟨gb, gj⟩ := (pre_sec (e := st.en + nP (txt a.2)) hn hen2).1 gp
            have h1 := gj 0 (nP_pos S')
            have h2 := valid_leaf m' (pc (txt S') 0) gm (pc_length _ _)
            rw [← h1] at h2
            have h3 := nP_pos S'
            have := hold (st.en + nP (txt a.2) + 0) (by omega) m' g0 h2.1
            omega) (fun b hbm => hsz b (by simp [hbm])) (fun i hi1 hi2 m' g0 hv => by
            have hi1' : st.en + nP (txt a.2) ≤ i := hi1
            have h1 := hsrc i (by omega) hi2 m' g0 hv
            rw [lvs_hi a t (i - st.en) (by omega)] at h1
            show _ ∨ ∃ x, (lvs t)[i - (st.en + nP (txt a.2))]? = some x ∧ _
            rw [show i - (st.en + nP (txt a.2)) = i - st.en - nP (txt a.2) by omega]
            exact h1)
        refine ⟨k + 1, Nat.succ_le_succ hk, ?_⟩
        rw [hT, List.take_succ_cons, List.map_cons]
        show st.texts ++ [B a.2] ++ _ = _
        rw [List.append_assoc]; rfl
/-- Of a row that was begun anew, and perhaps not kept: just that sheaf, or an elder first stamp. -/
theorem openL_begin {l : List (List UInt8)} {n b : Nat} {S : List UInt8} (hn : n ≤ l.length) (h0 : b ≠ 0) (hS : S.length ≤ 98304)
    (hsrc : ∀ i, i < n → ∀ m, m ≠ 0 → Valid (sat l i) m → m < b ∨ (m = b ∧ mid (sat l i) = full (pc (txt S) i))) :
    (rowT ((l.take n).map B)).first ≤ b ∧ ((rowT ((l.take n).map B)).first = b → (rowT ((l.take n).map B)).texts = [B S]) := by
  have hval : ∀ (e m : Nat) (S' : List UInt8), e ≤ n → getP (((l.take n).map B).drop e) = some (m, S') → m ≠ 0 ∧ m ≤ b ∧ (m = b → ∀ j, j < nP (txt S') → full (pc (txt S') j) = full (pc (txt S) (e + j))) ∧ S'.length ≤ 98304 := by
    intro e m S' he hg
    obtain ⟨g0, gm, gS, gp, -⟩ := getP_some hg
    obtain ⟨gb, gj⟩ := (pre_sec hn he).1 gp
    have hP := nP_pos S'
    have hs : ∀ j, j < nP (txt S') → m < b ∨ (m = b ∧ full (pc (txt S') j) = full (pc (txt S) (e + j))) := fun j hj => by
      have hv := valid_leaf m (pc (txt S') j) gm (pc_length _ _)
      rw [← gj j hj] at hv
      rcases hsrc (e + j) (by omega) m g0 hv.1 with h | ⟨h1, h2⟩
      · exact .inl h
      · exact .inr ⟨h1, hv.2.symm.trans h2⟩
    refine ⟨g0, ?_, fun hmb j hj => ?_, gS⟩
    · rcases hs 0 hP with h | h <;> omega
    · rcases hs j hj with h | h
      · omega
      · exact h.2
  unfold rowT
  cases h : getP (((l.take n).map B).drop st0.en) with
  | none =>
    rw [openL_none h]
    exact ⟨Nat.zero_le _, fun e => absurd e.symm h0⟩
  | some p =>
    obtain ⟨m, S'⟩ := p
    obtain ⟨g0, g1, g2, g3⟩ := hval 0 m S' (Nat.zero_le _) h
    have hlast : st0.last < m := by show 0 < m; omega
    rw [openL_some h, if_pos hlast]
    have hf := openL_first (l := (l.take n).map B) _ (st0.add m S') (Nat.le_refl _) (by show m ≠ 0; exact g0)
    have hf2 : (st0.add m S').first = m := rfl
    rw [hf, hf2]
    refine ⟨g1, fun hmb => ?_⟩
    have hSS : S' = S := text_same g3 hS fun j hj => by
      have := g2 hmb j hj
      rw [Nat.zero_add] at this
      exact this
    subst hSS
    have hen : (st0.add m S').en ≤ n := by
      obtain ⟨-, -, -, gp, -⟩ := getP_some h
      obtain ⟨gb, -⟩ := (pre_sec (e := 0) hn (Nat.zero_le _)).1 gp
      show 0 + nP (txt S') ≤ n
      exact gb
    cases h2 : getP (((l.take n).map B).drop (st0.add m S').en) with
    | none => rw [openL_none h2]; rfl
    | some p =>
      obtain ⟨m2, S2⟩ := p
      obtain ⟨-, k1, -, -⟩ := hval _ m2 S2 hen h2
      rw [openL_some h2, if_neg (by show ¬ m < m2; omega)]
      rfl
end Go.Proofs.Ythbbdilcclepoaa.Pure
