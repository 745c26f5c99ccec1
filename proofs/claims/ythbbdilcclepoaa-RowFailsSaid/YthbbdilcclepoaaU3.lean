/- Chapter 05, plain: a row on a drive that may fail: its steps. -/
import Derived.Test.YthbbdilcclepoaaU2
import Derived.Test.YthbbdilcclepoaaQ6
set_option linter.unusedVariables false
set_option linter.unusedSimpArgs false
namespace Go.Proofs.Ythbbdilcclepoaa.Pure
open Go Go.RowKit Go.Proofs.Ythbbdilcclepoaa.Q Go.Proofs.Ythbbdilcclepoaa Go.Proofs.YthbbdilcclepoaaW.PrintWords Go.Proofs.YthbbdilcclepoaaW.PrintLast Go.Proofs.YthbbdilcclepoaaW.PrintMore
theorem sat_splice {l X : List (List UInt8)} {a i : Nat} (h : a + X.length ≤ l.length) : sat (splice l a X) i = sat l i ∨ sat (splice l a X) i ∈ X := by
  have hg : (splice l a X)[i]? = if i < a then l[i]? else if i < a + X.length then X[i - a]? else l[i]? := by
    unfold splice
    by_cases h1 : i < a
    · rw [if_pos h1, List.append_assoc, List.getElem?_append_left (by rw [List.length_take]; omega), List.getElem?_take, if_pos h1]
    · rw [if_neg h1]
      by_cases h2 : i < a + X.length
      · rw [if_pos h2, List.append_assoc, List.getElem?_append_right (by rw [List.length_take]; omega), List.length_take, Nat.min_eq_left (by omega), List.getElem?_append_left (by omega)]
      · rw [if_neg h2, List.getElem?_append_right (by rw [List.length_append, List.length_take]; omega), List.getElem?_drop]
        congr 1
        rw [List.length_append, List.length_take]; omega
  unfold sat
  rw [List.getD_eq_getElem?_getD, List.getD_eq_getElem?_getD, hg]
  split
  · exact .inl rfl
  · split
    · rename_i h1 h2
      rw [List.getElem?_eq_getElem (by omega)]
      exact .inr (List.getElem_mem _)
    · exact .inl rfl
theorem sound_leaf {adds : List (Nat × List UInt8)} (hz : ∀ a ∈ adds, a.1 < 18446744073709551616) {L : List UInt8} (h : L ∈ (lvs adds).map lf) : Sound L := by
  obtain ⟨u, hu, rfl⟩ := List.mem_map.1 h
  obtain ⟨a, ha, hae, -⟩ := lvs_mem hu
  have h1 := lvs_48 hu
  have h2 : u.1 < 18446744073709551616 := by rw [hae]; exact hz a ha
  exact ⟨leafOf_length _ _ h1, by unfold lf; rw [leafOf_foot _ _ h1 h2, leafOf_head _ _ h1 h2]; exact Nat.le_refl _⟩
theorem T0_eq {s s' : DS} (h : s'.sure = s.sure) (n : Nat) : T0 s' n = T0 s n ∧ secS s' n = secS s n := by unfold T0 secS; rw [h]; exact ⟨rfl, rfl⟩
theorem Hope.add {n : Nat} {s : DS} {r : RS} {adds : List (Nat × List UInt8)} (h : Hope n s r adds) (st : Nat) (S : ByteArray) (hS : S.size ≤ 3000) (hst : st < 18446744073709551616) :
    ((addR s r st S).e = 0 ∧ Hope n (addR s r st S).s (addR s r st S).r (adds ++ [(st, S.data.toList)])) ∨ ((addR s r st S).e = 30 ∧ (addR s r st S).r.down = true ∧ (addR s r st S).r.top = r.top ∧ Loose n (addR s r st S).s (adds ++ [(st, S.data.toList)])) ∨
    ((addR s r st S).e ≠ 0 ∧ (addR s r st S).e ≠ 30 ∧ (addR s r st S).s = s ∧ (addR s r st S).r = r) := by
  have hn := h.n1
  have hen : r.en ≤ r.mn := by rw [h.at_.2, h.en]; exact h.room
  unfold addR
  rcases putR_any h.fit r.en st S hS hen with ⟨e1, e2, e3, e4⟩ | ⟨ht, hroom, M, hM, hnow, hopn, hsure, hres⟩
  · rw [if_neg e1]
    exact .inr (.inr ⟨e1, e2, e3, e4⟩)
  have hT := T0_eq hsure n
  have hroom2 : (T0 s n).en + (lvs (adds ++ [(st, S.data.toList)])).length ≤ n := by
    rw [lvs_append, List.length_append, lvs_one_len]
    rw [h.at_.2, h.en] at hroom
    omega
  have hup2 : Up (topL (secS s n) 0) (adds ++ [(st, S.data.toList)]) := h.up.snoc (by have := h.top.1; show _ < st; omega) (fun b hb => by have := h.top.2 b hb; show b.1 < st; omega)
  have hsz2 : ∀ a ∈ adds ++ [(st, S.data.toList)], a.2.length ≤ 98304 ∧ a.1 < 18446744073709551616 := fun a ha => by
    rcases List.mem_append.1 ha with q | q
    · exact h.sz a q
    · rw [List.mem_singleton.1 q]
      exact ⟨by rw [Array.length_toList]; show S.size ≤ _; omega, hst⟩
  have hopn2 : (putR s r r.en st S).s.opn = posL (T0 s n).en ((lvs (adds ++ [(st, S.data.toList)])).take ((lvs adds).length + M)) := by
    rw [hopn, h.opn, h.at_.1, h.en, Nat.zero_add, ← posL_append, lvs_append, List.take_append, List.take_of_length_le (Nat.le_add_right _ _), Nat.add_sub_cancel_left]
  rcases hres with ⟨he, hMe, hr, hnn⟩ | ⟨he, hr⟩
  · rw [if_pos he]
    refine .inl ⟨rfl, ?_⟩
    have hfull : (lvs [(st, S.data.toList)]).take M = lvs [(st, S.data.toList)] := List.take_of_length_le (by rw [lvs_one_len, hMe]; exact Nat.le_refl _)
    rw [hfull] at hnow
    have hf := h.fit.added st S hS hst ht hroom hnow
    rw [hr, hnn]
    have hXl : r.fr + r.en + ((lvs [(st, S.data.toList)]).map lf).length ≤ s.now.length := by
      rw [List.length_map, lvs_one_len, h.nlen, h.at_.1]
      rw [h.at_.2] at hroom
      omega
    refine ⟨hn, hf, h.at_, by rw [hsure]; exact h.slen, ?_, by rw [hsure]; exact h.sound, fun i hi => ?_, ?_, by rw [hT.1]; exact hroom2, ?_, by rw [hT.2]; exact hup2, ⟨by rw [hT.2]; have := h.top.1; show _ ≤ st; omega, fun a ha => ?_⟩, hsz2⟩
    · show (putR s r r.en st S).s.now.length = 16
      rw [hnow, splice_len hXl]; exact h.nlen
    · show Sound (sat (putR s r r.en st S).s.now i)
      rw [hnow]
      rcases sat_splice (i := i) hXl with q | q
      · rw [q]; exact h.nsound i hi
      · exact sound_leaf (fun a ha => by rw [List.mem_singleton.1 ha]; exact hst) q
    · show (putR s r r.en st S).s.opn = _
      rw [hopn2, hT.1, hMe, List.take_of_length_le (by rw [lvs_append, List.length_append, lvs_one_len]; exact Nat.le_refl _)]
    · show r.en + nP (txt S.data.toList) = _
      rw [hT.1, h.en, lvs_append, List.length_append, lvs_one_len]; omega
    · show a.1 ≤ st
      rcases List.mem_append.1 ha with q | q
      · have := h.top.2 a q; omega
      · rw [List.mem_singleton.1 q]; exact Nat.le_refl _
  · rw [if_neg (by rw [he]; decide)]
    refine .inr (.inl ⟨he, by rw [hr], by rw [hr], ?_⟩)
    exact ⟨hn, by rw [hsure]; exact h.slen, by rw [hsure]; exact h.sound, ⟨_, by rw [hT.1]; exact hopn2⟩, by rw [hT.1]; exact hroom2, by rw [hT.2]; exact hup2, hsz2⟩
/-- A row that has just been begun anew. -/
structure Begun (n : Nat) (s : DS) (r : RS) (b : Nat) (S : ByteArray) : Prop where
  n1 : 1 ≤ n ∧ n ≤ 16
  fit : Fit s r
  at_ : r.fr = 0 ∧ r.mn = n
  nlen : s.now.length = 16
  nsound : ∀ i, i < 16 → Sound (sat s.now i)
  texts : r.texts = [S]
  loose : Loose2 n s b S.data.toList
theorem Hope.begin {n : Nat} {s : DS} {r : RS} {adds : List (Nat × List UInt8)} (h : Hope n s r adds) (st : Nat) (S : ByteArray) (hS : S.size ≤ 3000) (hst : st < 18446744073709551616) :
    ((beginR s r st S).e = 0 ∧ 0 < st ∧ Begun n (beginR s r st S).s (beginR s r st S).r st S) ∨ ((beginR s r st S).e = 30 ∧ 0 < st ∧ (beginR s r st S).r.down = true ∧ (beginR s r st S).r.top = r.top ∧ Loose2 n (beginR s r st S).s st S.data.toList) ∨
    ((beginR s r st S).e ≠ 0 ∧ (beginR s r st S).e ≠ 30 ∧ (beginR s r st S).s = s ∧ (beginR s r st S).r = r) := by
  have hn := h.n1
  unfold beginR
  rcases putR_any h.fit 0 st S hS (Nat.zero_le _) with ⟨e1, e2, e3, e4⟩ | ⟨ht, hroom, M, hM, hnow, hopn, hsure, hres⟩
  · rw [if_neg e1]
    exact .inr (.inr ⟨e1, e2, e3, e4⟩)
  have hT := T0_eq hsure n
  have hl2 : Loose2 n (putR s r 0 st S).s st S.data.toList :=
    ⟨hn, by rw [hsure]; exact h.slen, by rw [hsure]; exact h.sound, ⟨adds, M, by rw [hopn, h.opn, h.at_.1, hT.1], by rw [hT.1]; exact h.room, by rw [hT.2]; exact h.up, fun a ha => by have := h.top.2 a ha; omega⟩,
      by rw [h.at_.2] at hroom; omega, by rw [hT.2]; have := h.top.1; omega, ⟨by rw [Array.length_toList]; show S.size ≤ _; omega, hst⟩⟩
  rcases hres with ⟨he, hMe, hr, hnn⟩ | ⟨he, hr⟩
  · rw [if_pos he]
    refine .inl ⟨rfl, by omega, ?_⟩
    have hfull : (lvs [(st, S.data.toList)]).take M = lvs [(st, S.data.toList)] := List.take_of_length_le (by rw [lvs_one_len, hMe]; exact Nat.le_refl _)
    rw [hfull] at hnow
    have hf := h.fit.begun st S hS hst ht hroom hnow
    rw [hr, hnn]
    have hXl : r.fr + 0 + ((lvs [(st, S.data.toList)]).map lf).length ≤ s.now.length := by
      rw [List.length_map, lvs_one_len, h.nlen, h.at_.1]
      rw [h.at_.2] at hroom
      omega
    refine ⟨hn, hf, h.at_, ?_, fun i hi => ?_, rfl, hl2⟩
    · show (putR s r 0 st S).s.now.length = 16
      rw [hnow, splice_len hXl]; exact h.nlen
    · show Sound (sat (putR s r 0 st S).s.now i)
      rw [hnow]
      rcases sat_splice (i := i) hXl with q | q
      · rw [q]; exact h.nsound i hi
      · exact sound_leaf (fun a ha => by rw [List.mem_singleton.1 ha]; exact hst) q
  · rw [if_neg (by rw [he]; decide)]
    exact .inr (.inl ⟨he, by omega, by rw [hr], by rw [hr], hl2⟩)
theorem sync_hope {n : Nat} {s : DS} {r : RS} (hn : 1 ≤ n ∧ n ≤ 16) (hf : Fit s r) (ha : r.fr = 0 ∧ r.mn = n) (hl : s.now.length = 16) (hq : ∀ i, i < 16 → Sound (sat s.now i)) :
    ((syncR s).2 = 0 ∧ Hope n (syncR s).1 r [] ∧ (T0 (syncR s).1 n).texts = r.texts) ∨ syncR s = (s, 30) := by
  unfold syncR
  by_cases c : s.fuse = some 0
  · rw [if_pos c]; exact .inr rfl
  rw [if_neg c]
  refine .inl ⟨rfl, ?_⟩
  obtain ⟨s', hs'⟩ : ∃ s', s' = syncS { s with fuse := decF s.fuse } := ⟨_, rfl⟩
  show Hope n (syncS { s with fuse := decF s.fuse }) r [] ∧ (T0 (syncS { s with fuse := decF s.fuse }) n).texts = r.texts
  rw [← hs']
  have e1 : s'.now = s.now := by rw [hs']; rfl
  have e2 : s'.sure = s.now := by rw [hs']; rfl
  have e3 : s'.opn = [] := by rw [hs']; rfl
  have hrow : rowSec s r.fr r.mn = secS s' n := by
    rw [ha.1, ha.2, rowSec_zero hl hn.2]; unfold secS; rw [e2]
  have hT : T0 s' n = rowT (rowSec s r.fr r.mn) := by unfold T0; rw [hrow]
  have hrow2 : rowSec s' r.fr r.mn = rowSec s r.fr r.mn := by unfold rowSec readS; rw [e1]
  have ht := (rowT_ok (secS s' n)).en
  rw [secS_len (by rw [e2]; exact hl) hn.2] at ht
  have hfen := hf.en
  have hftop := hf.top
  refine ⟨⟨hn, ⟨by rw [e1]; exact hf.lay, by rw [hrow2]; exact hf.texts, by rw [hrow2]; exact hf.first, by rw [hrow2]; exact hf.en, by rw [hrow2]; exact hf.top, hf.down⟩, ha, by rw [e2]; exact hl, by rw [e1]; exact hl, by rw [e2]; exact hq, by rw [e1]; exact hq, e3, ht, ?_, trivial, ⟨?_, fun a h => by cases h⟩, fun a h => by cases h⟩, ?_⟩
  · rw [hT, ← hfen]; rfl
  · rw [← hrow, ← hftop]; exact Nat.le_refl _
  · rw [hT]; exact hf.texts.symm
theorem Hope.sync {n : Nat} {s : DS} {r : RS} {adds : List (Nat × List UInt8)} (h : Hope n s r adds) : ((syncR s).2 = 0 ∧ Hope n (syncR s).1 r [] ∧ (T0 (syncR s).1 n).texts = r.texts) ∨ syncR s = (s, 30) := sync_hope h.n1 h.fit h.at_ h.nlen h.nsound
theorem Begun.sync {n : Nat} {s : DS} {r : RS} {b : Nat} {S : ByteArray} (h : Begun n s r b S) : ((syncR s).2 = 0 ∧ Hope n (syncR s).1 r [] ∧ (T0 (syncR s).1 n).texts = [S]) ∨ syncR s = (s, 30) := by
  have := sync_hope h.n1 h.fit h.at_ h.nlen h.nsound
  rw [h.texts] at this
  exact this
theorem wl_sure (l : List ByteArray) : ∀ (s : DS) (n : Nat), (wl s n l).1.sure = s.sure := by
  induction l with
  | nil => intro s n; rfl
  | cons b l ih =>
    intro s n
    have hw : (writeR s n b).1.sure = s.sure := by
      unfold writeR wrR
      split
      · split
        · split <;> rfl
        · rfl
      · rfl
    rw [wl]
    split
    · rw [ih, hw]
    · exact hw
theorem putR_sure (s : DS) (r : RS) (a st : Nat) (S : ByteArray) : (putR s r a st S).s.sure = s.sure := by
  unfold putR
  split
  · rfl
  split
  · rfl
  split
  · rfl
  split
  · rfl
  split <;> exact wl_sure _ _ _
theorem addR_sure (s : DS) (r : RS) (st : Nat) (S : ByteArray) : (addR s r st S).s.sure = s.sure := by
  unfold addR
  split <;> exact putR_sure _ _ _ _ _
/-- A row that is down refuses. -/
theorem addR_down {s : DS} {r : RS} (h : r.down = true) (st : Nat) (S : ByteArray) : addR s r st S = ⟨s, r, 30⟩ := by
  have hp : ∀ a, putR s r a st S = ⟨s, r, 0, 30⟩ := fun a => by unfold putR; rw [if_pos h]
  unfold addR
  rw [hp, if_neg (show ¬ (30 : Int) = 0 by decide)]
theorem beginR_down {s : DS} {r : RS} (h : r.down = true) (st : Nat) (S : ByteArray) : beginR s r st S = ⟨s, r, 30⟩ := by
  have hp : ∀ a, putR s r a st S = ⟨s, r, 0, 30⟩ := fun a => by unfold putR; rw [if_pos h]
  unfold beginR
  rw [hp, if_neg (show ¬ (30 : Int) = 0 by decide)]
theorem Begins_f (K : Nat) (now had more : List ByteArray) (k : Nat) (hk : k ≤ more.length) (h : now = had ++ more.take k) (hh : had.length ≤ 1000) (hm : more.length ≤ 1000) (hK : 8000 ≤ K) : quittanceref05_Begins.f K now had more = some true := by
  have hl : now.length = had.length + k := by rw [h, List.length_append, List.length_take]; omega
  have hw : wrap64 ((had.length : Int) + (more.length : Int)) = ((had.length + more.length : Nat) : Int) := by unfold wrap64; omega
  unfold quittanceref05_Begins.f
  rw [hw, if_neg (by omega), if_neg (by omega), Option.bind_some, if_pos (by simp; omega), Option.bind_some, if_pos (by simp; omega), Option.bind_some, if_pos (by omega), if_pos (by simp; omega), List.nil_append, Int.toNat_natCast]
  have e : (had ++ more).take now.length = now := by
    rw [hl, List.take_append, List.take_of_length_le (Nat.le_add_right _ _), Nat.add_sub_cancel_left]
    exact h.symm
  rw [e, Same_f K now (by omega) (by omega)]
  rfl
end Go.Proofs.Ythbbdilcclepoaa.Pure
