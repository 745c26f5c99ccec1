import Derived.Test.YtnhgakmnkpjpdaaRQ
import Derived.Test.YtnhgakmnkpjpdaaQ2
import Derived.KernelRfl
import Derived.Test.YtnhgakmnkpjpdaaR7
/- Chapter 05, plain: what the document's row answers. -/
set_option linter.unusedVariables false
set_option linter.unusedSimpArgs false
namespace Go.Proofs.Ytnhgakmnkpjpdaa.Pure
open Go Go.RowKit Go.Proofs.Ytnhgakmnkpjpdaa.Q Go.Proofs.Ytnhgakmnkpjpdaa Go.Proofs.YtnhgakmnkpjpdaaW.PrintWords Go.Proofs.YtnhgakmnkpjpdaaW.PrintLast Go.Proofs.YtnhgakmnkpjpdaaW.PrintMore
/-- What the document's Put does. -/
def rput (l : List ByteArray) (a n : Nat) (S : ByteArray) : List ByteArray × Int :=
  if n ≤ topL l 0 then (l, 2) else if l.length - a < nP (txt S.data.toList) then (l, 6) else (splice l a (sheafL n S.data.toList), 0)
theorem B_self' (S : ByteArray) : B S.data.toList = S := by simp [B]
def zB : ByteArray := B (List.replicate 64 0)
end Go.Proofs.Ytnhgakmnkpjpdaa.Pure

/- A row on a drive without a fuse, plain: what a put writes. -/
set_option linter.unusedVariables false
set_option linter.unusedSimpArgs false
namespace Go.Proofs.Ytnhgakmnkpjpdaa.Pure
open Go Go.RowKit Go.Proofs.Ytnhgakmnkpjpdaa.Q Go.Proofs.Ytnhgakmnkpjpdaa Go.Proofs.YtnhgakmnkpjpdaaW.PrintWords Go.Proofs.YtnhgakmnkpjpdaaW.PrintLast Go.Proofs.YtnhgakmnkpjpdaaW.PrintMore
theorem padS_full (L : List UInt8) (h : L.length = 64) : padS (B L) = L := by
  unfold padS
  rw [B_data, h, List.take_of_length_le (by omega)]
  simp
theorem writeR_leaf (s : DS) (n : Nat) (L : List UInt8) (hL : L.length = 64) (hn : n < s.now.length) : writeR s (n : Int) (B L) = if s.fuse = some 0 then (s, 30) else ({ s with fuse := decF s.fuse, now := s.now.set n L, opn := s.opn ++ [(n, L)] }, 0) := by
  unfold writeR hasE
  rw [if_pos (by rw [if_pos (by omega)]), if_pos (by rw [B_size]; omega), padS_full L hL, Int.toNat_natCast]
  rfl
theorem splice_cons {α : Type} (l : List α) (n : Nat) (x : α) (m : List α) (hn : n < l.length) : splice l n (x :: m) = splice (l.set n x) (n + 1) m := by
  unfold splice
  rw [List.length_cons, List.take_set, List.drop_set_of_lt (by omega), show n + (m.length + 1) = n + 1 + m.length by omega]
  have e : (l.take (n + 1)).set n x = l.take n ++ [x] := by
    rw [List.take_succ_eq_append_getElem hn, List.set_append_right _ _ (by rw [List.length_take]; omega)]
    rw [List.length_take, Nat.min_eq_left (by omega), Nat.sub_self]
    rfl
  rw [e]
  simp
theorem splice_nil {α : Type} (l : List α) (n : Nat) : splice l n [] = l := by unfold splice; simp
/-- Without a fuse all is written. -/
theorem wl_free (Ls : List (List UInt8)) : ∀ (s : DS) (n : Nat), s.fuse = none → (∀ L ∈ Ls, L.length = 64) → n + Ls.length ≤ s.now.length →
    (wl s n (Ls.map B)).2 = 0 ∧ (wl s n (Ls.map B)).1.now = splice s.now n Ls ∧ (wl s n (Ls.map B)).1.fuse = none ∧ (wl s n (Ls.map B)).1.sure = s.sure := by
  induction Ls with
  | nil => intro s n hf _ _; exact ⟨rfl, (splice_nil _ _).symm, hf, rfl⟩
  | cons L Ls ih =>
    intro s n hf hL hn
    rw [List.length_cons] at hn
    have hw := writeR_leaf s n L (hL L (by simp)) (by omega)
    rw [if_neg (by rw [hf]; simp)] at hw
    have hd : decF s.fuse = none := by rw [hf]; rfl
    rw [hd] at hw
    have h2 := ih { s with fuse := none, now := s.now.set n L, opn := s.opn ++ [(n, L)] } (n + 1) rfl (fun X hX => hL X (by simp [hX])) (by rw [List.length_set]; omega)
    rw [List.map_cons, wl, hw, if_pos rfl]
    rw [splice_cons _ _ _ _ (by omega)]
    exact h2
def sheafB (n : Nat) (S : List UInt8) : List (List UInt8) := (List.range (nP (txt S))).map fun j => leafOf n (pc (txt S) j)
theorem sheafB_eq (n : Nat) (S : List UInt8) : (sheafB n S).map B = sheafL n S := by unfold sheafB sheafL; rw [List.map_map]; rfl
theorem sheafB_len (n : Nat) (S : List UInt8) : (sheafB n S).length = nP (txt S) := by unfold sheafB; rw [List.length_map, List.length_range]
theorem sheafB_64 (n : Nat) (S : List UInt8) : ∀ L ∈ sheafB n S, L.length = 64 := by
  intro L hL
  obtain ⟨j, -, rfl⟩ := List.mem_map.1 hL
  exact leafOf_length _ _ (pc_length _ _)
theorem rowSec_eq (s : DS) (fr mn : Nat) (h : fr + mn ≤ s.now.length) : rowSec s fr mn = ((s.now.drop fr).take mn).map B := by
  refine List.ext_getElem? fun j => ?_
  by_cases hj : j < mn
  · have e1 : (rowSec s fr mn)[j]? = some (readS s ((fr + j : Nat) : Int)) := by
      unfold rowSec
      rw [List.getElem?_map, List.getElem?_range hj]; rfl
    rw [e1, List.getElem?_map, List.getElem?_take, if_pos hj, List.getElem?_drop, List.getElem?_eq_getElem (by omega)]
    unfold readS
    rw [if_pos (by omega), Int.toNat_natCast, List.getD_eq_getElem?_getD, List.getElem?_eq_getElem (by omega)]
    rfl
  · rw [List.getElem?_eq_none (by rw [rowSec_len]; omega), List.getElem?_eq_none (by rw [List.length_map, List.length_take]; omega)]
theorem splice_window {α : Type} (l m : List α) (fr mn a : Nat) (ha : a + m.length ≤ mn) (hl : fr + mn ≤ l.length) : ((splice l (fr + a) m).drop fr).take mn = splice ((l.drop fr).take mn) a m := by
  refine List.ext_getElem? fun j => ?_
  unfold splice
  simp only [List.getElem?_take, List.getElem?_drop, List.getElem?_append, List.length_take, List.length_drop, List.length_append]
  by_cases h1 : j < mn
  · by_cases h2 : j < a
    · rw [if_pos h1, if_pos (by omega), if_pos (by omega), if_pos (by omega), if_pos (by omega), if_pos h1, if_pos (by omega), if_pos h2]
    · by_cases h3 : j < a + m.length
      · rw [if_pos h1, if_pos (by omega), if_neg (by omega), if_pos (by omega), if_neg (by omega)]
        congr 1; omega
      · rw [if_pos h1, if_neg (by omega), if_neg (by omega), if_pos (by omega)]
        congr 1; omega
  · rw [if_neg h1]
    split
    · omega
    · rw [if_neg (by omega)]
theorem rowSec_splice (s s' : DS) (fr mn a : Nat) (Ls : List (List UInt8)) (h : s'.now = splice s.now (fr + a) Ls) (ha : a + Ls.length ≤ mn) (hl : fr + mn ≤ s.now.length) : rowSec s' fr mn = splice (rowSec s fr mn) a (Ls.map B) := by
  have hl' : fr + mn ≤ s'.now.length := by rw [h, splice_len (by omega)]; exact hl
  rw [rowSec_eq s' fr mn hl', rowSec_eq s fr mn hl, h, splice_window _ _ _ _ _ ha hl]
  unfold splice
  rw [List.map_append, List.map_append, List.map_take, List.map_drop, List.length_map]
theorem openL_zero {l : List ByteArray} : ∀ (m : Nat) (st : TS), l.length - st.en ≤ m → (st.en = 0 ↔ st.last = 0) → ((openL l st).en = 0 ↔ (openL l st).last = 0) := by
  intro m
  induction m with
  | zero =>
    intro st hm h
    cases hg : getP (l.drop st.en) with
    | none => rw [openL_none hg]; exact h
    | some p =>
      have h2 := getP_len (n := p.1) (S := p.2) hg
      rw [List.length_drop] at h2
      omega
  | succ m ih =>
    intro st hm h
    cases hg : getP (l.drop st.en) with
    | none => rw [openL_none hg]; exact h
    | some p =>
      obtain ⟨n, S⟩ := p
      rw [openL_some hg]
      have h2 := getP_len hg
      rw [List.length_drop] at h2
      split
      · refine ih _ (by show l.length - (st.en + nP (txt S)) ≤ m; omega) ?_
        have h0 := (getP_some hg).1
        show st.en + nP (txt S) = 0 ↔ n = 0
        omega
      · exact h
theorem rowT_zero (l : List ByteArray) : (rowT l).en = 0 ↔ (rowT l).last = 0 := openL_zero _ st0 (Nat.le_refl _) ⟨fun _ => rfl, fun _ => rfl⟩
/-- A row's state is what its sectors tell. -/
structure Fit (s : DS) (r : RS) : Prop where
  lay : r.fr + r.mn ≤ s.now.length
  texts : r.texts = (rowT (rowSec s r.fr r.mn)).texts
  first : r.first = (rowT (rowSec s r.fr r.mn)).first
  en : r.en = (rowT (rowSec s r.fr r.mn)).en
  top : r.top = topL (rowSec s r.fr r.mn) 0
  down : r.down = false
theorem Fit.opened (s : DS) (fr mn : Nat) (h : fr + mn ≤ s.now.length) : Fit s (openRS s fr mn) := ⟨h, rfl, rfl, rfl, rfl, rfl⟩
/-- Without a fuse, put is the document's. -/
theorem Fit.put {s : DS} {r : RS} (h : Fit s r) (hf : s.fuse = none) (a st : Nat) (S : ByteArray) (hS : S.size ≤ 98304) (ha : a ≤ r.mn) :
    (putR s r a st S).e = (rput (rowSec s r.fr r.mn) a st S).2 ∧ rowSec (putR s r a st S).s r.fr r.mn = (rput (rowSec s r.fr r.mn) a st S).1 ∧ (putR s r a st S).s.fuse = none ∧ (putR s r a st S).s.sure = s.sure ∧
    (putR s r a st S).s.now.length = s.now.length ∧ (∀ k, k < r.fr ∨ r.fr + r.mn ≤ k → (putR s r a st S).s.now[k]? = s.now[k]?) ∧ ((putR s r a st S).e = 0 → (putR s r a st S).r = { r with top := st } ∧ r.top < st ∧ a + nP (txt S.data.toList) ≤ r.mn ∧ (putR s r a st S).n = nP (txt S.data.toList) ∧ rowSec (putR s r a st S).s r.fr r.mn = splice (rowSec s r.fr r.mn) a (sheafL st S.data.toList)) ∧ ((putR s r a st S).e ≠ 0 → (putR s r a st S).r = r ∧ (putR s r a st S).s = s) := by
  have hl := rowSec_len s r.fr r.mn
  unfold putR rput
  rw [if_neg (by rw [h.down]; decide), hl, ← h.top]
  by_cases c1 : st ≤ r.top
  · rw [if_pos c1, if_pos c1]
    exact ⟨rfl, rfl, hf, rfl, rfl, fun _ _ => rfl, fun e => absurd e (by show (2 : Int) ≠ 0; decide), fun _ => ⟨rfl, rfl⟩⟩
  rw [if_neg c1, if_neg c1, if_neg (by omega)]
  by_cases c2 : r.mn - a < nP (txt S.data.toList)
  · rw [if_pos c2, if_pos c2]
    exact ⟨rfl, rfl, hf, rfl, rfl, fun _ _ => rfl, fun e => absurd e (by show (6 : Int) ≠ 0; decide), fun _ => ⟨rfl, rfl⟩⟩
  rw [if_neg c2, if_neg c2]
  have hlay := h.lay
  have hwl := wl_free (sheafB st S.data.toList) s (r.fr + a) hf (sheafB_64 _ _) (by rw [sheafB_len]; omega)
  rw [sheafB_eq] at hwl
  obtain ⟨w1, w2, w3, w4⟩ := hwl
  rw [if_pos w1]
  have hsec := rowSec_splice s (wl s (r.fr + a) (sheafL st S.data.toList)).1 r.fr r.mn a (sheafB st S.data.toList) w2 (by rw [sheafB_len]; omega) hlay
  rw [sheafB_eq] at hsec
  refine ⟨rfl, hsec, w3, w4, ?_, fun k hk => ?_, fun _ => ⟨rfl, by omega, by omega, rfl, hsec⟩, fun e => absurd rfl e⟩
  · show (wl s (r.fr + a) (sheafL st S.data.toList)).1.now.length = _
    rw [w2, splice_len (by rw [sheafB_len]; omega)]
  · show (wl s (r.fr + a) (sheafL st S.data.toList)).1.now[k]? = _
    rw [w2]
    unfold splice
    have e := sheafB_len st S.data.toList
    rw [List.append_assoc]
    rcases hk with hk | hk
    · rw [List.getElem?_append_left (by rw [List.length_take]; omega), List.getElem?_take, if_pos (by omega)]
    · rw [List.getElem?_append_right (by rw [List.length_take]; omega), List.getElem?_append_right (by rw [List.length_take]; omega), List.getElem?_drop]
      congr 1
      rw [List.length_take]; omega
theorem Fit.add {s : DS} {r : RS} (h : Fit s r) (hf : s.fuse = none) (st : Nat) (S : ByteArray) (hS : S.size ≤ 98304) (hst : st < 18446744073709551616) :
    (addR s r st S).e = (rput (rowSec s r.fr r.mn) r.en st S).2 ∧ rowSec (addR s r st S).s r.fr r.mn = (rput (rowSec s r.fr r.mn) r.en st S).1 ∧ Fit (addR s r st S).s (addR s r st S).r ∧ (addR s r st S).s.fuse = none ∧
    (addR s r st S).r.fr = r.fr ∧ (addR s r st S).r.mn = r.mn ∧ (addR s r st S).s.now.length = s.now.length ∧ (∀ k, k < r.fr ∨ r.fr + r.mn ≤ k → (addR s r st S).s.now[k]? = s.now[k]?) := by
  have hen : r.en ≤ r.mn := by rw [h.en]; have := (rowT_ok (rowSec s r.fr r.mn)).en; rw [rowSec_len] at this; exact this
  obtain ⟨p1, p2, p3, p4, p5, p6, p7, p8⟩ := h.put hf r.en st S hS hen
  unfold addR
  by_cases c : (putR s r r.en st S).e = 0
  · rw [if_pos c]
    obtain ⟨q1, q2, q3, q4, q5⟩ := p7 c
    have hl := rowSec_len s r.fr r.mn
    have hT := rowT_add (l := rowSec s r.fr r.mn) (n := st) (S := S.data.toList) hst (by rw [Array.length_toList]; show S.size ≤ _; omega) (by rw [← h.top]; exact q2) (by rw [← h.en, hl]; exact q3)
    rw [← h.en, ← q5] at hT
    refine ⟨by rw [← p1, c], p2, ?_, p3, by rw [q1], by rw [q1], p5, p6⟩
    rw [q1]
    refine ⟨by show r.fr + r.mn ≤ (putR s r r.en st S).s.now.length; rw [p5]; exact h.lay, ?_, ?_, ?_, ?_, h.down⟩
    · show r.texts ++ [S] = (rowT (rowSec (putR s r r.en st S).s r.fr r.mn)).texts
      rw [hT, h.texts]
      show _ = (rowT (rowSec s r.fr r.mn)).texts ++ [B S.data.toList]
      rw [B_self']
    · show (if r.en = 0 then st else r.first) = (rowT (rowSec (putR s r r.en st S).s r.fr r.mn)).first
      rw [hT]
      show _ = if (rowT (rowSec s r.fr r.mn)).last = 0 then st else (rowT (rowSec s r.fr r.mn)).first
      rw [h.first]
      have hz := rowT_zero (rowSec s r.fr r.mn)
      rw [← h.en] at hz
      by_cases h0 : r.en = 0
      · rw [if_pos h0, if_pos (hz.1 h0)]
      · rw [if_neg h0, if_neg (fun e => h0 (hz.2 e))]
    · show r.en + (putR s r r.en st S).n = (rowT (rowSec (putR s r r.en st S).s r.fr r.mn)).en
      rw [hT, q4, h.en]; rfl
    · show st = topL (rowSec (putR s r r.en st S).s r.fr r.mn) 0
      rw [q5, top_splice hst (by rw [← h.top]; exact q2) (by rw [hl]; exact q3)]
  · rw [if_neg c]
    obtain ⟨q1, q2⟩ := p8 c
    exact ⟨p1, p2, by rw [q1, q2]; exact h, p3, by rw [q1], by rw [q1], p5, p6⟩
theorem Fit.begin {s : DS} {r : RS} (h : Fit s r) (hf : s.fuse = none) (st : Nat) (S : ByteArray) (hS : S.size ≤ 98304) (hst : st < 18446744073709551616) :
    (beginR s r st S).e = (rput (rowSec s r.fr r.mn) 0 st S).2 ∧ rowSec (beginR s r st S).s r.fr r.mn = (rput (rowSec s r.fr r.mn) 0 st S).1 ∧ Fit (beginR s r st S).s (beginR s r st S).r ∧ (beginR s r st S).s.fuse = none ∧
    (beginR s r st S).r.fr = r.fr ∧ (beginR s r st S).r.mn = r.mn ∧ (beginR s r st S).s.now.length = s.now.length ∧ (∀ k, k < r.fr ∨ r.fr + r.mn ≤ k → (beginR s r st S).s.now[k]? = s.now[k]?) := by
  obtain ⟨p1, p2, p3, p4, p5, p6, p7, p8⟩ := h.put hf 0 st S hS (Nat.zero_le _)
  unfold beginR
  by_cases c : (putR s r 0 st S).e = 0
  · rw [if_pos c]
    obtain ⟨q1, q2, q3, q4, q5⟩ := p7 c
    have hl := rowSec_len s r.fr r.mn
    have hT := rowT_begin (l := rowSec s r.fr r.mn) (n := st) (S := S.data.toList) hst (by rw [Array.length_toList]; show S.size ≤ _; omega) (by rw [← h.top]; exact q2) (by rw [hl]; omega)
    rw [← q5] at hT
    refine ⟨by rw [← p1, c], p2, ?_, p3, by rw [q1], by rw [q1], p5, p6⟩
    rw [q1]
    refine ⟨by show r.fr + r.mn ≤ (putR s r 0 st S).s.now.length; rw [p5]; exact h.lay, ?_, ?_, ?_, ?_, h.down⟩
    · show [S] = (rowT (rowSec (putR s r 0 st S).s r.fr r.mn)).texts
      rw [hT]
      show _ = [B S.data.toList]
      rw [B_self']
    · show st = (rowT (rowSec (putR s r 0 st S).s r.fr r.mn)).first
      rw [hT]
    · show (putR s r 0 st S).n = (rowT (rowSec (putR s r 0 st S).s r.fr r.mn)).en
      rw [hT, q4]
    · show st = topL (rowSec (putR s r 0 st S).s r.fr r.mn) 0
      rw [q5, top_splice hst (by rw [← h.top]; exact q2) (by rw [hl]; exact q3)]
  · rw [if_neg c]
    obtain ⟨q1, q2⟩ := p8 c
    exact ⟨p1, p2, by rw [q1, q2]; exact h, p3, by rw [q1], by rw [q1], p5, p6⟩
end Go.Proofs.Ytnhgakmnkpjpdaa.Pure
