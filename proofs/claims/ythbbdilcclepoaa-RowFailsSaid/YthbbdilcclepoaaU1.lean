/- Chapter 05, plain: a row on a drive that may fail. -/
import Derived.Test.YthbbdilcclepoaaU0
set_option linter.unusedVariables false
set_option linter.unusedSimpArgs false
namespace Go.Proofs.Ythbbdilcclepoaa.Pure
open Go Go.RowKit Go.Proofs.Ythbbdilcclepoaa.Q Go.Proofs.Ythbbdilcclepoaa Go.Proofs.YthbbdilcclepoaaW.PrintWords Go.Proofs.YthbbdilcclepoaaW.PrintLast Go.Proofs.YthbbdilcclepoaaW.PrintMore
def lf (x : Nat × List UInt8) : List UInt8 := leafOf x.1 x.2
theorem sheaf_lvs (st : Nat) (S : List UInt8) : sheafL st S = (lvs [(st, S)]).map fun x => B (lf x) := by
  unfold sheafL lvs
  rw [List.flatMap_cons, List.flatMap_nil, List.append_nil, List.map_map]; rfl
theorem lvs_one_len (st : Nat) (S : List UInt8) : (lvs [(st, S)]).length = nP (txt S) := by
  unfold lvs
  rw [List.flatMap_cons, List.flatMap_nil, List.append_nil, List.length_map, List.length_range]
theorem lvs_48 {adds : List (Nat × List UInt8)} {x : Nat × List UInt8} (h : x ∈ lvs adds) : x.2.length ≤ 48 := by
  obtain ⟨a, -, -, j, hj⟩ := lvs_mem h
  rw [hj]; exact pc_length _ _
/-- What is written of some leaves, whatever the fuse. -/
theorem wl_any (X : List (Nat × List UInt8)) : ∀ (s : DS) (n : Nat), (∀ x ∈ X, x.2.length ≤ 48) → n + X.length ≤ s.now.length →
    ∃ M, M ≤ X.length ∧ (wl s n (X.map fun x => B (lf x))).1.now = splice s.now n ((X.take M).map lf) ∧ (wl s n (X.map fun x => B (lf x))).1.opn = s.opn ++ posL n (X.take M) ∧ (wl s n (X.map fun x => B (lf x))).1.sure = s.sure ∧
      (((wl s n (X.map fun x => B (lf x))).2 = 0 ∧ M = X.length) ∨ (wl s n (X.map fun x => B (lf x))).2 = 30) := by
  induction X with
  | nil => intro s n _ _; exact ⟨0, Nat.le_refl _, (splice_nil _ _).symm, (List.append_nil _).symm, rfl, .inl ⟨rfl, rfl⟩⟩
  | cons x t ih =>
    intro s n hX hn
    rw [List.length_cons] at hn
    have hL : (lf x).length = 64 := leafOf_length _ _ (hX x (by simp))
    have hw := writeR_leaf s n (lf x) hL (by omega)
    rw [List.map_cons, wl, hw]
    by_cases c : s.fuse = some 0
    · rw [if_pos c, if_neg (show ¬ (30 : Int) = 0 by decide)]
      exact ⟨0, Nat.zero_le _, (splice_nil _ _).symm, (List.append_nil _).symm, rfl, .inr rfl⟩
    · rw [if_neg c, if_pos rfl]
      obtain ⟨M, h1, h2, h3, h4, h5⟩ := ih { s with fuse := decF s.fuse, now := s.now.set n (lf x), opn := s.opn ++ [(n, lf x)] } (n + 1) (fun y hy => hX y (by simp [hy])) (by show _ ≤ (s.now.set n (lf x)).length; rw [List.length_set]; omega)
      refine ⟨M + 1, Nat.succ_le_succ h1, ?_, ?_, h4, h5.imp (fun q => ⟨q.1, by rw [q.2, List.length_cons]⟩) id⟩
      · rw [h2, List.take_succ_cons, List.map_cons, splice_cons _ _ _ _ (by omega)]
      · rw [h3, List.take_succ_cons, posL]
        show s.opn ++ [(n, lf x)] ++ _ = _
        rw [List.append_assoc]; rfl
/-- What a put does, whatever the fuse. -/
theorem putR_any {s : DS} {r : RS} (h : Fit s r) (a st : Nat) (S : ByteArray) (hS : S.size ≤ 3000) (ha : a ≤ r.mn) :
    ((putR s r a st S).e ≠ 0 ∧ (putR s r a st S).e ≠ 30 ∧ (putR s r a st S).s = s ∧ (putR s r a st S).r = r) ∨
    (r.top < st ∧ a + nP (txt S.data.toList) ≤ r.mn ∧ ∃ M, M ≤ nP (txt S.data.toList) ∧ (putR s r a st S).s.now = splice s.now (r.fr + a) (((lvs [(st, S.data.toList)]).take M).map lf) ∧ (putR s r a st S).s.opn = s.opn ++ posL (r.fr + a) ((lvs [(st, S.data.toList)]).take M) ∧ (putR s r a st S).s.sure = s.sure ∧
      (((putR s r a st S).e = 0 ∧ M = nP (txt S.data.toList) ∧ (putR s r a st S).r = { r with top := st } ∧ (putR s r a st S).n = nP (txt S.data.toList)) ∨ ((putR s r a st S).e = 30 ∧ (putR s r a st S).r = { r with down := true }))) := by
  unfold putR
  rw [if_neg (by rw [h.down]; decide)]
  by_cases c1 : st ≤ r.top
  · rw [if_pos c1]
    exact .inl ⟨by show (2 : Int) ≠ 0; decide, by show (2 : Int) ≠ 30; decide, rfl, rfl⟩
  rw [if_neg c1, if_neg (by omega)]
  by_cases c2 : r.mn - a < nP (txt S.data.toList)
  · rw [if_pos c2]
    exact .inl ⟨by show (6 : Int) ≠ 0; decide, by show (6 : Int) ≠ 30; decide, rfl, rfl⟩
  rw [if_neg c2]
  have hlay := h.lay
  obtain ⟨M, h1, h2, h3, h4, h5⟩ := wl_any (lvs [(st, S.data.toList)]) s (r.fr + a) (fun x hx => lvs_48 hx) (by rw [lvs_one_len]; omega)
  rw [← sheaf_lvs] at h2 h3 h4 h5
  rw [lvs_one_len] at h1 h5
  refine .inr ⟨by omega, by omega, M, h1, ?_⟩
  rcases h5 with ⟨e, hM⟩ | e
  · rw [if_pos e]
    exact ⟨h2, h3, h4, .inl ⟨rfl, hM, rfl, rfl⟩⟩
  · rw [if_neg (by rw [e]; decide)]
    refine ⟨h2, h3, h4, .inr ⟨e, ?_⟩⟩
    show { r with down := (wl s (r.fr + a) (sheafL st S.data.toList)).2 == 30 } = _
    rw [e]; rfl
/-- Where all was written, an added row is what its sectors tell. -/
theorem Fit.added {s s' : DS} {r : RS} (h : Fit s r) (st : Nat) (S : ByteArray) (hS : S.size ≤ 3000) (hst : st < 18446744073709551616) (ht : r.top < st) (hroom : r.en + nP (txt S.data.toList) ≤ r.mn)
    (hnow : s'.now = splice s.now (r.fr + r.en) ((lvs [(st, S.data.toList)]).map lf)) :
    Fit s' { r with top := st, first := if r.en = 0 then st else r.first, texts := r.texts ++ [S], en := r.en + nP (txt S.data.toList) } := by
  have hl := rowSec_len s r.fr r.mn
  have hlen : ((lvs [(st, S.data.toList)]).map lf).length = nP (txt S.data.toList) := by rw [List.length_map, lvs_one_len]
  have hlay := h.lay
  have hsec := rowSec_splice s s' r.fr r.mn r.en _ hnow (by rw [hlen]; exact hroom) h.lay
  rw [List.map_map] at hsec
  have e : (B ∘ lf) = fun x => B (lf x) := rfl
  rw [e, ← sheaf_lvs] at hsec
  have hT := rowT_add (l := rowSec s r.fr r.mn) (n := st) (S := S.data.toList) hst (by rw [Array.length_toList]; show S.size ≤ _; omega) (by rw [← h.top]; exact ht) (by rw [← h.en, hl]; exact hroom)
  rw [← h.en, ← hsec] at hT
  refine ⟨by show r.fr + r.mn ≤ s'.now.length; rw [hnow, splice_len (by rw [hlen]; omega)]; exact h.lay, ?_, ?_, ?_, ?_, h.down⟩
  · show r.texts ++ [S] = (rowT (rowSec s' r.fr r.mn)).texts
    rw [hT, h.texts]
    show _ = (rowT (rowSec s r.fr r.mn)).texts ++ [B S.data.toList]
    rw [B_self']
  · show (if r.en = 0 then st else r.first) = (rowT (rowSec s' r.fr r.mn)).first
    rw [hT]
    show _ = if (rowT (rowSec s r.fr r.mn)).last = 0 then st else (rowT (rowSec s r.fr r.mn)).first
    rw [h.first]
    have hz := rowT_zero (rowSec s r.fr r.mn)
    rw [← h.en] at hz
    by_cases h0 : r.en = 0
    · rw [if_pos h0, if_pos (hz.1 h0)]
    · rw [if_neg h0, if_neg (fun e => h0 (hz.2 e))]
  · show r.en + nP (txt S.data.toList) = (rowT (rowSec s' r.fr r.mn)).en
    rw [hT, h.en]; rfl
  · show st = topL (rowSec s' r.fr r.mn) 0
    rw [hsec, top_splice hst (by rw [← h.top]; exact ht) (by rw [hl]; exact hroom)]
theorem Fit.begun {s s' : DS} {r : RS} (h : Fit s r) (st : Nat) (S : ByteArray) (hS : S.size ≤ 3000) (hst : st < 18446744073709551616) (ht : r.top < st) (hroom : 0 + nP (txt S.data.toList) ≤ r.mn)
    (hnow : s'.now = splice s.now (r.fr + 0) ((lvs [(st, S.data.toList)]).map lf)) :
    Fit s' { r with top := st, first := st, texts := [S], en := nP (txt S.data.toList) } := by
  have hl := rowSec_len s r.fr r.mn
  have hlen : ((lvs [(st, S.data.toList)]).map lf).length = nP (txt S.data.toList) := by rw [List.length_map, lvs_one_len]
  have hlay := h.lay
  have hsec := rowSec_splice s s' r.fr r.mn 0 _ hnow (by rw [hlen]; exact hroom) h.lay
  rw [List.map_map] at hsec
  have e : (B ∘ lf) = fun x => B (lf x) := rfl
  rw [e, ← sheaf_lvs] at hsec
  have hT := rowT_begin (l := rowSec s r.fr r.mn) (n := st) (S := S.data.toList) hst (by rw [Array.length_toList]; show S.size ≤ _; omega) (by rw [← h.top]; exact ht) (by rw [hl]; omega)
  rw [← hsec] at hT
  refine ⟨by show r.fr + r.mn ≤ s'.now.length; rw [hnow, splice_len (by rw [hlen]; omega)]; exact h.lay, ?_, ?_, ?_, ?_, h.down⟩
  · show [S] = (rowT (rowSec s' r.fr r.mn)).texts
    rw [hT]
    show _ = [B S.data.toList]
    rw [B_self']
  · show st = (rowT (rowSec s' r.fr r.mn)).first
    rw [hT]
  · show nP (txt S.data.toList) = (rowT (rowSec s' r.fr r.mn)).en
    rw [hT]
  · show st = topL (rowSec s' r.fr r.mn) 0
    rw [hsec, top_splice hst (by rw [← h.top]; exact ht) (by rw [hl]; omega)]
end Go.Proofs.Ythbbdilcclepoaa.Pure
