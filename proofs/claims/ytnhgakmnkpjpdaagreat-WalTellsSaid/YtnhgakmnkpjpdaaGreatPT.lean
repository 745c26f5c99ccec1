import Derived.Test.YtnhgakmnkpjpdaaGreatH3
import Derived.Test.YtnhgakmnkpjpdaaGreatH4
import Derived.Test.YtnhgakmnkpjpdaaGreatPB
import Derived.Test.YtnhgakmnkpjpdaaGreatQ2
import Derived.Test.YtnhgakmnkpjpdaaGreatRT
/- Rows of texts of the package tally and of the document: what the printed functions answer, plain. -/
set_option linter.unusedVariables false
set_option linter.unusedSimpArgs false
namespace Go.Proofs.YtnhgakmnkpjpdaaGreat.Pure
open Go Go.RowKit Go.Proofs.YtnhgakmnkpjpdaaGreat.Q Go.Proofs.YtnhgakmnkpjpdaaGreatW.PrintWords Go.Proofs.YtnhgakmnkpjpdaaGreatW.PrintLast Go.Proofs.YtnhgakmnkpjpdaaGreatW.PrintMore
/-- So many texts, one behind the other. -/
def takeM : Nat → List UInt8 → Option (List (List UInt8) × List UInt8)
  | 0, L => some ([], L)
  | n + 1, L => match takeT L with
    | some (s, r) => (match takeM n r with | some (l, t) => some (s :: l, t) | none => none)
    | none => none
theorem some_eq (n : Nat) : ∀ (L : List UInt8) (acc : List ByteArray), okN L → acc.length + L.length < 8796093022208 →
    some_f n (B L) acc = some (match takeM n L with | some (l, t) => (acc ++ l.map B, B t, true) | none => ([], B [], false)) := by
  induction n with
  | zero => intro L acc _ _; simp [some_f, takeM]
  | succ n ih =>
    intro L acc hL hl
    rw [some_f, TakeText_eq hL, takeM]
    cases ht : takeT L with
    | none => rfl
    | some x =>
      obtain ⟨s, r⟩ := x
      have h2 := takeT_len ht
      simp only [Option.bind_some]
      rw [if_true, if_pos (by omega), ih r (acc ++ [B s]) (by unfold okN at *; omega) (by rw [List.length_append, List.length_singleton]; omega)]
      cases hm : takeM n r with
      | none => rfl
      | some y =>
        obtain ⟨l, t⟩ := y
        simp
/-- A row, and what is left. -/
def takeR (L : List UInt8) : Option (List (List UInt8) × List UInt8) :=
  match takeN L with
  | some (n, r) => takeM n r
  | none => none
theorem takeR_eq {L : List UInt8} {n : Nat} {r : List UInt8} (h : takeN L = some (n, r)) : takeR L = takeM n r := by unfold takeR; rw [h]
theorem takeR_none {L : List UInt8} (h : takeN L = none) : takeR L = none := by unfold takeR; rw [h]
theorem TakeRow_eq {L : List UInt8} (hL : L.length < 8796093022208) : tally_TakeRow.f (B L) = some (match takeR L with | some (l, t) => (l.map B, B t, true) | none => ([], B [], false)) := by
  unfold tally_TakeRow.f
  have hN : okN L := by unfold okN; omega
  cases hn : takeN L with
  | none =>
    rw [TakeNum_none hN hn, takeR_none hn]
    rfl
  | some x =>
    obtain ⟨n, l⟩ := x
    have h2 := takeN_len hn
    rw [TakeNum_some hN hn, takeR_eq hn]
    simp only [Option.bind_some]
    rw [if_true, Int.toNat_natCast, some_eq n l [] (by unfold okN; omega) (by rw [List.length_nil]; omega)]
    simp
theorem textL_B (s : List UInt8) : textL (B s) = tnum s.length ++ s := by unfold textL; rw [B_size, B_data]
theorem textsL_cons (s : List UInt8) (l : List (List UInt8)) : textsL ((s :: l).map B) = (tnum s.length ++ s) ++ textsL (l.map B) := by
  unfold textsL
  rw [List.map_cons, List.map_cons, List.flatten_cons, textL_B]
theorem rowL_map (l : List (List UInt8)) : rowL (l.map B) = tnum l.length ++ textsL (l.map B) := by unfold rowL; rw [List.length_map]
theorem takeM_back (l : List (List UInt8)) (t : List UInt8) (hl : ∀ s ∈ l, s.length < 18446744073709551616) : takeM l.length (textsL (l.map B) ++ t) = some (l, t) := by
  induction l with
  | nil => rfl
  | cons s l ih =>
    rw [List.length_cons, takeM, textsL_cons, List.append_assoc, takeT_back s _ (hl s (List.mem_cons_self ..))]
    simp only
    rw [ih (fun s hs => hl s (List.mem_cons_of_mem _ hs))]
theorem takeR_back (l : List (List UInt8)) (t : List UInt8) (h0 : l.length < 18446744073709551616) (hl : ∀ s ∈ l, s.length < 18446744073709551616) : takeR (rowL (l.map B) ++ t) = some (l, t) := by
  rw [rowL_map, List.append_assoc, takeR_eq (takeN_tnum _ h0 _)]
  exact takeM_back l t hl
/-- What is answered of bytes whose row is taken. -/
def resR (L : List UInt8) : List ByteArray × ByteArray × Bool :=
  match takeR L with
  | some (l, t) => (l.map B, B t, true)
  | none => ([], B [], false)
theorem TakeRow_res {L : List UInt8} (hL : L.length < 8796093022208) : tally_TakeRow.f (B L) = some (resR L) := TakeRow_eq hL
theorem rtr (d : Nat) : ∀ (k m : Nat) (L : List UInt8) (acc : List ByteArray), L.length ≤ d → d ≤ 3000 → acc.length + d ≤ 3001 → acc.length + m < 18446744073709551616 →
    quittanceref01_TakeRow.l0 (k + 7000 + d + 2) ((acc.length + m : Nat) : Int) (B L) true acc = some (match takeM m L with | some (l, t) => (acc ++ l.map B, B t, true) | none => ([], B [], false)) := by
  induction d with
  | zero =>
    intro k m L acc hL hd ha hn
    have hL0 : L = [] := List.eq_nil_of_length_eq_zero (by omega)
    subst hL0
    rw [show k + 7000 + 0 + 2 = (k + 7000) + 1 + 1 from rfl, quittanceref01_TakeRow.l0, if_pos (rfl : true = true), u64w _ (by omega) (by omega)]
    cases m with
    | zero => rw [if_neg (by omega), takeM]; simp
    | succ m =>
      have e : resT [] = (B [], B [], false) := rfl
      have e2 : takeM (m + 1) [] = none := rfl
      rw [if_pos (by omega), RTakeText_f _ [] (by decide) (by omega), e, Option.bind_some, if_pos (by omega), quittanceref01_TakeRow.l0, if_neg (by decide), e2]
      rfl
  | succ d ih =>
    intro k m L acc hL hd ha hn
    rw [show k + 7000 + (d + 1) + 2 = (k + 7000 + d + 2) + 1 by omega, quittanceref01_TakeRow.l0, if_pos (rfl : true = true), u64w _ (by omega) (by omega)]
    cases m with
    | zero => rw [if_neg (by omega), takeM]; simp
    | succ m =>
      rw [if_pos (by omega), RTakeText_f _ L (by omega) (by omega), Option.bind_some, takeM]
      unfold resT
      cases ht : takeT L with
      | none =>
        rw [if_pos (by omega), show k + 7000 + d + 2 = (k + 7000 + d + 1) + 1 from rfl, quittanceref01_TakeRow.l0, if_neg (by decide)]
        rfl
      | some x =>
        obtain ⟨s, r⟩ := x
        have h2 := takeT_len ht
        have h3 := ih k m r (acc ++ [B s]) (by omega) (by omega) (by rw [List.length_append, List.length_singleton]; omega) (by rw [List.length_append, List.length_singleton]; omega)
        rw [List.length_append, List.length_singleton, show acc.length + 1 + m = acc.length + (m + 1) by omega] at h3
        rw [if_pos (by omega)]
        refine h3.trans ?_
        dsimp only
        cases takeM m r with
        | none => rfl
        | some y =>
          obtain ⟨l, t⟩ := y
          simp
theorem RTakeRow_f (k : Nat) (L : List UInt8) (hL : L.length ≤ 3000) (hk : 11000 ≤ k) : quittanceref01_TakeRow.f k (B L) = some (resR L) := by
  unfold quittanceref01_TakeRow.f resR
  rw [RTakeNum_f k L hL (by omega), Option.bind_some]
  cases h : takeN L with
  | none =>
    rw [resN_none h, takeR_none h]
    obtain ⟨k, rfl⟩ : ∃ m, k = m + 1 := ⟨k - 1, by omega⟩
    rw [quittanceref01_TakeRow.l0, if_neg (by decide)]
    rfl
  | some x =>
    obtain ⟨n, r⟩ := x
    have h1 := takeN_len h
    rw [resN_some h, takeR_eq h]
    obtain ⟨m, hm⟩ : ∃ m, k = m + 7000 + 3000 + 2 := ⟨k - 10002, by omega⟩
    have := rtr 3000 m n r [] (by omega) (by decide) (by decide) (by rw [List.length_nil]; have := (takeN_once h).1; omega)
    rw [List.length_nil, Nat.zero_add] at this
    rw [hm]
    refine this.trans ?_
    cases takeM n r with
    | none => rfl
    | some y => obtain ⟨l, t⟩ := y; simp
theorem map_B_ex (l : List ByteArray) : ∃ l' : List (List UInt8), l = l'.map B := ⟨l.map (fun s => s.data.toList), by
  rw [List.map_map]
  exact ((List.map_congr_left (g := id) fun s _ => by simp [B]).trans (List.map_id _)).symm⟩
/-- No text is too long, and they aren't too many. -/
def fine (l : List ByteArray) : Prop := l.length ≤ 10 ∧ ∀ s ∈ l, s.size ≤ 400
theorem textsL_fine (l : List ByteArray) (h : ∀ s ∈ l, s.size ≤ 400) : (textsL l).length ≤ 410 * l.length := by
  unfold textsL
  induction l with
  | nil => exact Nat.le_refl _
  | cons s l ih =>
    have h1 := h s (List.mem_cons_self ..)
    have h2 := tnum_length_le' s.size (by omega)
    have h3 : (textL s).length ≤ 410 := by
      unfold textL
      have h5 : s.data.toList.length = s.size := Array.length_toList
      rw [List.length_append]
      omega
    have h4 := ih (fun s hs => h s (List.mem_cons_of_mem _ hs))
    rw [List.map_cons, List.flatten_cons, List.length_append, List.length_cons]
    omega
theorem rowL_fine (l : List ByteArray) (h : fine l) : (rowL l).length ≤ 4110 := by
  have h1 := textsL_fine l h.2
  have h2 := tnum_length_le' l.length (by have := h.1; omega)
  have h3 := h.1
  unfold rowL
  rw [List.length_append]
  omega
theorem Row_f (l : List ByteArray) (h : fine l) : tally_Row.f l = some (B (rowL l)) := by
  have := rowL_fine l h
  unfold tally_Row.f
  rw [if_pos (by omega)]
theorem RTextL_f (s : ByteArray) (hs : s.size < 9223372036854775000) : quittanceref01_Text.f s = some (B (textL s)) := by
  obtain ⟨S, rfl, _⟩ := B_ex s
  rw [B_size] at hs
  unfold quittanceref01_Text.f
  have := tnum_length_le' S.length (by omega)
  rw [B_size, u64w _ (by omega) (by omega), RNum_f _ (by omega), Option.bind_some, B_size, if_pos (by omega), B_append, textL_B]
theorem rrow_l (l : List ByteArray) (hl : fine l) (d : Nat) : ∀ (k j : Nat), j + d = l.length → quittanceref01_Row.l0 (k + d + 1) l (B (tnum l.length ++ textsL (l.take j))) (j : Int) = some (B (rowL l)) := by
  induction d with
  | zero =>
    intro k j hj
    rw [show k + 0 + 1 = k + 1 from rfl, quittanceref01_Row.l0, if_neg (by omega), List.take_of_length_le (by omega)]
    rfl
  | succ d ih =>
    intro k j hj
    have hlt : j < l.length := by omega
    have h3 := hl.1
    have e1 : wrap64 ((j : Int) + 1) = ((j + 1 : Nat) : Int) := by unfold wrap64; omega
    have hg : rdOf ByteArray.empty l (j : Int) = l[j] := rdOf_get l (j : Int) (by omega) (by omega)
    have h1 := hl.2 l[j] (List.getElem_mem hlt)
    have h2 := textsL_take_le l j hlt
    have h4 := rowL_fine l hl
    unfold rowL at h4
    rw [List.length_append] at h4
    rw [show k + (d + 1) + 1 = (k + d + 1) + 1 by omega, quittanceref01_Row.l0, if_pos (by omega), if_pos (by omega), hg, RTextL_f _ (by omega), Option.bind_some, B_size, B_size, List.length_append, if_pos (by omega), B_append, List.append_assoc, ← textsL_take l j hlt, e1]
    exact ih k (j + 1) (by omega)
theorem RRow_f (k : Nat) (l : List ByteArray) (hl : fine l) (hk : l.length + 1 ≤ k) : quittanceref01_Row.f k l = some (B (rowL l)) := by
  unfold quittanceref01_Row.f
  have h3 := hl.1
  rw [u64w _ (by omega) (by omega), RNum_f _ (by omega), Option.bind_some]
  have := rrow_l l hl l.length (k - l.length - 1) 0 (by omega)
  rw [show k - l.length - 1 + l.length + 1 = k by omega] at this
  refine Eq.trans ?_ this
  congr 1
  simp [textsL]
end Go.Proofs.YtnhgakmnkpjpdaaGreat.Pure

/- A log, plain: the transactions of a row's texts. -/
set_option linter.unusedVariables false
set_option linter.unusedSimpArgs false
namespace Go.Proofs.YtnhgakmnkpjpdaaGreat.Pure
open Go Go.RowKit Go.Proofs.YtnhgakmnkpjpdaaGreat.Q Go.Proofs.YtnhgakmnkpjpdaaGreat Go.Proofs.YtnhgakmnkpjpdaaGreatW.PrintWords Go.Proofs.YtnhgakmnkpjpdaaGreatW.PrintLast Go.Proofs.YtnhgakmnkpjpdaaGreatW.PrintMore
theorem openL_texts {l : List ByteArray} (P : ByteArray → Prop) (hP : ∀ k n S, getP (l.drop k) = some (n, S) → P (B S)) : ∀ (m : Nat) (st : TS), l.length - st.en ≤ m → (∀ t ∈ st.texts, P t) → ∀ t ∈ (openL l st).texts, P t := by
  intro m
  induction m with
  | zero =>
    intro st hm h
    cases hg : getP (l.drop st.en) with
    | none => rw [openL_none hg]; exact h
    | some p =>
      have h2 := getP_len (n := p.1) (S := p.2) hg
      rw [List.length_drop] at h2
      omega
  | succ m ih =>
    intro st hm h
    cases hg : getP (l.drop st.en) with
    | none => rw [openL_none hg]; exact h
    | some p =>
      obtain ⟨n, S⟩ := p
      rw [openL_some hg]
      have h2 := getP_len hg
      rw [List.length_drop] at h2
      split
      · refine ih _ (by show l.length - (st.en + nP (txt S)) ≤ m; omega) (fun t ht => ?_)
        have ht2 : t ∈ st.texts ++ [B S] := ht
        rcases List.mem_append.1 ht2 with e | e
        · exact h t e
        · rw [List.mem_singleton] at e; rw [e]; exact hP _ _ _ hg
      · exact h
theorem nP_ge (S : List UInt8) : S.length ≤ 48 * nP (txt S) := by
  rw [← manyN_nP]; unfold manyN; omega
theorem rowT_texts (l : List ByteArray) : ∀ t ∈ (rowT l).texts, t.size ≤ 98304 ∧ t.size ≤ 48 * l.length :=
  openL_texts (fun t => t.size ≤ 98304 ∧ t.size ≤ 48 * l.length) (fun k n S h => by
    have h1 := (getP_some h).2.2.1
    have h2 := (getP_len h).2
    have h3 := nP_ge S
    rw [List.length_drop] at h2
    rw [B_size]
    exact ⟨h1, by omega⟩) _ st0 (Nat.le_refl _) (fun t h => by cases h)
/-- A transaction: a text that is a row's and nothing else. -/
def one (t : ByteArray) : Option (List ByteArray) :=
  if (resR t.data.toList).2.2 = true ∧ (resR t.data.toList).2.1 = B [] then some (resR t.data.toList).1 else none
def parseA : List (List ByteArray) → List ByteArray → Option (List (List ByteArray))
  | acc, [] => some acc
  | acc, t :: r => match one t with
    | some x => parseA (acc ++ [x]) r
    | none => none
theorem parseA_len : ∀ (r : List ByteArray) (acc L : List (List ByteArray)), parseA acc r = some L → L.length = acc.length + r.length := by
  intro r
  induction r with
  | nil => intro acc L h; cases h; rfl
  | cons t r ih =>
    intro acc L h
    unfold parseA at h
    cases ho : one t with
    | none => rw [ho] at h; cases h
    | some x =>
      rw [ho] at h
      rw [ih _ _ h, List.length_append, List.length_singleton, List.length_cons]; omega
theorem parseA_snoc : ∀ (r : List ByteArray) (acc : List (List ByteArray)) (t : ByteArray), parseA acc (r ++ [t]) = (parseA acc r).bind fun L => (one t).map fun x => L ++ [x] := by
  intro r
  induction r with
  | nil => intro acc t; show (match one t with | some x => parseA (acc ++ [x]) [] | none => none) = _; cases one t <;> rfl
  | cons u r ih =>
    intro acc t
    rw [List.cons_append]
    unfold parseA
    cases one u with
    | none => rfl
    | some x => exact ih _ _
end Go.Proofs.YtnhgakmnkpjpdaaGreat.Pure
