import Derived.Test.YtnhgakmnkpjpdaaH3
import Derived.Test.YtnhgakmnkpjpdaaH4
import Derived.Test.YtnhgakmnkpjpdaaPB
import Derived.Test.YtnhgakmnkpjpdaaQ2
import Derived.Test.YtnhgakmnkpjpdaaRT
/- Rows of texts of the package tally and of the document: what the printed functions answer, plain. -/
set_option linter.unusedVariables false
set_option linter.unusedSimpArgs false
namespace Go.Proofs.Ytnhgakmnkpjpdaa.Pure
open Go Go.RowKit Go.Proofs.Ytnhgakmnkpjpdaa.Q Go.Proofs.YtnhgakmnkpjpdaaW.PrintWords Go.Proofs.YtnhgakmnkpjpdaaW.PrintLast Go.Proofs.YtnhgakmnkpjpdaaW.PrintMore
/-- So many texts, one behind the other. -/
def takeM : Nat → List UInt8 → Option (List (List UInt8) × List UInt8)
  | 0, L => some ([], L)
  | n + 1, L => match takeT L with
    | some (s, r) => (match takeM n r with | some (l, t) => some (s :: l, t) | none => none)
    | none => none
theorem some_eq (n : Nat) : ∀ (L : List UInt8) (acc : List ByteArray), okN L → acc.length + L.length < 8796093022208 →
    some_f n (B L) acc = some (match takeM n L with | some (l, t) => (acc ++ l.map B, B t, true) | none => ([], B [], false)) := by
  induction n with
  | zero => intro L acc _ _; simp [some_f, takeM]
  | succ n ih =>
    intro L acc hL hl
    rw [some_f, TakeText_eq hL, takeM]
    cases ht : takeT L with
    | none => rfl
    | some x =>
      obtain ⟨s, r⟩ := x
      have h2 := takeT_len ht
      simp only [Option.bind_some]
      rw [if_true, if_pos (by omega), ih r (acc ++ [B s]) (by unfold okN at *; omega) (by rw [List.length_append, List.length_singleton]; omega)]
      cases hm : takeM n r with
      | none => rfl
      | some y =>
        obtain ⟨l, t⟩ := y
        simp
/-- A row, and what is left. -/
def takeR (L : List UInt8) : Option (List (List UInt8) × List UInt8) :=
  match takeN L with
  | some (n, r) => takeM n r
  | none => none
theorem takeR_eq {L : List UInt8} {n : Nat} {r : List UInt8} (h : takeN L = some (n, r)) : takeR L = takeM n r := by unfold takeR; rw [h]
theorem takeR_none {L : List UInt8} (h : takeN L = none) : takeR L = none := by unfold takeR; rw [h]
theorem TakeRow_eq {L : List UInt8} (hL : L.length < 8796093022208) : tally_TakeRow.f (B L) = some (match takeR L with | some (l, t) => (l.map B, B t, true) | none => ([], B [], false)) := by
  unfold tally_TakeRow.f
  have hN : okN L := by unfold okN; omega
  cases hn : takeN L with
  | none =>
    rw [TakeNum_none hN hn, takeR_none hn]
    rfl
  | some x =>
    obtain ⟨n, l⟩ := x
    have h2 := takeN_len hn
    rw [TakeNum_some hN hn, takeR_eq hn]
    simp only [Option.bind_some]
    rw [if_true, Int.toNat_natCast, some_eq n l [] (by unfold okN; omega) (by rw [List.length_nil]; omega)]
    simp
theorem textL_B (s : List UInt8) : textL (B s) = tnum s.length ++ s := by unfold textL; rw [B_size, B_data]
theorem textsL_cons (s : List UInt8) (l : List (List UInt8)) : textsL ((s :: l).map B) = (tnum s.length ++ s) ++ textsL (l.map B) := by
  unfold textsL
  rw [List.map_cons, List.map_cons, List.flatten_cons, textL_B]
theorem rowL_map (l : List (List UInt8)) : rowL (l.map B) = tnum l.length ++ textsL (l.map B) := by unfold rowL; rw [List.length_map]
theorem takeM_back (l : List (List UInt8)) (t : List UInt8) (hl : ∀ s ∈ l, s.length < 18446744073709551616) : takeM l.length (textsL (l.map B) ++ t) = some (l, t) := by
  induction l with
  | nil => rfl
  | cons s l ih =>
    rw [List.length_cons, takeM, textsL_cons, List.append_assoc, takeT_back s _ (hl s (List.mem_cons_self ..))]
    simp only
    rw [ih (fun s hs => hl s (List.mem_cons_of_mem _ hs))]
theorem takeR_back (l : List (List UInt8)) (t : List UInt8) (h0 : l.length < 18446744073709551616) (hl : ∀ s ∈ l, s.length < 18446744073709551616) : takeR (rowL (l.map B) ++ t) = some (l, t) := by
  rw [rowL_map, List.append_assoc, takeR_eq (takeN_tnum _ h0 _)]
  exact takeM_back l t hl
/-- What is answered of bytes whose row is taken. -/
def resR (L : List UInt8) : List ByteArray × ByteArray × Bool :=
  match takeR L with
  | some (l, t) => (l.map B, B t, true)
  | none => ([], B [], false)
theorem TakeRow_res {L : List UInt8} (hL : L.length < 8796093022208) : tally_TakeRow.f (B L) = some (resR L) := TakeRow_eq hL
theorem map_B_ex (l : List ByteArray) : ∃ l' : List (List UInt8), l = l'.map B := ⟨l.map (fun s => s.data.toList), by
  rw [List.map_map]
  exact ((List.map_congr_left (g := id) fun s _ => by simp [B]).trans (List.map_id _)).symm⟩
/-- No text is too long, and they aren't too many. -/
def fine (l : List ByteArray) : Prop := l.length ≤ 10 ∧ ∀ s ∈ l, s.size ≤ 400
theorem textsL_fine (l : List ByteArray) (h : ∀ s ∈ l, s.size ≤ 400) : (textsL l).length ≤ 410 * l.length := by
  unfold textsL
  induction l with
  | nil => exact Nat.le_refl _
  | cons s l ih =>
    have h1 := h s (List.mem_cons_self ..)
    have h2 := tnum_length_le' s.size (by omega)
    have h3 : (textL s).length ≤ 410 := by
      unfold textL
      have h5 : s.data.toList.length = s.size := Array.length_toList
      rw [List.length_append]
      omega
    have h4 := ih (fun s hs => h s (List.mem_cons_of_mem _ hs))
    rw [List.map_cons, List.flatten_cons, List.length_append, List.length_cons]
    omega
theorem rowL_fine (l : List ByteArray) (h : fine l) : (rowL l).length ≤ 4110 := by
  have h1 := textsL_fine l h.2
  have h2 := tnum_length_le' l.length (by have := h.1; omega)
  have h3 := h.1
  unfold rowL
  rw [List.length_append]
  omega
theorem Row_f (l : List ByteArray) (h : fine l) : tally_Row.f l = some (B (rowL l)) := by
  have := rowL_fine l h
  unfold tally_Row.f
  rw [if_pos (by omega)]
end Go.Proofs.Ytnhgakmnkpjpdaa.Pure

/- A log, plain: the transactions of a row's texts. -/
set_option linter.unusedVariables false
set_option linter.unusedSimpArgs false
namespace Go.Proofs.Ytnhgakmnkpjpdaa.Pure
open Go Go.RowKit Go.Proofs.Ytnhgakmnkpjpdaa.Q Go.Proofs.Ytnhgakmnkpjpdaa Go.Proofs.YtnhgakmnkpjpdaaW.PrintWords Go.Proofs.YtnhgakmnkpjpdaaW.PrintLast Go.Proofs.YtnhgakmnkpjpdaaW.PrintMore
theorem openL_texts {l : List ByteArray} (P : ByteArray → Prop) (hP : ∀ k n S, getP (l.drop k) = some (n, S) → P (B S)) : ∀ (m : Nat) (st : TS), l.length - st.en ≤ m → (∀ t ∈ st.texts, P t) → ∀ t ∈ (openL l st).texts, P t := by
  intro m
  induction m with
  | zero =>
    intro st hm h
    cases hg : getP (l.drop st.en) with
    | none => rw [openL_none hg]; exact h
    | some p =>
      have h2 := getP_len (n := p.1) (S := p.2) hg
      rw [List.length_drop] at h2
      omega
  | succ m ih =>
    intro st hm h
    cases hg : getP (l.drop st.en) with
    | none => rw [openL_none hg]; exact h
    | some p =>
      obtain ⟨n, S⟩ := p
      rw [openL_some hg]
      have h2 := getP_len hg
      rw [List.length_drop] at h2
      split
      · refine ih _ (by show l.length - (st.en + nP (txt S)) ≤ m; omega) (fun t ht => ?_)
        have ht2 : t ∈ st.texts ++ [B S] := ht
        rcases List.mem_append.1 ht2 with e | e
        · exact h t e
        · rw [List.mem_singleton] at e; rw [e]; exact hP _ _ _ hg
      · exact h
theorem nP_ge (S : List UInt8) : S.length ≤ 48 * nP (txt S) := by
  rw [← manyN_nP]; unfold manyN; omega
theorem rowT_texts (l : List ByteArray) : ∀ t ∈ (rowT l).texts, t.size ≤ 98304 ∧ t.size ≤ 48 * l.length :=
  openL_texts (fun t => t.size ≤ 98304 ∧ t.size ≤ 48 * l.length) (fun k n S h => by
    have h1 := (getP_some h).2.2.1
    have h2 := (getP_len h).2
    have h3 := nP_ge S
    rw [List.length_drop] at h2
    rw [B_size]
    exact ⟨h1, by omega⟩) _ st0 (Nat.le_refl _) (fun t h => by cases h)
/-- A transaction: a text that is a row's and nothing else. -/
def one (t : ByteArray) : Option (List ByteArray) :=
  if (resR t.data.toList).2.2 = true ∧ (resR t.data.toList).2.1 = B [] then some (resR t.data.toList).1 else none
def parseA : List (List ByteArray) → List ByteArray → Option (List (List ByteArray))
  | acc, [] => some acc
  | acc, t :: r => match one t with
    | some x => parseA (acc ++ [x]) r
    | none => none
theorem parseA_len : ∀ (r : List ByteArray) (acc L : List (List ByteArray)), parseA acc r = some L → L.length = acc.length + r.length := by
  intro r
  induction r with
  | nil => intro acc L h; cases h; rfl
  | cons t r ih =>
    intro acc L h
    unfold parseA at h
    cases ho : one t with
    | none => rw [ho] at h; cases h
    | some x =>
      rw [ho] at h
      rw [ih _ _ h, List.length_append, List.length_singleton, List.length_cons]; omega
theorem parseA_snoc : ∀ (r : List ByteArray) (acc : List (List ByteArray)) (t : ByteArray), parseA acc (r ++ [t]) = (parseA acc r).bind fun L => (one t).map fun x => L ++ [x] := by
  intro r
  induction r with
  | nil => intro acc t; show (match one t with | some x => parseA (acc ++ [x]) [] | none => none) = _; cases one t <;> rfl
  | cons u r ih =>
    intro acc t
    rw [List.cons_append]
    unfold parseA
    cases one u with
    | none => rfl
    | some x => exact ih _ _
end Go.Proofs.Ytnhgakmnkpjpdaa.Pure
