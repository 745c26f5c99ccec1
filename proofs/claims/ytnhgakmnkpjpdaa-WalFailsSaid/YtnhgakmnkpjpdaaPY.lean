import Derived.Test.YtnhgakmnkpjpdaaPT
import Derived.Test.YtnhgakmnkpjpdaaQ5
/- A log, plain: what the document's functions answer. -/
set_option linter.unusedVariables false
set_option linter.unusedSimpArgs false
namespace Go.Proofs.Ytnhgakmnkpjpdaa.Pure
open Go Go.RowKit Go.Proofs.Ytnhgakmnkpjpdaa Go.Proofs.Ytnhgakmnkpjpdaa.Q Go.Proofs.YtnhgakmnkpjpdaaW.PrintWords Go.Proofs.YtnhgakmnkpjpdaaW.PrintLast Go.Proofs.YtnhgakmnkpjpdaaW.PrintMore
/-! The log of the document -/
def secD (a b : List ByteArray) : Bool := decide ((rowT a).first < (rowT b).first)
def halfD (a b : List ByteArray) : List ByteArray := if secD a b = true then b else a
def topD (a b : List ByteArray) : Nat := max (topL a 0) (topL b 0)
def txD (l : List ByteArray) : Option (List (List ByteArray)) := parseA [] (rowT l).texts
theorem same06_l0 (a b : List (List ByteArray)) (h : a.length = b.length) (hl : a.length ≤ 4096) (hs : ∀ t ∈ a, t.length ≤ 4096) (d : Nat) : ∀ (k j : Nat), j + d = a.length →
    ∃ q, quittanceref06_Same.l0 (k + 4100 + d + 1) a b (j : Int) = some q ∧ (q = true ↔ a.drop j = b.drop j) := by
  induction d with
  | zero =>
    intro k j hj
    refine ⟨true, ?_, ?_⟩
    · rw [quittanceref06_Same.l0, if_neg (by omega)]
    · rw [List.drop_eq_nil_of_le (by omega), List.drop_eq_nil_of_le (by omega)]; simp
  | succ d ih =>
    intro k j hj
    have hj2 : j < a.length := by omega
    have hj3 : j < b.length := by omega
    have hrd : rd_L2 a (j : Int) = a[j] := by
      unfold rd_L2
      rw [Int.toNat_natCast, List.getD_eq_getElem?_getD, List.getElem?_eq_getElem hj2]; rfl
    have hrd2 : rd_L2 b (j : Int) = b[j] := by
      unfold rd_L2
      rw [Int.toNat_natCast, List.getD_eq_getElem?_getD, List.getElem?_eq_getElem hj3]; rfl
    have hw : wrap64 ((j : Int) + 1) = ((j + 1 : Nat) : Int) := by unfold wrap64; omega
    have hsz := hs a[j] (List.getElem_mem _)
    obtain ⟨q, hq, hq2⟩ := RSame_f (k + 4100 + d + 1) a[j] b[j] (by omega) (by omega)
    rw [show k + 4100 + (d + 1) + 1 = (k + 4100 + d + 1) + 1 by omega, quittanceref06_Same.l0, if_pos (by omega), if_pos (by omega), if_pos (by omega), hrd, hrd2, hq, Option.bind_some, hw]
    have ea : a.drop j = a[j] :: a.drop (j + 1) := List.drop_eq_getElem_cons hj2
    have eb : b.drop j = b[j] :: b.drop (j + 1) := List.drop_eq_getElem_cons hj3
    rw [ea, eb]
    by_cases c : q = true
    · rw [if_pos c]
      obtain ⟨q2, h1, h2⟩ := ih k (j + 1) (by omega)
      refine ⟨q2, h1, h2.trans ?_⟩
      rw [hq2.1 c]; exact ⟨fun e => by rw [e], fun e => (List.cons.inj e).2⟩
    · rw [if_neg c]
      refine ⟨false, rfl, ⟨fun e => (by cases e), fun e => ?_⟩⟩
      exact absurd (hq2.2 (List.cons.inj e).1) c
theorem Same06_f (k : Nat) (a b : List (List ByteArray)) (hl : a.length ≤ 4096) (hs : ∀ t ∈ a, t.length ≤ 4096) (hk : 8300 ≤ k) : ∃ q, quittanceref06_Same.f k a b = some q ∧ (q = true ↔ a = b) := by
  unfold quittanceref06_Same.f
  by_cases h : a.length = b.length
  · rw [if_pos (by omega)]
    obtain ⟨m, rfl⟩ : ∃ m, k = m + 4100 + a.length + 1 := ⟨k - 4100 - a.length - 1, by omega⟩
    have := same06_l0 a b h hl hs a.length m 0 (by omega)
    rw [List.drop_zero, List.drop_zero] at this
    exact this
  · rw [if_neg (by omega)]
    exact ⟨false, rfl, fun e => (by cases e), fun e => absurd (by rw [e]) h⟩
end Go.Proofs.Ytnhgakmnkpjpdaa.Pure

/- Chapter 06, plain: are acts more than a statement looks at? -/
set_option linter.unusedVariables false
set_option linter.unusedSimpArgs false
namespace Go.Proofs.Ytnhgakmnkpjpdaa.Pure
open Go Go.RowKit Go.Proofs.Ytnhgakmnkpjpdaa.Q Go.Proofs.Ytnhgakmnkpjpdaa Go.Proofs.YtnhgakmnkpjpdaaW.PrintWords Go.Proofs.YtnhgakmnkpjpdaaW.PrintLast Go.Proofs.YtnhgakmnkpjpdaaW.PrintMore
theorem rd32_get (l : List S32) (i : Nat) (h : i < l.length) : rd_T32 l (i : Int) = l[i] := by
  unfold rd_T32
  rw [Int.toNat_natCast, List.getD_eq_getElem?_getD, List.getElem?_eq_getElem h]; rfl
theorem great_l1 (l : List S32) (hl : l.length ≤ 40) (i : Nat) (hi : i < l.length) (h10 : l[i].f1.length ≤ 10) (d : Nat) : ∀ (k j : Nat), j + d = l[i].f1.length →
    ((∀ s ∈ l[i].f1.drop j, s.size ≤ 400) ∧ quittancelaw06_great.l1 (k + d + 1) l (i : Int) (j : Int) = quittancelaw06_great.l0 k l ((i + 1 : Nat) : Int)) ∨
    ((¬ ∀ s ∈ l[i].f1.drop j, s.size ≤ 400) ∧ quittancelaw06_great.l1 (k + d + 1) l (i : Int) (j : Int) = some true) := by
  have hw : wrap64 ((i : Int) + 1) = ((i + 1 : Nat) : Int) := by unfold wrap64; omega
  induction d with
  | zero =>
    intro k j hj
    refine .inl ⟨fun s hs => ?_, ?_⟩
    · rw [List.drop_eq_nil_of_le (by omega)] at hs; cases hs
    · rw [show k + 0 + 1 = k + 1 from rfl, quittancelaw06_great.l1, if_pos (by omega), if_pos (by omega), rd32_get l i hi, if_neg (by omega), hw]
  | succ d ih =>
    intro k j hj
    have hj2 : j < l[i].f1.length := by omega
    have hrd : rdOf ByteArray.empty l[i].f1 (j : Int) = l[i].f1[j] := rdOf_get _ _ (by omega) (by omega)
    have hw2 : wrap64 ((j : Int) + 1) = ((j + 1 : Nat) : Int) := by unfold wrap64; omega
    rw [show k + (d + 1) + 1 = (k + d + 1) + 1 by omega, quittancelaw06_great.l1, if_pos (by omega), if_pos (by omega), rd32_get l i hi, if_pos (by omega), if_pos (by omega), hrd, hw2, List.drop_eq_getElem_cons hj2]
    by_cases c : 400 < l[i].f1[j].size
    · rw [if_pos (by omega)]
      exact .inr ⟨fun e => by have := e _ (List.mem_cons_self ..); omega, rfl⟩
    · rw [if_neg (by omega)]
      rcases ih k (j + 1) (by omega) with ⟨c2, h2⟩ | ⟨c2, h2⟩
      · refine .inl ⟨fun s hs => ?_, h2⟩
        rcases List.mem_cons.1 hs with e | e
        · rw [e]; omega
        · exact c2 s e
      · exact .inr ⟨fun e => c2 (fun s hs => e s (List.mem_cons_of_mem _ hs)), h2⟩
theorem great_l0 (l : List S32) (hl : l.length ≤ 40) (e : Nat) : ∀ (k i : Nat), i + e = l.length → ∃ r, quittancelaw06_great.l0 (k + 12 * e + 1) l (i : Int) = some r ∧ (r = false ↔ ∀ x ∈ l.drop i, fine x.f1) := by
  induction e with
  | zero =>
    intro k i hi
    refine ⟨false, ?_, ⟨fun _ x hx => ?_, fun _ => rfl⟩⟩
    · rw [show k + 12 * 0 + 1 = k + 1 by omega, quittancelaw06_great.l0, if_neg (by omega)]
    · rw [List.drop_eq_nil_of_le (by omega)] at hx; cases hx
  | succ e ih =>
    intro k i hi
    have hi2 : i < l.length := by omega
    rw [show k + 12 * (e + 1) + 1 = (k + 12 * e + 12) + 1 by omega, quittancelaw06_great.l0, if_pos (by omega), if_pos (by omega), rd32_get l i hi2, List.drop_eq_getElem_cons hi2]
    by_cases c : 10 < l[i].f1.length
    · rw [if_pos (by omega)]
      exact ⟨true, rfl, ⟨fun e => (by cases e), fun h => by have := (h _ (List.mem_cons_self ..)).1; omega⟩⟩
    · rw [if_neg (by omega)]
      have h1 := great_l1 l hl i hi2 (by omega) l[i].f1.length (k + 12 * e + 11 - l[i].f1.length) 0 (by omega)
      rw [show k + 12 * e + 11 - l[i].f1.length + l[i].f1.length + 1 = k + 12 * e + 12 by omega, List.drop_zero] at h1
      rcases h1 with ⟨c2, h1⟩ | ⟨c2, h1⟩
      · have h1' : quittancelaw06_great.l1 (k + 12 * e + 12) l (i : Int) 0 = _ := h1
        rw [h1']
        obtain ⟨r, h2, h3⟩ := ih (k + 10 - l[i].f1.length) (i + 1) (by omega)
        rw [show k + 10 - l[i].f1.length + 12 * e + 1 = k + 12 * e + 11 - l[i].f1.length by omega] at h2
        refine ⟨r, h2, h3.trans ⟨fun h x hx => ?_, fun h x hx => h x (List.mem_cons_of_mem _ hx)⟩⟩
        rcases List.mem_cons.1 hx with e | e
        · rw [e]; exact ⟨by omega, c2⟩
        · exact h x e
      · have h1' : quittancelaw06_great.l1 (k + 12 * e + 12) l (i : Int) 0 = _ := h1
        rw [h1']
        exact ⟨true, rfl, ⟨fun e => (by cases e), fun h => absurd (h _ (List.mem_cons_self ..)).2 c2⟩⟩
theorem great_f (l : List S32) (k : Nat) (hk : 500 ≤ k) : ∃ r, quittancelaw06_great.f k l = some r ∧ (r = false ↔ l.length ≤ 40 ∧ ∀ x ∈ l, fine x.f1) := by
  unfold quittancelaw06_great.f
  by_cases c : 40 < l.length
  · rw [if_pos (by omega)]
    exact ⟨true, rfl, ⟨fun e => (by cases e), fun h => by have := h.1; omega⟩⟩
  · rw [if_neg (by omega)]
    obtain ⟨r, h1, h2⟩ := great_l0 l (by omega) l.length (k - 12 * l.length - 1) 0 (by omega)
    rw [show k - 12 * l.length - 1 + 12 * l.length + 1 = k by omega, List.drop_zero] at *
    exact ⟨r, h1, h2.trans ⟨fun h => ⟨by omega, h⟩, fun h => h.2⟩⟩
end Go.Proofs.Ytnhgakmnkpjpdaa.Pure
