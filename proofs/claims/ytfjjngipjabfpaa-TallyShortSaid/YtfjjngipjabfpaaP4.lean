/- Items of the statements on tally: what is too great; the document's bytes, plain. -/
import Derived.Test.YtfjjngipjabfpaaP3
set_option linter.unusedVariables false
set_option linter.unusedSimpArgs false
namespace Go.Proofs.Ytfjjngipjabfpaa.Pure
open Go Go.RowKit Go.Proofs.Ytfjjngipjabfpaa.Q Go.Proofs.YtfjjngipjabfpaaW.PrintWords Go.Proofs.YtfjjngipjabfpaaW.PrintLast Go.Proofs.YtfjjngipjabfpaaW.PrintMore
theorem map_B_ex (l : List ByteArray) : ∃ l' : List (List UInt8), l = l'.map B := ⟨l.map (fun s => s.data.toList), by
  rw [List.map_map]
  exact ((List.map_congr_left (g := id) fun s _ => by simp [B]).trans (List.map_id _)).symm⟩
/-- No text is too long, and they aren't too many. -/
def fine (l : List ByteArray) : Prop := l.length ≤ 300 ∧ ∀ s ∈ l, s.size ≤ 300
theorem long_l (l : List ByteArray) (hl : l.length ≤ 9223372036854775807) (d : Nat) : ∀ (k j : Nat), j + d = l.length → (∀ s ∈ l.take j, s.size ≤ 300) →
    ∃ b, quittancelaw01_long.l0 (k + d + 1) l (j : Int) = some b ∧ (b = false → fine l) := by
  induction d with
  | zero =>
    intro k j hj hs
    rw [show k + 0 + 1 = k + 1 from rfl, quittancelaw01_long.l0, if_neg (by omega)]
    refine ⟨_, rfl, fun h => ⟨?_, fun s hm => hs s (by rw [List.take_of_length_le (by omega)]; exact hm)⟩⟩
    have := of_decide_eq_false h
    omega
  | succ d ih =>
    intro k j hj hs
    have hlt : j < l.length := by omega
    have e1 : wrap64 ((j : Int) + 1) = ((j + 1 : Nat) : Int) := by unfold wrap64; omega
    rw [show k + (d + 1) + 1 = (k + d + 1) + 1 by omega, quittancelaw01_long.l0, if_pos (by omega), if_pos (by omega), rdOf_get l (j : Int) (by omega) (by omega), e1]
    by_cases h : ((l[(j : Int).toNat]'(by omega)).size : Int) > 300
    · rw [if_pos h]
      exact ⟨true, rfl, fun h => absurd h (by decide)⟩
    · rw [if_neg h]
      refine ih k (j + 1) (by omega) fun s hm => ?_
      rw [List.take_succ_eq_append_getElem hlt] at hm
      rcases List.mem_append.1 hm with hm | hm
      · exact hs s hm
      · rw [List.mem_singleton.1 hm]
        have e : (j : Int).toNat = j := by omega
        simp only [e] at h
        omega
theorem long_f (k : Nat) (l : List ByteArray) (hl : l.length ≤ 9223372036854775807) (hk : l.length + 1 ≤ k) : ∃ b, quittancelaw01_long.f k l = some b ∧ (b = false → fine l) := by
  unfold quittancelaw01_long.f
  have := long_l l hl l.length (k - l.length - 1) 0 (by omega) (fun s hs => by cases hs)
  rw [show k - l.length - 1 + l.length + 1 = k by omega] at this
  exact this
theorem great_f (k : Nat) (a b : Int) (s : ByteArray) (l : List ByteArray) (r : ByteArray) (hl : l.length ≤ 9223372036854775807) (hk : l.length + 1 ≤ k) :
    ∃ t, quittancelaw01_great.f k a b s l r = some t ∧ (t = false → fine l ∧ s.size ≤ 3000 ∧ r.size ≤ 3000) := by
  unfold quittancelaw01_great.f
  by_cases h1 : (s.size : Int) > 3000
  · rw [if_pos h1]; exact ⟨true, rfl, fun h => absurd h (by decide)⟩
  · rw [if_neg h1]
    by_cases h2 : (r.size : Int) > 3000
    · rw [if_pos h2]; exact ⟨true, rfl, fun h => absurd h (by decide)⟩
    · rw [if_neg h2]
      obtain ⟨t, h3, h4⟩ := long_f k l hl hk
      rw [h3]
      exact ⟨t, rfl, fun h => ⟨h4 h, by omega, by omega⟩⟩
theorem textsL_fine (l : List ByteArray) (h : ∀ s ∈ l, s.size ≤ 300) : (textsL l).length ≤ 310 * l.length := by
  unfold textsL
  induction l with
  | nil => exact Nat.le_refl _
  | cons s l ih =>
    have h1 := h s (List.mem_cons_self ..)
    have h2 := tnum_length_le' s.size (by omega)
    have h3 : (textL s).length ≤ 310 := by
      unfold textL
      have h5 : s.data.toList.length = s.size := Array.length_toList
      rw [List.length_append]
      omega
    have h4 := ih (fun s hs => h s (List.mem_cons_of_mem _ hs))
    rw [List.map_cons, List.flatten_cons, List.length_append, List.length_cons]
    omega
theorem rowL_fine (l : List ByteArray) (h : fine l) : (rowL l).length ≤ 93010 := by
  have h1 := textsL_fine l h.2
  have h2 := tnum_length_le' l.length (by have := h.1; omega)
  have h3 := h.1
  unfold rowL
  rw [List.length_append]
  omega
theorem Row_f (l : List ByteArray) (h : fine l) : tally_Row.f l = some (B (rowL l)) := by
  have := rowL_fine l h
  unfold tally_Row.f
  rw [if_pos (by omega)]
/-! The document's. -/
theorem RInt_f (z : Int) (h0 : -9223372036854775808 ≤ z) (h1 : z < 9223372036854775808) : quittanceref01_Int.f z = some (B (tnum (zz z))) := by
  unfold quittanceref01_Int.f zz
  by_cases h : 0 ≤ z
  · have e1 : IntKind.u64.wrap (2 * (IntKind.u64.wrap z)) = (((2 * z).toNat : Nat) : Int) := by rw [u64w z h (by omega), u64w _ (by omega) (by omega)]; omega
    rw [if_pos h, if_pos h, e1, RNum_f _ (by omega)]
    rfl
  · have e1 : IntKind.u64.wrap ((IntKind.u64.wrap (2 * (IntKind.u64.wrap (wrap64 (-(wrap64 (z + 1))))))) + 1) = (((2 * (-(z + 1)) + 1).toNat : Nat) : Int) := by
      rw [wrap64_in' (z + 1) (by omega) (by omega), wrap64_in' _ (by omega) (by omega), u64w (-(z + 1)) (by omega) (by omega), u64w (2 * -(z + 1)) (by omega) (by omega), u64w _ (by omega) (by omega)]
      omega
    rw [if_neg h, if_neg h, e1, RNum_f _ (by omega)]
    rfl
theorem RText_f (s : ByteArray) (hs : s.size < 9223372036854775000) : quittanceref01_Text.f s = some (B (textL s)) := by
  obtain ⟨S, rfl, _⟩ := B_ex s
  rw [B_size] at hs
  unfold quittanceref01_Text.f
  have := tnum_length_le' S.length (by omega)
  rw [B_size, u64w _ (by omega) (by omega), RNum_f _ (by omega), Option.bind_some, B_size, if_pos (by omega), B_append, textL_B]
theorem rrow_l (l : List ByteArray) (hl : fine l) (d : Nat) : ∀ (k j : Nat), j + d = l.length → quittanceref01_Row.l0 (k + d + 1) l (B (tnum l.length ++ textsL (l.take j))) (j : Int) = some (B (rowL l)) := by
  induction d with
  | zero =>
    intro k j hj
    rw [show k + 0 + 1 = k + 1 from rfl, quittanceref01_Row.l0, if_neg (by omega), List.take_of_length_le (by omega)]
    rfl
  | succ d ih =>
    intro k j hj
    have hlt : j < l.length := by omega
    have h3 := hl.1
    have e1 : wrap64 ((j : Int) + 1) = ((j + 1 : Nat) : Int) := by unfold wrap64; omega
    have hg : rdOf ByteArray.empty l (j : Int) = l[j] := rdOf_get l (j : Int) (by omega) (by omega)
    have h1 := hl.2 l[j] (List.getElem_mem hlt)
    have h2 := textsL_take_le l j hlt
    have h4 := rowL_fine l hl
    unfold rowL at h4
    rw [List.length_append] at h4
    rw [show k + (d + 1) + 1 = (k + d + 1) + 1 by omega, quittanceref01_Row.l0, if_pos (by omega), if_pos (by omega), hg, RText_f _ (by omega), Option.bind_some, B_size, B_size, List.length_append, if_pos (by omega), B_append, List.append_assoc, ← textsL_take l j hlt, e1]
    exact ih k (j + 1) (by omega)
theorem RRow_f (k : Nat) (l : List ByteArray) (hl : fine l) (hk : l.length + 1 ≤ k) : quittanceref01_Row.f k l = some (B (rowL l)) := by
  unfold quittanceref01_Row.f
  have h3 := hl.1
  rw [u64w _ (by omega) (by omega), RNum_f _ (by omega), Option.bind_some]
  have := rrow_l l hl l.length (k - l.length - 1) 0 (by omega)
  rw [show k - l.length - 1 + l.length + 1 = k by omega] at this
  refine Eq.trans ?_ this
  congr 1
  simp [textsL]
theorem wf_u64 {n : Int} (h : (Lit.int .u64 n).wf = true) : 0 ≤ n ∧ n < 18446744073709551616 := by
  simp [Lit.wf, IntKind.min, IntKind.max, IntKind.signed, IntKind.bits] at h
  omega
theorem wf_i64 {n : Int} (h : (Lit.int .i64 n).wf = true) : -9223372036854775808 ≤ n ∧ n < 9223372036854775808 := by
  simp [Lit.wf, IntKind.min, IntKind.max, IntKind.signed, IntKind.bits] at h
  omega
end Go.Proofs.Ytfjjngipjabfpaa.Pure
