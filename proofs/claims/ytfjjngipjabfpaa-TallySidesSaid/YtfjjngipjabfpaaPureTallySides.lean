/- TallySides: lengths; the bytes of a number; integers side by side. -/
import Derived.Test.YtfjjngipjabfpaaQ8
import Derived.Test.YtfjjngipjabfpaaP3
set_option linter.unusedVariables false
set_option linter.unusedSimpArgs false
namespace Go.Proofs.Ytfjjngipjabfpaa.Pure
open Go Go.RowKit Go.Proofs.Ytfjjngipjabfpaa.Q Go.Proofs.YtfjjngipjabfpaaW.PrintWords Go.Proofs.YtfjjngipjabfpaaW.PrintLast Go.Proofs.YtfjjngipjabfpaaW.PrintMore
theorem wf_u64 {n : Int} (h : (Lit.int .u64 n).wf = true) : 0 ≤ n ∧ n < 18446744073709551616 := by
  simp [Lit.wf, IntKind.min, IntKind.max, IntKind.signed, IntKind.bits] at h
  omega
theorem wf_i64 {n : Int} (h : (Lit.int .i64 n).wf = true) : -9223372036854775808 ≤ n ∧ n < 9223372036854775808 := by
  simp [Lit.wf, IntKind.min, IntKind.max, IntKind.signed, IntKind.bits] at h
  omega
theorem long_l0 (a : Nat) : ∀ (k : Nat) (c : Nat), a < 18446744073709551616 → c + (hA a).length < 1000 → (hA a).length < k → tally_Long.l0 k (a : Int) (c : Int) = some ((c + (hA a).length : Nat) : Int) := by
  induction a using Nat.strongRecOn with
  | ind a ih =>
    intro k c ha hc hk
    obtain ⟨k, rfl⟩ : ∃ m, k = m + 1 := ⟨k - 1, by omega⟩
    by_cases h : a = 0
    · subst h
      rw [hA_zero, tally_Long.l0, if_neg (by decide)]
      rfl
    · have hp := hA_pos h
      have hlt : (a - 1) / 128 < a := Nat.lt_of_le_of_lt (Nat.div_le_self _ _) (by omega)
      have hlen : (hA a).length = (hA ((a - 1) / 128)).length + 1 := by rw [hp]; simp
      have e1 : IntKind.u64.wrap ((a : Int) - 1) = ((a - 1 : Nat) : Int) := by rw [u64w _ (by omega) (by omega)]; omega
      have e2 : (((a - 1 : Nat) : Int)) / 128 = (((a - 1) / 128 : Nat) : Int) := by omega
      have e3 : wrap64 ((c : Int) + 1) = ((c + 1 : Nat) : Int) := by unfold wrap64; omega
      rw [tally_Long.l0, if_pos (by omega), e1, e2, e3, ih _ hlt k (c + 1) (by omega) (by omega) (by omega), hlen]
      congr 2
      omega
theorem Long_f (k : Nat) (n : Nat) (hn : n < 18446744073709551616) (hk : 24 ≤ k) : tally_Long.f k (n : Int) = some (((tnum n).length : Nat) : Int) := by
  unfold tally_Long.f
  have hl := hA_length_le (n / 128) (by omega)
  have := long_l0 (n / 128) k 1 (by omega) (by omega) (by omega)
  rw [show (n : Int) / 128 = ((n / 128 : Nat) : Int) by omega]
  refine this.trans ?_
  unfold tnum
  rw [List.length_append, List.length_singleton, Nat.add_comm]
theorem hA_mono (b : Nat) : ∀ a, a ≤ b → (hA a).length ≤ (hA b).length := by
  induction b using Nat.strongRecOn with
  | ind b ih =>
    intro a hab
    by_cases h : a = 0
    · subst h; rw [hA_zero]; exact Nat.zero_le _
    · have hb : b ≠ 0 := by omega
      rw [hA_pos h, hA_pos hb, List.length_append, List.length_append]
      have hlt : (b - 1) / 128 < b := Nat.lt_of_le_of_lt (Nat.div_le_self _ _) (by omega)
      exact Nat.add_le_add_right (ih _ hlt _ (Nat.div_le_div_right (by omega))) _
theorem tnum_mono {a b : Nat} (h : a ≤ b) : (tnum a).length ≤ (tnum b).length := by
  unfold tnum
  rw [List.length_append, List.length_append]
  exact Nat.add_le_add_right (hA_mono _ _ (Nat.div_le_div_right h)) _
theorem tnum_bytes (n : Nat) (i : Nat) (hi : i < (tnum n).length) : (tnum n)[i].toNat < 128 ↔ i + 1 = (tnum n).length := by
  have hl : (tnum n).length = (hA (n / 128)).length + 1 := by unfold tnum; simp
  by_cases h : i < (hA (n / 128)).length
  · have h1 : (tnum n)[i] = (hA (n / 128))[i] := by simp only [tnum]; rw [List.getElem_append_left h]
    have h2 := hA_ge _ _ (List.getElem_mem h)
    rw [h1]
    omega
  · have h1 : (tnum n)[i] = UInt8.ofNat (n % 128) := by simp only [tnum]; rw [List.getElem_append_right (by omega)]; simp
    rw [h1, UInt8.toNat_ofNat']
    omega
theorem sides_j2 (k : Nat) (z : Int) (h0 : 0 ≤ z) (h1 : z < 9223372036854775808) (hk : 24 ≤ k) : quittancelaw01_TallySides.j2 (k + 1) z = some true := by
  have e1 : IntKind.u64.wrap (2 * (IntKind.u64.wrap z)) = (((2 * z).toNat : Nat) : Int) := by rw [u64w z h0 (by omega), u64w _ (by omega) (by omega)]; omega
  have e2 : wrap64 (-z) = -z := wrap64_in' _ (by omega) (by omega)
  have e3 : wrap64 (-z - 1) = -z - 1 := wrap64_in' _ (by omega) (by omega)
  have e4 : IntKind.u64.wrap ((((2 * z).toNat : Nat) : Int) + 1) = (((2 * z).toNat + 1 : Nat) : Int) := by rw [u64w _ (by omega) (by omega)]; omega
  have z1 : zz z = (2 * z).toNat := by unfold zz; rw [if_pos h0]
  have z2 : zz (-z - 1) = (2 * z).toNat + 1 := by unfold zz; rw [if_neg (by omega)]; omega
  rw [quittancelaw01_TallySides.j2, Int_f k z (by omega) h1 hk, Option.bind_some, e1, Num_f k _ (by omega) hk, Option.bind_some, z1, if_pos (rfl : (B (tnum (2 * z).toNat)).toList = (B (tnum (2 * z).toNat)).toList),
    e2, e3, Int_f k _ (by omega) (by omega) hk, Option.bind_some, e4, Num_f k _ (by omega) hk, Option.bind_some, z2, if_pos (rfl : (B (tnum ((2 * z).toNat + 1))).toList = (B (tnum ((2 * z).toNat + 1))).toList), head01 k hk]
  rfl
theorem sides_end (k : Nat) (z : Int) (h0 : -9223372036854775808 ≤ z) (h1 : z < 9223372036854775808) (hk : 24 ≤ k) :
    (if z < 0 then (quittancelaw01_TallySides.j2 (k + 1) (wrap64 (-(wrap64 (z + 1))))) else (quittancelaw01_TallySides.j2 (k + 1) z)) = some true := by
  by_cases h : z < 0
  · rw [if_pos h, wrap64_in' (z + 1) (by omega) (by omega), wrap64_in' _ (by omega) (by omega)]
    exact sides_j2 k _ (by omega) (by omega) hk
  · rw [if_neg h]
    exact sides_j2 k z (by omega) h1 hk
theorem sides_l0 (z : Int) (h0 : -9223372036854775808 ≤ z) (h1 : z < 9223372036854775808) (n : Nat) (hn : (tnum n).length ≤ 10) (d : Nat) : ∀ (k j : Nat), 24 ≤ k → j + d = (tnum n).length →
    quittancelaw01_TallySides.l0 (k + d + 1 + 1) z (B (tnum n)) (j : Int) = some true := by
  induction d with
  | zero =>
    intro k j hk hj
    rw [show k + 0 + 1 + 1 = (k + 1) + 1 from rfl, quittancelaw01_TallySides.l0, B_size, if_neg (by omega)]
    exact sides_end k z h0 h1 hk
  | succ d ih =>
    intro k j hk hj
    have hlt : j < (tnum n).length := by omega
    have e1 : wrap64 ((j : Int) + 1) = ((j + 1 : Nat) : Int) := by unfold wrap64; omega
    have e2 : wrap64 (((tnum n).length : Int) - 1) = (((tnum n).length - 1 : Nat) : Int) := by unfold wrap64; omega
    have hb := tnum_bytes n j hlt
    have hc : ((decide ((((tnum n)[j]).toNat : Int) < 128)) != ((j : Int) == (((tnum n).length - 1 : Nat) : Int))) = false := by
      by_cases h : j + 1 = (tnum n).length
      · rw [decide_eq_true (by have := hb.2 h; omega), beq_iff_eq.2 (by omega)]; rfl
      · rw [decide_eq_false (by have := mt hb.1 h; omega), beq_eq_false_iff_ne.2 (by omega)]; rfl
    rw [show k + (d + 1) + 1 + 1 = (k + d + 1 + 1) + 1 by omega, quittancelaw01_TallySides.l0, B_size, if_pos (by omega), if_pos (by omega), bt_get _ j hlt, e2, hc, if_neg (by decide), e1]
    exact ih k (j + 1) hk (by omega)
theorem sides_j0 (k : Nat) (z : Int) (h0 : -9223372036854775808 ≤ z) (h1 : z < 9223372036854775808) (n : Nat) (hn : (tnum n).length ≤ 10) (hk : 40 ≤ k) : quittancelaw01_TallySides.j0 (k + 1) z (B (tnum n)) false = some true := by
  rw [quittancelaw01_TallySides.j0, if_neg (by decide)]
  have := sides_l0 z h0 h1 n hn (tnum n).length (k - (tnum n).length - 2) 0 (by omega) (by omega)
  rw [show k - (tnum n).length - 2 + (tnum n).length + 1 + 1 = k by omega] at this
  exact this
theorem TallySides : quittancelaw01_TallySides.Pure := by
  intro a0 a1 a2 h0 h1 h2
  have w0 := wf_u64 h0
  have w1 := wf_u64 h1
  have w2 := wf_i64 h2
  obtain ⟨x, hx⟩ : ∃ x : Nat, mn a0 a1 = x := ⟨(mn a0 a1).toNat, by unfold mn; split <;> omega⟩
  obtain ⟨y, hy⟩ : ∃ y : Nat, mx a0 a1 = y := ⟨(mx a0 a1).toNat, by unfold mx; split <;> omega⟩
  have hxy : x ≤ y := by unfold mn at hx; unfold mx at hy; split at hx <;> split at hy <;> omega
  have hy2 : y < 18446744073709551616 := by unfold mx at hy; split at hy <;> omega
  have hl := tnum_length_le' y hy2
  have hp := tnum_length_pos y
  have hm := tnum_mono hxy
  refine ⟨41, ?_⟩
  unfold quittancelaw01_TallySides.f
  have hz : (((tnum y).length : Int) == 0) = false := beq_eq_false_iff_ne.2 (by omega)
  rw [hx, hy, Num_f _ y hy2 (by decide), Option.bind_some, Long_f _ x (by omega) (by decide), Option.bind_some, Long_f _ y hy2 (by decide), Option.bind_some, if_neg (by omega), Option.bind_some, B_size, if_pos rfl, if_neg (by omega), hz]
  exact sides_j0 40 a2 w2.1 w2.2 y hl (by decide)
end Go.Proofs.Ytfjjngipjabfpaa.Pure
