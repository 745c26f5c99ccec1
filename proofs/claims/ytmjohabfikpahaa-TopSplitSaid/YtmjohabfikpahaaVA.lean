/- Plain: dividing 128 bits by 64, two digits of 32 bits. -/
import Derived.Test.YtmjohabfikpahaaV9
set_option maxRecDepth 100000
set_option linter.unusedVariables false
set_option linter.unusedSimpArgs false
namespace Go.Proofs.Ytmjohabfikpahaa
open Go
/-- The digit that is guessed is no less. -/
theorem dig_start {U a1 a0 Y u1 : Nat} (hY : Y = a1 * 4294967296 + a0) (ha : 0 < a1) (hu : u1 < 4294967296) : (U * 4294967296 + u1) / Y ≤ U / a1 := by
  have hY0 : 0 < Y := by omega
  rw [Nat.le_div_iff_mul_le ha]
  have h1 := Nat.div_mul_le_self (U * 4294967296 + u1) Y
  generalize (U * 4294967296 + u1) / Y = q at h1 ⊢
  rw [hY, Nat.mul_add, ← Nat.mul_assoc] at h1
  generalize q * a1 = m at *
  generalize q * a0 = k at *
  omega
theorem dig_lt {U Y u1 : Nat} (hU : U < Y) (hu : u1 < 4294967296) : (U * 4294967296 + u1) / Y < 4294967296 := by
  rw [Nat.div_lt_iff_lt_mul (by omega)]
  omega
/-- Where the test says so, one less is no less still. -/
theorem dig_dec {U a1 a0 Y u1 q r : Nat} (hY : Y = a1 * 4294967296 + a0) (hU : U < Y) (hu : u1 < 4294967296) (he : q * a1 + r = U) (hq : (U * 4294967296 + u1) / Y ≤ q)
    (h : 4294967296 ≤ q ∨ 4294967296 * r + u1 < q * a0) : (U * 4294967296 + u1) / Y < q := by
  rcases h with h | h
  · exact Nat.lt_of_lt_of_le (dig_lt hU hu) h
  · rw [Nat.div_lt_iff_lt_mul (by omega), hY, Nat.mul_add, ← Nat.mul_assoc]
    generalize q * a1 = m at *
    generalize q * a0 = k at *
    omega
theorem dig_stop {U a1 a0 Y u1 q r : Nat} (hY : Y = a1 * 4294967296 + a0) (hU : U < Y) (he : q * a1 + r = U) (hq : (U * 4294967296 + u1) / Y ≤ q) (h : q * a0 ≤ 4294967296 * r + u1) : q = (U * 4294967296 + u1) / Y := by
  refine Nat.le_antisymm ?_ hq
  rw [Nat.le_div_iff_mul_le (by omega), hY, Nat.mul_add, ← Nat.mul_assoc]
  generalize q * a1 = m at *
  generalize q * a0 = k at *
  omega
theorem dig_break {U a1 a0 Y u1 q r : Nat} (hY : Y = a1 * 4294967296 + a0) (ha0 : a0 < 4294967296) (hU : U < Y) (he : q * a1 + r = U) (hq : (U * 4294967296 + u1) / Y ≤ q) (h : 4294967296 ≤ r) : q = (U * 4294967296 + u1) / Y := by
  refine dig_stop hY hU he hq ?_
  have h1 : q * a1 < 4294967296 * a1 := by
    generalize q * a1 = m at *
    omega
  have h2 : q < 4294967296 := Nat.lt_of_mul_lt_mul_right h1
  have h3 : q * a0 ≤ 4294967295 * 4294967295 := Nat.mul_le_mul (by omega) (by omega)
  omega
/-- A number's length, and what it is shifted by. -/
theorem bitLen_log {y : Nat} (hy : y ≠ 0) (h : y < 18446744073709551616) : Lib.bitLen y = Nat.log2 y + 1 := by
  have h1 := Nat.log2_self_le hy
  have h2 : y < 2 ^ (Nat.log2 y + 1) := Nat.lt_log2_self
  have h3 := Lib.bitLen_shift (Nat.log2 y) y h1 h
  have h4 : y / 2 ^ Nat.log2 y = 1 := by
    apply Nat.div_eq_of_lt_le
    · rw [Nat.one_mul]; exact h1
    · rw [Nat.pow_succ] at h2; rw [show (1 + 1 : Nat) = 2 from rfl, Nat.mul_comm]; exact h2
  rw [h4] at h3
  have h5 : Lib.bitLen 1 = 1 := by decide
  rw [h5] at h3
  exact h3
theorem shift_fits {y : Nat} (hy : y ≠ 0) (h : y < 18446744073709551616) : ∃ s : Nat, 64 - (Lib.bitLen y : Int) = (s : Int) ∧ s ≤ 63 ∧ 9223372036854775808 ≤ y * 2 ^ s ∧ y * 2 ^ s < 18446744073709551616 := by
  have h1 := Nat.log2_self_le hy
  have h2 : y < 2 ^ (Nat.log2 y + 1) := Nat.lt_log2_self
  have h3 : Nat.log2 y < 64 := by
    rw [Nat.log2_lt hy]; exact h
  refine ⟨63 - Nat.log2 y, by rw [bitLen_log hy h]; omega, by omega, ?_, ?_⟩
  · have e : (9223372036854775808 : Nat) = 2 ^ Nat.log2 y * 2 ^ (63 - Nat.log2 y) := by rw [← Nat.pow_add, show Nat.log2 y + (63 - Nat.log2 y) = 63 by omega]
    rw [e]; exact Nat.mul_le_mul_right _ h1
  · have e : (18446744073709551616 : Nat) = 2 ^ (Nat.log2 y + 1) * 2 ^ (63 - Nat.log2 y) := by rw [← Nat.pow_add, show Nat.log2 y + 1 + (63 - Nat.log2 y) = 64 by omega]
    rw [e]; exact Nat.mul_lt_mul_of_pos_right h2 (Nat.two_pow_pos _)
theorem two_sums (z A B C D k R2 V u0 : Nat) (hN : z = A + V) (hV : V = B + u0) (h3 : A + B = C + D) (h2 : D + u0 = k + R2) : z = C + k + R2 := by omega
theorem two_digits {z U V u1 u0 m R k R2 : Nat} (hN : z = U * 18446744073709551616 + V) (hV : V = u1 * 4294967296 + u0) (h1 : U * 4294967296 + u1 = m + R) (h2 : R * 4294967296 + u0 = k + R2) : z = m * 4294967296 + k + R2 := by
  have h3 : U * (4294967296 * 4294967296) + u1 * 4294967296 = m * 4294967296 + R * 4294967296 := by rw [← Nat.mul_assoc, ← Nat.add_mul, ← Nat.add_mul, h1]
  have h4 : U * 18446744073709551616 + u1 * 4294967296 = m * 4294967296 + R * 4294967296 := h3
  exact two_sums z _ _ _ _ k R2 V u0 hN hV h4 h2
/-- What the two digits are. -/
theorem div_digits {N y s Y U V u1 u0 q1 R q0 R2 : Nat} (hY : Y = y * 2 ^ s) (hy : 0 < y) (hN : N * 2 ^ s = U * 18446744073709551616 + V) (hV : V = u1 * 4294967296 + u0)
    (h1 : U * 4294967296 + u1 = q1 * Y + R) (h2 : R * 4294967296 + u0 = q0 * Y + R2) (hR : R2 < Y) : N / y = q1 * 4294967296 + q0 ∧ N % y = R2 / 2 ^ s := by
  have hs : 0 < 2 ^ s := Nat.two_pow_pos s
  have e : N * 2 ^ s = (q1 * 4294967296 + q0) * Y + R2 := by
    rw [Nat.add_mul, Nat.mul_right_comm q1 4294967296 Y]
    exact two_digits hN hV h1 h2
  have e1 : N * 2 ^ s / Y = q1 * 4294967296 + q0 := by
    rw [e]
    exact Nat.div_eq_of_lt_le (by omega) (by rw [Nat.add_mul _ 1, Nat.one_mul]; omega)
  have e2 : N * 2 ^ s % Y = R2 := by
    generalize q1 * 4294967296 + q0 = Q at e
    rw [e, Nat.add_comm, Nat.add_mul_mod_self_right]
    exact Nat.mod_eq_of_lt hR
  rw [hY, Nat.mul_div_mul_right _ _ hs] at e1
  rw [hY, Nat.mul_mod_mul_right] at e2
  exact ⟨e1, by rw [← e2, Nat.mul_div_cancel _ hs]⟩
/-- The dividend's two upper parts. -/
theorem div_parts {hi lo y s : Nat} (hs : s ≤ 63) (h1 : hi < y) (h2 : lo < 18446744073709551616) (h3 : y * 2 ^ s < 18446744073709551616) :
    ∃ H L V : Nat, H = hi * 2 ^ s ∧ L = lo / 2 ^ (64 - s) ∧ V = lo * 2 ^ s % 18446744073709551616 ∧ H < 18446744073709551616 ∧ L < 2 ^ s ∧ L < 18446744073709551616 ∧ V < 18446744073709551616 ∧ H + L < y * 2 ^ s ∧
      (hi * 18446744073709551616 + lo) * 2 ^ s = (H + L) * 18446744073709551616 + V ∧ H ||| L = H + L := by
  have p : (18446744073709551616 : Nat) = 2 ^ (64 - s) * 2 ^ s := by rw [← Nat.pow_add, show 64 - s + s = 64 by omega]
  have hs0 : 0 < 2 ^ s := Nat.two_pow_pos s
  have hH : hi * 2 ^ s < y * 2 ^ s := Nat.mul_lt_mul_of_pos_right h1 hs0
  have hL : lo / 2 ^ (64 - s) < 2 ^ s := by
    rw [Nat.div_lt_iff_lt_mul (Nat.two_pow_pos _), Nat.mul_comm, ← p]; exact h2
  have hL2 : lo / 2 ^ (64 - s) ≤ lo := Nat.div_le_self _ _
  have eL : lo * 2 ^ s / 18446744073709551616 = lo / 2 ^ (64 - s) := by rw [p, Nat.mul_div_mul_right _ _ hs0]
  have eV := Nat.div_add_mod (lo * 2 ^ s) 18446744073709551616
  rw [eL] at eV
  have hHL : hi * 2 ^ s + lo / 2 ^ (64 - s) < y * 2 ^ s := by
    have : (hi + 1) * 2 ^ s ≤ y * 2 ^ s := Nat.mul_le_mul_right _ h1
    rw [Nat.add_mul, Nat.one_mul] at this
    omega
  refine ⟨_, _, _, rfl, rfl, rfl, by omega, hL, by omega, Nat.mod_lt _ (by decide), hHL, ?_, ?_⟩
  · rw [Nat.add_mul, Nat.mul_right_comm]
    generalize lo * 2 ^ s = x at *
    generalize hi * 2 ^ s = z at *
    omega
  · have e := Nat.shiftLeft_add_eq_or_of_lt hL hi
    rw [Nat.shiftLeft_eq] at e
    exact e.symm
end Go.Proofs.Ytmjohabfikpahaa
