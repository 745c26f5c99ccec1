/- Plain lemmas on numbers in eight bytes, and bits of 64-bit numbers. No condition beyond each lemma's own. -/
import Derived.WalkKit
set_option linter.unusedVariables false
set_option linter.unusedSimpArgs false
namespace Go.Proofs.Ytknmbhllinbcjaa
open Go Go.RowKit

/-- The number of the first j of some bytes, the lowest first. -/
def leNum (f : Nat → UInt8) : Nat → Nat
  | 0 => 0
  | j + 1 => leNum f j + (f j).toNat * 256 ^ j
theorem leNum_lt (f : Nat → UInt8) : ∀ j, leNum f j < 256 ^ j
  | 0 => by simp [leNum]
  | j + 1 => by
    have h := leNum_lt f j
    have hb := (f j).toNat_lt
    rw [leNum, Nat.pow_succ]
    have : (f j).toNat * 256 ^ j ≤ 255 * 256 ^ j := Nat.mul_le_mul_right _ (by omega)
    omega
theorem pow256 (j : Nat) : (256 : Nat) ^ j = 2 ^ (8 * j) := by rw [Nat.pow_mul]
theorem u64w (n : Int) (h0 : 0 ≤ n) (h1 : n < 18446744073709551616) : IntKind.u64.wrap n = n := by
  have e : IntKind.u64.wrap n = n % 18446744073709551616 := by simp [IntKind.wrap, IntKind.bits, IntKind.signed]
  rw [e]
  exact Int.emod_eq_of_lt h0 h1
theorem le256 (j : Nat) (hj : j ≤ 8) : 256 ^ j ≤ 18446744073709551616 := by
  have : (256 : Nat) ^ j ≤ 256 ^ 8 := Nat.pow_le_pow_right (by decide) hj
  exact Nat.le_trans this (by decide)
/-- One round of 'number'. -/
theorem le_round (f : Nat → UInt8) (j : Nat) (hj : j < 8) (b : UInt8) (hb : f j = b) :
    bits BinOp.or IntKind.u64 (leNum f j : Nat) (IntKind.u64.wrap (IntKind.u64.wrap (b.toNat : Nat) * 2 ^ (8 * j))) = ((leNum f (j + 1) : Nat) : Int) := by
  have h1 := leNum_lt f j
  have h2 := leNum_lt f (j + 1)
  have h3 := le256 j (by omega)
  have h4 := le256 (j + 1) (by omega)
  have hbl := b.toNat_lt
  have e1 : IntKind.u64.wrap ((b.toNat : Nat) : Int) = b.toNat := u64w _ (by omega) (by omega)
  have e2 : ((b.toNat : Int) * 2 ^ (8 * j)) = ((b.toNat * 256 ^ j : Nat) : Int) := by rw [pow256, Int.natCast_mul, Int.natCast_pow]; rfl
  have hle : b.toNat * 256 ^ j < 18446744073709551616 := by
    rw [leNum, hb] at h2
    omega
  rw [e1, e2, u64w _ (by omega) (by omega), u64_or_nat _ _ (by omega) hle]
  congr 1
  rw [Nat.or_comm, nat_join (8 * j) _ _ (by rw [pow256]; exact Nat.mul_mod_left _ _) (by rw [← pow256]; exact h1), leNum, hb]
  omega
end Go.Proofs.Ytknmbhllinbcjaa
