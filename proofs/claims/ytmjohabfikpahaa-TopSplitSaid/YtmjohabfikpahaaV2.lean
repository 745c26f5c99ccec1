/- slices.rotateCmpFunc at shares, by walking it. -/
import Derived.Test.YtmjohabfikpahaaV1
set_option maxRecDepth 1000000
set_option linter.unusedVariables false
set_option linter.unusedSimpArgs false
namespace Go.Proofs.Ytmjohabfikpahaa
open Go Go.Shelf Go.RowKit Go.Lib Go.Sort Go.Proofs
variable {P : Program} {k : Nat} {α : Type} [Inhabited α] {enc : α → List Value} {w0 w : World} {blk off : Nat} {d0 d : Array α}
set_option maxHeartbeats 2000000 in
theorem rotate_calls (L : Sh P k) (R : RowK enc k w0 blk off d0) (hs : d0.size = d.size) (S : SWK enc k w0 blk off d w) (a m b cap : Nat) (ham : a < m) (hmb : m < b) (hb : b ≤ d.size) (hsz : d.size < 4611686018427387904) (g : Nat) (cb : Array Value) :
    Calls P 28 #[.slice (some ⟨blk, off, none⟩) d.size cap, .int .i64 a, .int .i64 m, .int .i64 b, .func (.func g) #[] cb] w fun e w' => e = .returned (.tuple #[]) ∧ ∃ d', PermIn a b d d' ∧ (∀ x, a ≤ x → x < b → d'[x]! = if x < a + (b - m) then d[m + (x - a)]! else d[x - (b - m)]!) ∧ SWK enc k w0 blk off d' w' := by
  have mixed := L.mixed; have t3 := L.t3; have a3 := L.a3; have z3 := L.z3; have v3 := L.v3; have t4 := L.t4; have a4 := L.a4; have z4 := L.z4; have v4 := L.v4; have t34 := L.t34; have a34 := L.a34; have z34 := L.z34; have v34 := L.v34; have t38 := L.t38; have a38 := L.a38; have z38 := L.z38; have v38 := L.v38; have t44 := L.t44; have a44 := L.a44; have z44 := L.z44; have v44 := L.v44; have a36 := L.a36; have z36 := L.z36
  have F28 := L.f28
  have e29 : ∀ args w, (callFunc 29 args).run P w = .ok (.enter 29 args) w := enters_of L.f29 (by kernel_rfl) rfl
  have S0 : Aside (SWK enc k w0 blk off d w) := S
  have HSW : Aside (∀ (dk : Array α) (wr : World) (x y n : Nat), dk.size = d.size → SWK enc k w0 blk off dk wr → (x + n ≤ y ∨ y + n ≤ x) → a ≤ x → a ≤ y → x + n ≤ b → y + n ≤ b → Calls P 29 #[.slice (some ⟨blk, off, none⟩) d.size cap, .int .i64 x, .int .i64 y, .int .i64 n, .func (.func g) #[] cb] wr fun e w' => e = .returned (.tuple #[]) ∧ ∃ d', Swr x y n n dk d' ∧ PermIn a b dk d' ∧ SWK enc k w0 blk off d' w') := by
    intro dk wr x y n hds hS g1 g2 g3 g4 g5
    have h := swapRange_calls L R (by omega) hS x y n a b cap g1 g2 g3 g4 g5 (by omega) (by omega) g cb
    rw [hds] at h
    exact h
  clear S
  go_enter F28, Try.ntmps28
  go_wp2
  go_loopg [10, 11] (b - a) (fun kx s10 s11 wr => ∃ (i j : Nat) (dk : Array α), s10 = .int .i64 i ∧ s11 = .int .i64 j ∧ 0 < i ∧ 0 < j ∧ i + j = kx ∧ a + i ≤ m ∧ m + j ≤ b ∧ dk.size = d.size ∧ Aside (Rot a m b i j d dk) ∧ Aside (SWK enc k w0 blk off dk wr))
  case atStart => exact ⟨m - a, b - m, d, by rw [show ((m - a : Nat) : Int) = (m : Int) - (a : Int) by omega], by rw [show ((b - m : Nat) : Int) = (b : Int) - (m : Int) by omega], by omega, by omega, by omega, by omega, by omega, rfl, Rot.start (by omega) (by omega) d, S0⟩
  case round =>
    clear S0
    obtain ⟨i, j, dk, rfl, rfl, hi, hj, hk, him, hjm, hds, HW, S1⟩ := hrel
    by_cases hlt : i = j
    · subst hlt
      have hc := HSW.out dk wr (m - i) m i hds S1.out (by omega) (by omega) (by omega) (by omega) (by omega)
      rw [show ((m - i : Nat) : Int) = (m : Int) - (i : Int) by omega] at hc
      go_wp2_with (go_at_call 29; refine hc.mono ?_; rintro e w1 ⟨rfl, d', hw, hp, hS⟩)
      go_end0
      exact ⟨rfl, d', pi_trans HW.out.perm hp, HW.out.done hb hw, hS⟩
    · have q0 : ((i : Int) != (j : Int)) = true := by rw [bne_iff_ne]; omega
      have q0n : (i != j) = true := by rw [bne_iff_ne]; exact hlt
      by_cases hgt : j < i
      · have q1 : decide ((j : Int) < (i : Int)) = true := decide_eq_true (by omega)
        have q2 : decide (j < i) = true := decide_eq_true hgt
        have hc := HSW.out dk wr (m - i) m j hds S1.out (by omega) (by omega) (by omega) (by omega) (by omega)
        rw [show ((m - i : Nat) : Int) = (m : Int) - (i : Int) by omega] at hc
        clear S1
        go_wp2_with (go_at_call 29; refine hc.mono ?_; rintro e w1 ⟨rfl, d', hw, hp, hS⟩; have S2 : Aside (SWK enc k w0 blk off d' w1) := hS; have HW2 : Aside (Rot a m b (i - j) j d d') := HW.out.left hgt hb hw (pi_trans HW.out.perm hp); clear hw hp hS)
        go_roundg (gk - j)
        case measure => omega
        case rel => exact ⟨i - j, j, d', by rw [show ((i - j : Nat) : Int) = (i : Int) - (j : Int) by omega], rfl, by omega, hj, by omega, by omega, hjm, HW2.out.size, HW2, S2⟩
      · have q1 : decide ((j : Int) < (i : Int)) = false := decide_eq_false (by omega)
        have q2 : decide (j < i) = false := decide_eq_false hgt
        have hc := HSW.out dk wr (m - i) (m + j - i) i hds S1.out (by omega) (by omega) (by omega) (by omega) (by omega)
        rw [show ((m - i : Nat) : Int) = (m : Int) - (i : Int) by omega, show ((m + j - i : Nat) : Int) = (m : Int) + (j : Int) - (i : Int) by omega] at hc
        clear S1
        go_wp2_with (go_at_call 29; refine hc.mono ?_; rintro e w1 ⟨rfl, d', hw, hp, hS⟩; have S2 : Aside (SWK enc k w0 blk off d' w1) := hS; have HW2 : Aside (Rot a m b i (j - i) d d') := HW.out.right (by omega) hb hw (pi_trans HW.out.perm hp); clear hw hp hS)
        go_roundg (gk - i)
        case measure => omega
        case rel => exact ⟨i, j - i, d', rfl, by rw [show ((j - i : Nat) : Int) = (j : Int) - (i : Int) by omega], hi, by omega, by omega, him, by omega, HW2.out.size, HW2, S2⟩
end Go.Proofs.Ytmjohabfikpahaa
