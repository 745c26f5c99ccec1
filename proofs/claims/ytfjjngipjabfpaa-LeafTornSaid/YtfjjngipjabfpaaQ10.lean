-- MADE BY xrun.sh, a turned copy of the kit's print: not typed by hand
import Derived.Test.YtfjjngipjabfpaaQ0
namespace Go.Proofs.Ytfjjngipjabfpaa.Q
open Go.RowKit Go.Proofs.YtfjjngipjabfpaaW.PrintWords Go.Proofs.YtfjjngipjabfpaaW.PrintLast Go.Proofs.YtfjjngipjabfpaaW.PrintMore
attribute [local go_sem] max2_int min2_int max_two min_two max_three min_three max_four min_four   -- for this text's walks alone
set_option linter.unusedVariables false
set_option linter.unusedSimpArgs false

/-! ### quittanceref02_Full: function 13 -/
def quittanceref02_Full.l0 : Nat → ByteArray → Option (ByteArray)
  | 0, _ => none
  | k + 1, x0 => if (x0.size : Int) < 48 then (if x0.size + 1 ≤ 9223372036854775807 then (quittanceref02_Full.l0 k (x0 ++ (⟨#[0]⟩ : ByteArray))) else (none)) else (some x0)
def quittanceref02_Full.f (k : Nat) (a0 : ByteArray) : Option (ByteArray) := quittanceref02_Full.l0 k a0
theorem quittanceref02_Full.mono_l : ∀ k, (∀ y0, LeO (quittanceref02_Full.l0 k y0) (quittanceref02_Full.l0 (k + 1) y0))
  | 0 => fun _ r h => by simp [quittanceref02_Full.l0] at h
  | k + 1 => by
    have ih0 := quittanceref02_Full.mono_l k
    · intro y0
      unfold quittanceref02_Full.l0
      repeat' first
      | (with_reducible exact ih0 _)
      | (with_reducible exact LeO.refl _)
      | (with_reducible exact LeO.none _)
      | (with_reducible refine LeO.ite ?_ ?_)
      | (with_reducible refine LeO.bind ?_ (fun _ => ?_))
      | exact ih0 _
      | exact LeO.none _
      | refine LeO.ite ?_ ?_
      | refine LeO.bind ?_ (fun _ => ?_)
theorem quittanceref02_Full.mono : ∀ a0 k, LeO (quittanceref02_Full.f k a0) (quittanceref02_Full.f (k + 1) a0) := by
  intro a0 k
  have ih0 := quittanceref02_Full.mono_l k
  unfold quittanceref02_Full.f
  repeat' first
      | (with_reducible exact ih0 _)
      | (with_reducible exact LeO.refl _)
      | (with_reducible exact LeO.none _)
      | (with_reducible refine LeO.ite ?_ ?_)
      | (with_reducible refine LeO.bind ?_ (fun _ => ?_))
      | exact ih0 _
      | exact LeO.none _
      | refine LeO.ite ?_ ?_
      | refine LeO.bind ?_ (fun _ => ?_)
set_option maxHeartbeats 8000000 in
set_option maxRecDepth 100000 in
theorem quittanceref02_Full.calls (k : Nat) (a0 : ByteArray) (r : ByteArray) (w : World) (h : quittanceref02_Full.f k a0 = some r) :
    Calls Try.prog 13 #[.string a0] w fun e w' => e = .returned (.string r) ∧ Drawn0 w w' := by
  have H : (quittanceref02_Full.l0 k a0) = some r := h
  clear h
  have H' := Aside0.mk H
  clear H
  go_enter Try.func13, Try.ntmps13
  go_wp2
  go_loopg [0] k (fun kq v0 w' => ∃ (x0_1 : ByteArray), v0 = .string x0_1 ∧ Aside0 (quittanceref02_Full.l0 kq x0_1 = some r) ∧ Aside0 (kq ≤ k) ∧ Drawn0 w w')
  case atStart => exact ⟨(a0), (by first | rfl | (simp; done) | (simp [*]; done)), H', ⟨Nat.le_refl _⟩, by repeat (first | exact Drawn0.refl _ | apply Drawn0.step)⟩
  case round =>
    clear H'
    try clear c1
    obtain ⟨x0_1, rfl, HA, HK1, ⟨m1, rfl⟩⟩ := hrel
    cases gk with
    | zero => exact absurd HA.out (by simp [quittanceref02_Full.l0])
    | succ k1 =>
      have H := HA.out
      clear HA
      simp only [quittanceref02_Full.l0] at H
      by_cases c2 : (x0_1.size : Int) < 48
      · rw [if_pos c2] at H
        have c2b0 : decide ((x0_1.size : Int) < 48) = true := decide_eq_true c2
        have c2b1 : decide (x0_1.size < 48) = true := decide_eq_true (by omega)
        clear c2
        by_cases c3 : x0_1.size + 1 ≤ 9223372036854775807
        · rw [if_pos c3] at H
          have c3b0 := eq_true c3
          have c3b1 : decide (x0_1.size + 1 ≤ 9223372036854775807) = true := decide_eq_true c3
          try have c3b2 : (9223372036854775807 < x0_1.size + 1) = False := eq_false (Nat.not_lt.2 c3)
          try (have c3b3 := Nat.not_lt.2 c3; simp only [ByteArray.size_append, ByteArray.size_extract, Nat.sub_zero, Nat.min_self] at c3b3; replace c3b3 := eq_false c3b3)
          try (have c3b4 := Nat.not_lt.2 c3; simp only [ByteArray.size_append, ByteArray.size_extract, Nat.sub_zero, Nat.min_self] at c3b4; rw [Nat.min_eq_left (by simp only [decide_eq_true_eq, eq_iff_iff, iff_true] at *; omega)] at c3b4; replace c3b4 := eq_false c3b4)
          have H' := Aside0.mk H
          clear H
          go_wp2
          go_roundg k1
          case measure => have := HK1.out; omega
          case rel => exact ⟨(x0_1 ++ (⟨#[0]⟩ : ByteArray)), (by first | rfl | (simp; done) | (simp [*]; done)), H', ⟨by have := HK1.out; omega⟩, by repeat (first | exact Drawn0.refl _ | apply Drawn0.step)⟩
        · rw [if_neg c3] at H
          exact absurd H (by simp)
      · rw [if_neg c2] at H
        have c2b0 : decide ((x0_1.size : Int) < 48) = false := decide_eq_false c2
        have c2b1 : decide (x0_1.size < 48) = false := decide_eq_false (by omega)
        clear c2
        obtain rfl := Option.some.inj H
        go_wp2
        go_ret
        exact ⟨by first | rfl | (simp; done) | (simp [*]; done), by repeat (first | exact Drawn0.refl _ | apply Drawn0.step)⟩

end Go.Proofs.Ytfjjngipjabfpaa.Q
