-- MADE BY xrun.sh, a turned copy of the kit's print: not typed by hand
import Derived.Test.YthbbdilcclepoaaQ0
import Derived.Test.YthbbdilcclepoaaQ1
import Derived.Test.YthbbdilcclepoaaQ2
namespace Go.Proofs.Ythbbdilcclepoaa.Q
open Go.RowKit Go.Proofs.YthbbdilcclepoaaW.PrintWords Go.Proofs.YthbbdilcclepoaaW.PrintLast Go.Proofs.YthbbdilcclepoaaW.PrintMore
attribute [local go_sem] max2_int min2_int max_two min_two max_three min_three max_four min_four   -- for this text's walks alone
set_option linter.unusedVariables false
set_option linter.unusedSimpArgs false

/-! ### quittancelaw05_great: function 12 -/
def quittancelaw05_great.l0 : Nat → List (S44) → Int → Option (Bool)
 | 0, _, _ => none
 | k + 1, x0, x3 => if x3 < (x0.length : Int) then (if 0 ≤ x3 then (if (((rd_T44 x0 x3).f2).size : Int) > 600 then (some true) else (quittancelaw05_great.l0 k x0 (wrap64 (x3 + 1)))) else (none)) else (some (decide ((x0.length : Int) > 40)))
def quittancelaw05_great.f (k : Nat) (l0 : List (S44)) : Option (Bool) := quittancelaw05_great.l0 k l0 0
theorem quittancelaw05_great.mono_l : ∀ k, (∀ y0 y1, LeO (quittancelaw05_great.l0 k y0 y1) (quittancelaw05_great.l0 (k + 1) y0 y1))
 | 0 => fun _ _ r h => by simp [quittancelaw05_great.l0] at h
 | k + 1 => by
  have ih0 := quittancelaw05_great.mono_l k
  ·
   intro y0 y1
   unfold quittancelaw05_great.l0
   repeat' first
   | (with_reducible exact ih0 _ _)
   | (with_reducible exact LeO.refl _)
   | (with_reducible exact LeO.none _)
   | (with_reducible refine LeO.ite ?_ ?_)
   | (with_reducible refine LeO.bind ?_ (fun _ => ?_))
   | exact ih0 _ _
   | exact LeO.none _
   | refine LeO.ite ?_ ?_
   | refine LeO.bind ?_ (fun _ => ?_)
theorem quittancelaw05_great.mono : ∀ a0 k, LeO (quittancelaw05_great.f k a0) (quittancelaw05_great.f (k + 1) a0) := by
 intro a0 k
 have ih0 := quittancelaw05_great.mono_l k
 unfold quittancelaw05_great.f
 repeat' first
   | (with_reducible exact ih0 _ _)
   | (with_reducible exact LeO.refl _)
   | (with_reducible exact LeO.none _)
   | (with_reducible refine LeO.ite ?_ ?_)
   | (with_reducible refine LeO.bind ?_ (fun _ => ?_))
   | exact ih0 _ _
   | exact LeO.none _
   | refine LeO.ite ?_ ?_
   | refine LeO.bind ?_ (fun _ => ?_)
set_option maxHeartbeats 8000000 in
set_option maxRecDepth 100000 in
theorem quittancelaw05_great.calls (k : Nat) (A0 : Option Addr) (c0 : Nat) (l0 : List (S44)) (r : Bool) (w : World) (hr0 : Kd.C k44 w A0 l0.length l0) (hc0 : l0.length ≤ c0) (h : quittancelaw05_great.f k l0 = some r) :
  Calls Try.prog 12 #[.slice A0 l0.length c0] w fun e w' => e = .returned (.bool r) ∧ Drawn0 w w' := by
 have HR0 := Aside0.mk hr0
 have HC0 := Aside0.mk hc0
 clear hr0 hc0
 have H : (quittancelaw05_great.l0 k l0 0) = some r := h
 clear h
 have H' := Aside0.mk H
 clear H
 go_enter Try.func12, Try.ntmps12
 go_wp2
 go_loopg [3] k (fun kq v3 w' => ∃ (x3_1 : Int), v3 = .int .i64 x3_1 ∧ Aside0 (quittancelaw05_great.l0 kq l0 x3_1 = some r) ∧ Aside0 (kq ≤ k) ∧ Drawn0 w w')
 case atStart => exact ⟨(0), (by first | rfl | (simp; done) | (simp [*]; done)), H', ⟨Nat.le_refl _⟩, by repeat (first | exact Drawn0.refl _ | apply Drawn0.step)⟩
 case round =>
  clear H'
  try clear c1
  obtain ⟨x3_1, rfl, HA, HK1, ⟨m1, rfl⟩⟩ := hrel
  cases gk with
  | zero => exact absurd HA.out (by simp [quittancelaw05_great.l0])
  | succ k1 =>
   have H := HA.out
   clear HA
   simp only [quittancelaw05_great.l0] at H
   by_cases c2 : x3_1 < (l0.length : Int)
   ·
    rw [if_pos c2] at H
    have c2b0 : decide (x3_1 < (l0.length : Int)) = true := decide_eq_true c2
    clear c2
    by_cases c3 : 0 ≤ x3_1
    ·
     rw [if_pos c3] at H
     have c3b0 : decide (0 ≤ x3_1) = true := decide_eq_true c3
     clear c3
     by_cases c4 : (((rd_T44 l0 x3_1).f2).size : Int) > 600
     ·
      rw [if_pos c4] at H
      have c4b0 : decide (600 < (((rd_T44 l0 x3_1).f2).size : Int)) = true := decide_eq_true c4
      have c4b1 : decide (600 < ((rd_T44 l0 x3_1).f2).size) = true := decide_eq_true (by omega)
      clear c4
      obtain rfl := Option.some.inj H
      have p176 : 0 ≤ (x3_1 : Int) := of_decide_eq_true (by first | (with_reducible assumption) | assumption)
      have q176 : x3_1 < (l0.length : Int) := of_decide_eq_true (by first | (with_reducible assumption) | assumption)
      obtain ⟨ad176, e176, hx176_0, hx176_1, hx176_2, hx176_3, hx176_4, hx176_5, hx176_6⟩ := at_T44 HR0.out x3_1 p176 q176
      cases e176
      replace p176 := eq_true p176
      replace q176 := eq_true q176
      go_wp2
      go_ret
      exact ⟨by first | rfl | (simp; done) | (simp [*]; done), by repeat (first | exact Drawn0.refl _ | apply Drawn0.step)⟩
     ·
      rw [if_neg c4] at H
      have c4b0 : decide (600 < (((rd_T44 l0 x3_1).f2).size : Int)) = false := decide_eq_false c4
      have c4b1 : decide (600 < ((rd_T44 l0 x3_1).f2).size) = false := decide_eq_false (by omega)
      clear c4
      have H' := Aside0.mk H
      clear H
      have p176 : 0 ≤ (x3_1 : Int) := of_decide_eq_true (by first | (with_reducible assumption) | assumption)
      have q176 : x3_1 < (l0.length : Int) := of_decide_eq_true (by first | (with_reducible assumption) | assumption)
      obtain ⟨ad176, e176, hx176_0, hx176_1, hx176_2, hx176_3, hx176_4, hx176_5, hx176_6⟩ := at_T44 HR0.out x3_1 p176 q176
      cases e176
      replace p176 := eq_true p176
      replace q176 := eq_true q176
      go_wp2
      go_roundg k1
      case measure => have := HK1.out; omega
      case rel => exact ⟨(wrap64 (x3_1 + 1)), (by first | rfl | (simp; done) | (simp [*]; done)), H', ⟨by have := HK1.out; omega⟩, by repeat (first | exact Drawn0.refl _ | apply Drawn0.step)⟩
    ·
     rw [if_neg c3] at H
     exact absurd H (by simp)
   ·
    rw [if_neg c2] at H
    have c2b0 : decide (x3_1 < (l0.length : Int)) = false := decide_eq_false c2
    clear c2
    obtain rfl := Option.some.inj H
    go_wp2
    go_ret
    exact ⟨by first | rfl | (simp; done) | (simp [*]; done), by repeat (first | exact Drawn0.refl _ | apply Drawn0.step)⟩

/-! ### quittancelaw05_stamp: function 14 -/
def quittancelaw05_stamp.f (a0 : Int) (a1 : Int) : Option (Int) := if a1 ≥ 0 then (some (IntKind.u64.wrap ((IntKind.u64.wrap (a0 + 1)) + (IntKind.u64.wrap (a1))))) else (some (IntKind.u64.wrap (a0 - (mn a0 (IntKind.u64.wrap (wrap64 (-(wrap64 ((wrap64 (a1)) + 1)))))))))
set_option maxHeartbeats 8000000 in
set_option maxRecDepth 100000 in
theorem quittancelaw05_stamp.calls (a0 : Int) (a1 : Int) (r : Int) (w : World) (h : quittancelaw05_stamp.f a0 a1 = some r) :
  Calls Try.prog 14 #[.int .u64 a0, .int .i16 a1] w fun e w' => e = .returned (.int .u64 r) ∧ Below w.heap.size w w' := by
 have HB := Aside0.mk (Below.refl w.heap.size w)
 have H : (if a1 ≥ 0 then (some (IntKind.u64.wrap ((IntKind.u64.wrap (a0 + 1)) + (IntKind.u64.wrap (a1))))) else (some (IntKind.u64.wrap (a0 - (mn a0 (IntKind.u64.wrap (wrap64 (-(wrap64 ((wrap64 (a1)) + 1)))))))))) = some r := h
 clear h
 by_cases c3 : a1 ≥ 0
 ·
  rw [if_pos c3] at H
  have c3b0 : decide (0 ≤ a1) = true := decide_eq_true c3
  clear c3
  obtain rfl := Option.some.inj H
  go_enter Try.func14, Try.ntmps14
  go_wp2
  go_ret
  exact ⟨by first | rfl | (simp [errW_none, errW_some] <;> rfl) | (simp [*, errW_none, errW_some] <;> rfl), by repeat (first | (with_reducible first | exact HB.out | apply below_alloc | apply pw_below_drewN | apply below_drew1) | exact HB.out)⟩
 ·
  rw [if_neg c3] at H
  have c3b0 : decide (0 ≤ a1) = false := decide_eq_false c3
  clear c3
  obtain ⟨ji4, hji4⟩ : ∃ j_ : Int, (mn a0 (IntKind.u64.wrap (wrap64 (-(wrap64 ((wrap64 (a1)) + 1)))))) = j_ := ⟨_, rfl⟩
  replace H : (some (IntKind.u64.wrap (a0 - (ji4)))) = some r := by first | (rw [hji4] at H; exact H) | (simp only [hji4] at H ⊢; exact H)
  have hji4_ : (if (IntKind.u64.wrap (wrap64 (-(wrap64 ((wrap64 (a1)) + 1))))) < a0 then (IntKind.u64.wrap (wrap64 (-(wrap64 ((wrap64 (a1)) + 1))))) else a0) = ji4 := hji4
  obtain rfl := Option.some.inj H
  go_enter Try.func14, Try.ntmps14
  go_wp2
  go_ret
  exact ⟨by first | rfl | (simp [errW_none, errW_some] <;> rfl) | (simp only [← hji4]; first | rfl | (simp [errW_none, errW_some] <;> rfl)) | (simp [*, errW_none, errW_some] <;> rfl), by repeat (first | (with_reducible first | exact HB.out | apply below_alloc | apply pw_below_drewN | apply below_drew1) | exact HB.out)⟩

end Go.Proofs.Ythbbdilcclepoaa.Q
