-- MADE BY xrun.sh, a turned copy of the kit's print: not typed by hand
import Derived.Test.YtknmbhllinbcjaaQ0
import Derived.Test.YtknmbhllinbcjaaQ1
import Derived.Test.YtknmbhllinbcjaaQ2
import Derived.Test.YtknmbhllinbcjaaQ3
import Derived.Test.YtknmbhllinbcjaaG3
import Derived.Test.YtknmbhllinbcjaaG5
namespace Go.Proofs.Ytknmbhllinbcjaa.Q
open Go.RowKit Go.Proofs.YtknmbhllinbcjaaW.PrintWords Go.Proofs.YtknmbhllinbcjaaW.PrintLast Go.Proofs.YtknmbhllinbcjaaW.PrintMore
attribute [local go_sem] max2_int min2_int max_two min_two max_three min_three max_four min_four   -- for this text's walks alone
set_option linter.unusedVariables false
set_option linter.unusedSimpArgs false

/-! ### quittancelaw04_SheafBack: function 5 -/
mutual
def quittancelaw04_SheafBack.j0 : Nat → Int → ByteArray → List ByteArray → Bool → Option (Bool)
  | 0, _, _, _, _ => none
  | k + 1, x0, x1, x2, x29 => if x29 = true then ((quittancelaw04_head.f k).bind fun t229 => (some t229)) else ((sheaf_Get.f x2).bind fun bt230 => (if bt230.2.2.2 = true then ((sheaf_Put.f bt230.1 bt230.2.1).bind fun bt234 => (if bt234.2 = 0 then (if (bt234.1.length : Int) = bt230.2.2.1 then (if bt230.2.2.1 > (x2.length : Int) then (some false) else (if 0 ≤ bt230.2.2.1 then (if bt230.2.2.1 ≤ (x2.length : Int) then ((quittanceref01_Same.f k bt234.1 (x2.take (bt230.2.2.1 : Int).toNat)).bind fun t239 => (if t239 = true then (quittancelaw04_SheafBack.j1 k x0 x1 x2) else (some false))) else (none)) else (none))) else (some false)) else (some false))) else (quittancelaw04_SheafBack.j1 k x0 x1 x2)))
def quittancelaw04_SheafBack.j1 : Nat → Int → ByteArray → List ByteArray → Option (Bool)
  | 0, _, _, _ => none
  | k + 1, x0, x1, x2 => (sheaf_Put.f x0 x1).bind fun bt240 => (if bt240.2 = 0 then ((some (([] : List ByteArray) : List ByteArray)).bind fun y245 => (if y245.length + bt240.1.length < 8796093022208 then ((some (y245 ++ bt240.1 : List ByteArray)).bind fun y248 => (if y248.length + x2.length < 8796093022208 then ((sheaf_Get.f (y248 ++ x2)).bind fun bt254 => (if bt254.1 = x0 then (if bt254.2.1.toList = x1.toList then (if bt254.2.2.1 = (bt240.1.length : Int) then (if bt254.2.2.2 = true then (quittancelaw04_SheafBack.j2 k x0 bt240.1 ((bt240.1.length : Int) == 0)) else (quittancelaw04_SheafBack.j2 k x0 bt240.1 true)) else (quittancelaw04_SheafBack.j2 k x0 bt240.1 true)) else (quittancelaw04_SheafBack.j2 k x0 bt240.1 true)) else (quittancelaw04_SheafBack.j2 k x0 bt240.1 true))) else (none))) else (none))) else (if x0 = 0 then (if (bt240.1.length : Int) = 0 then ((quittancelaw04_head.f k).bind fun t244 => (some t244)) else (some false)) else (some false)))
def quittancelaw04_SheafBack.j2 : Nat → Int → List ByteArray → Bool → Option (Bool)
  | 0, _, _, _ => none
  | k + 1, x0, x13, x118 => if x118 = true then (some false) else (if 0 ≤ (wrap64 ((x13.length : Int) - 1)) then (if (wrap64 ((x13.length : Int) - 1)) ≤ (x13.length : Int) then ((sheaf_Get.f (x13.take ((wrap64 ((x13.length : Int) - 1)) : Int).toNat)).bind fun bt262 => (if bt262.2.2.2 = true then (some false) else ((sheaf_Top.f k x13).bind fun t266 => (if t266 = x0 then ((quittancelaw04_head.f k).bind fun t267 => (some t267)) else (some false))))) else (none)) else (none))
end
def quittancelaw04_SheafBack.f (k : Nat) (a0 : Int) (a1 : ByteArray) (l2 : List ByteArray) : Option (Bool) := if (a1.size : Int) > 3000 then (quittancelaw04_SheafBack.j0 k a0 a1 l2 true) else ((quittancelaw04_great.f k l2).bind fun t228 => (quittancelaw04_SheafBack.j0 k a0 a1 l2 t228))
theorem quittancelaw04_SheafBack.mono_l : ∀ k, (∀ y0 y1 y2 y3, LeO (quittancelaw04_SheafBack.j0 k y0 y1 y2 y3) (quittancelaw04_SheafBack.j0 (k + 1) y0 y1 y2 y3)) ∧ (∀ y0 y1 y2, LeO (quittancelaw04_SheafBack.j1 k y0 y1 y2) (quittancelaw04_SheafBack.j1 (k + 1) y0 y1 y2)) ∧ (∀ y0 y1 y2, LeO (quittancelaw04_SheafBack.j2 k y0 y1 y2) (quittancelaw04_SheafBack.j2 (k + 1) y0 y1 y2))
  | 0 => ⟨fun _ _ _ _ r h => by simp [quittancelaw04_SheafBack.j0] at h, fun _ _ _ r h => by simp [quittancelaw04_SheafBack.j1] at h, fun _ _ _ r h => by simp [quittancelaw04_SheafBack.j2] at h⟩
  | k + 1 => by
    obtain ⟨ih0, ih1, ih2⟩ := quittancelaw04_SheafBack.mono_l k
    refine ⟨?_, ?_, ?_⟩
    · intro y0 y1 y2 y3
      unfold quittancelaw04_SheafBack.j0
      repeat' first
      | (with_reducible exact ih0 _ _ _ _)
      | (with_reducible exact ih1 _ _ _)
      | (with_reducible exact ih2 _ _ _)
      | (with_reducible exact quittancelaw04_great.mono _ _)
      | (with_reducible exact quittancelaw04_head.mono _)
      | (with_reducible exact quittanceref01_Same.mono _ _ _)
      | (with_reducible exact sheaf_Top.mono _ _)
      | (with_reducible exact LeO.refl _)
      | (with_reducible exact LeO.none _)
      | (with_reducible refine LeO.ite ?_ ?_)
      | (with_reducible refine LeO.bind ?_ (fun _ => ?_))
      | exact ih0 _ _ _ _
      | exact ih1 _ _ _
      | exact ih2 _ _ _
      | exact quittancelaw04_great.mono _ _
      | exact quittancelaw04_head.mono _
      | exact quittanceref01_Same.mono _ _ _
      | exact sheaf_Top.mono _ _
      | exact LeO.none _
      | refine LeO.ite ?_ ?_
      | refine LeO.bind ?_ (fun _ => ?_)
    · intro y0 y1 y2
      unfold quittancelaw04_SheafBack.j1
      repeat' first
      | (with_reducible exact ih0 _ _ _ _)
      | (with_reducible exact ih1 _ _ _)
      | (with_reducible exact ih2 _ _ _)
      | (with_reducible exact quittancelaw04_great.mono _ _)
      | (with_reducible exact quittancelaw04_head.mono _)
      | (with_reducible exact quittanceref01_Same.mono _ _ _)
      | (with_reducible exact sheaf_Top.mono _ _)
      | (with_reducible exact LeO.refl _)
      | (with_reducible exact LeO.none _)
      | (with_reducible refine LeO.ite ?_ ?_)
      | (with_reducible refine LeO.bind ?_ (fun _ => ?_))
      | exact ih0 _ _ _ _
      | exact ih1 _ _ _
      | exact ih2 _ _ _
      | exact quittancelaw04_great.mono _ _
      | exact quittancelaw04_head.mono _
      | exact quittanceref01_Same.mono _ _ _
      | exact sheaf_Top.mono _ _
      | exact LeO.none _
      | refine LeO.ite ?_ ?_
      | refine LeO.bind ?_ (fun _ => ?_)
    · intro y0 y1 y2
      unfold quittancelaw04_SheafBack.j2
      repeat' first
      | (with_reducible exact ih0 _ _ _ _)
      | (with_reducible exact ih1 _ _ _)
      | (with_reducible exact ih2 _ _ _)
      | (with_reducible exact quittancelaw04_great.mono _ _)
      | (with_reducible exact quittancelaw04_head.mono _)
      | (with_reducible exact quittanceref01_Same.mono _ _ _)
      | (with_reducible exact sheaf_Top.mono _ _)
      | (with_reducible exact LeO.refl _)
      | (with_reducible exact LeO.none _)
      | (with_reducible refine LeO.ite ?_ ?_)
      | (with_reducible refine LeO.bind ?_ (fun _ => ?_))
      | exact ih0 _ _ _ _
      | exact ih1 _ _ _
      | exact ih2 _ _ _
      | exact quittancelaw04_great.mono _ _
      | exact quittancelaw04_head.mono _
      | exact quittanceref01_Same.mono _ _ _
      | exact sheaf_Top.mono _ _
      | exact LeO.none _
      | refine LeO.ite ?_ ?_
      | refine LeO.bind ?_ (fun _ => ?_)
theorem quittancelaw04_SheafBack.mono : ∀ a0 a1 a2 k, LeO (quittancelaw04_SheafBack.f k a0 a1 a2) (quittancelaw04_SheafBack.f (k + 1) a0 a1 a2) := by
  intro a0 a1 a2 k
  obtain ⟨ih0, ih1, ih2⟩ := quittancelaw04_SheafBack.mono_l k
  unfold quittancelaw04_SheafBack.f
  repeat' first
      | (with_reducible exact ih0 _ _ _ _)
      | (with_reducible exact ih1 _ _ _)
      | (with_reducible exact ih2 _ _ _)
      | (with_reducible exact quittancelaw04_great.mono _ _)
      | (with_reducible exact quittancelaw04_head.mono _)
      | (with_reducible exact quittanceref01_Same.mono _ _ _)
      | (with_reducible exact sheaf_Top.mono _ _)
      | (with_reducible exact LeO.refl _)
      | (with_reducible exact LeO.none _)
      | (with_reducible refine LeO.ite ?_ ?_)
      | (with_reducible refine LeO.bind ?_ (fun _ => ?_))
      | exact ih0 _ _ _ _
      | exact ih1 _ _ _
      | exact ih2 _ _ _
      | exact quittancelaw04_great.mono _ _
      | exact quittancelaw04_head.mono _
      | exact quittanceref01_Same.mono _ _ _
      | exact sheaf_Top.mono _ _
      | exact LeO.none _
      | refine LeO.ite ?_ ?_
      | refine LeO.bind ?_ (fun _ => ?_)
set_option maxHeartbeats 8000000 in
set_option maxRecDepth 100000 in
theorem quittancelaw04_SheafBack.calls (k : Nat) (a0 : Int) (a1 : ByteArray) (A2 : Option Addr) (c2 : Nat) (l2 : List ByteArray) (r : Bool) (w : World) (hr2 : Kd.C Kd.string w A2 l2.length l2) (hc2 : l2.length ≤ c2) (h : quittancelaw04_SheafBack.f k a0 a1 l2 = some r) :
    Calls Try.prog 5 #[.int .u64 a0, .string a1, .slice A2 l2.length c2] w fun e w' => e = .returned (.bool r) ∧ Below w.heap.size w w' := by
  have HR2 := Aside0.mk hr2
  have HC2 := Aside0.mk hc2
  clear hr2 hc2
  have HB := Aside0.mk (Below.refl w.heap.size w)
  have H : (if (a1.size : Int) > 3000 then (quittancelaw04_SheafBack.j0 k a0 a1 l2 true) else ((quittancelaw04_great.f k l2).bind fun t228 => (quittancelaw04_SheafBack.j0 k a0 a1 l2 t228))) = some r := h
  clear h
  have HC4 := Aside0.mk H
  clear H
  go_enter Try.func5, Try.ntmps5
  go_upto_region 1 with (fail)
  go_cut [29] (fun v29 wc => ∃ (kq : Nat) (x29_3 : Bool), v29 = .bool x29_3 ∧ Aside0 (quittancelaw04_SheafBack.j0 kq a0 a1 l2 x29_3 = some r) ∧ Aside0 (kq ≤ k) ∧ Aside0 (Below w.heap.size w wc))
  case first =>
    have H := HC4.out
    clear HC4
    by_cases c5 : (a1.size : Int) > 3000
    · rw [if_pos c5] at H
      have c5b0 : decide (3000 < (a1.size : Int)) = true := decide_eq_true c5
      have c5b1 : decide (3000 < a1.size) = true := decide_eq_true (by omega)
      clear c5
      (first | rw [c5b0] | (simp only [i64_w, i32_w]; rw [c5b0]) | skip)
      have H' := Aside0.mk H
      clear H
      go_wp2
      go_meet
      case rel => exact ⟨_, (true), (by first | rfl | (simp; done) | (simp [*]; done)), H', ⟨by first | omega | exact Nat.le_refl _⟩, ⟨by repeat (first | (with_reducible first | exact HB.out | apply below_alloc | apply pw_below_drewN | apply below_drew1) | exact HB.out)⟩⟩
    · rw [if_neg c5] at H
      have c5b0 : decide (3000 < (a1.size : Int)) = false := decide_eq_false c5
      have c5b1 : decide (3000 < a1.size) = false := decide_eq_false (by omega)
      clear c5
      (first | rw [c5b0] | (simp only [i64_w, i32_w]; rw [c5b0]) | skip)
      replace H := Option.bind_eq_some_iff.mp H
      obtain ⟨t228, A60, H⟩ := H
      replace H : (quittancelaw04_SheafBack.j0 k a0 a1 l2 t228) = some r := H
      have A6 := Aside0.mk A60
      clear A60
      have H' := Aside0.mk H
      clear H
      go_wp2_with (first | (go_at_call 13; (with_reducible refine (quittancelaw04_great.calls k _ _ l2 t228 _ ?side1 ?side2 A6.out).mono ?_); (case side1 => repeat (first | exact (Kd.C_below HR2.out HB.out) | (with_reducible refine Kd.C_alloc ?_ _) | (with_reducible refine Kd.C_drewN ?_ _) | (with_reducible refine Kd.C_drew ?_))); (case side2 => exact HC2.out); rintro e w' ⟨rfl, ⟨nd, rfl⟩⟩))
      go_meet
      case rel => exact ⟨_, (t228), (by first | rfl | (simp; done) | (simp [*]; done)), H', ⟨by first | omega | exact Nat.le_refl _⟩, ⟨by repeat (first | (with_reducible first | exact HB.out | apply below_alloc | apply pw_below_drewN | apply below_drew1) | exact HB.out)⟩⟩
  case rest =>
    clear HC4
    try clear c2
    try clear p2
    try clear c5
    try clear c5b0
    try clear c5b1
    obtain ⟨kq, x29_3, rfl, HA, HJ3, HB⟩ := hcut
    cases kq with
    | zero => exact absurd HA.out (by simp [quittancelaw04_SheafBack.j0])
    | succ kj3 =>
      have H := HA.out
      clear HA
      simp only [quittancelaw04_SheafBack.j0] at H
      by_cases c7 : x29_3 = true
      · subst c7
        have H1 : ((quittancelaw04_head.f kj3).bind fun t229 => (some t229)) = some r := by rw [if_pos rfl] at H; exact H
        clear H
        have H := H1
        clear H1
        replace H := Option.bind_eq_some_iff.mp H
        obtain ⟨t229, A80, H⟩ := H
        replace H : (some t229) = some r := H
        have A8 := Aside0.mk A80
        clear A80
        obtain rfl := Option.some.inj H
        go_wp2_with (first | ((with_reducible refine gate_callee (f := 7) rfl ?_); refine goesL_ (some 30) rfl rfl Try.func7 (by kernel_rfl) rfl #[] rfl (by (try simp only [List.map_toArray, List.map_cons, List.map_nil]); first | done | rfl | (simp only [List.length_drop, List.length_take]; rfl)) ?_; (with_reducible refine (quittancelaw04_head.calls kj3  t229 _ A8.out).mono ?_); rintro e w9 ⟨rfl, hb⟩; refine ⟨_, rfl, ?_⟩; have n0_ := Aside0.mk (below_step (by repeat (first | (with_reducible first | exact HB.out | apply below_alloc | apply pw_below_drewN | apply below_drew1) | exact HB.out)) hb); clear HB; have HB := n0_; clear n0_; (try clear hb); (try clear hb2); (try clear hk); (try clear hi)))
        go_ret
        exact ⟨by first | rfl | (simp [errW_none, errW_some] <;> rfl) | (simp [*, errW_none, errW_some] <;> rfl), by repeat (first | (with_reducible first | exact HB.out | apply below_alloc | apply pw_below_drewN | apply below_drew1) | exact HB.out)⟩
      · replace c7 := Bool.eq_false_iff.mpr c7
        subst c7
        have H1 : ((sheaf_Get.f l2).bind fun bt230 => (if bt230.2.2.2 = true then ((sheaf_Put.f bt230.1 bt230.2.1).bind fun bt234 => (if bt234.2 = 0 then (if (bt234.1.length : Int) = bt230.2.2.1 then (if bt230.2.2.1 > (l2.length : Int) then (some false) else (if 0 ≤ bt230.2.2.1 then (if bt230.2.2.1 ≤ (l2.length : Int) then ((quittanceref01_Same.f kj3 bt234.1 (l2.take (bt230.2.2.1 : Int).toNat)).bind fun t239 => (if t239 = true then (quittancelaw04_SheafBack.j1 kj3 a0 a1 l2) else (some false))) else (none)) else (none))) else (some false)) else (some false))) else (quittancelaw04_SheafBack.j1 kj3 a0 a1 l2))) = some r := by rw [if_neg (show ¬ (false = true) by decide)] at H; exact H
        clear H
        have H := H1
        clear H1
        replace H := Option.bind_eq_some_iff.mp H
        obtain ⟨⟨t230, t231, t232, t233⟩, A100, H⟩ := H
        replace H : (if t233 = true then ((sheaf_Put.f t230 t231).bind fun bt234 => (if bt234.2 = 0 then (if (bt234.1.length : Int) = t232 then (if t232 > (l2.length : Int) then (some false) else (if 0 ≤ t232 then (if t232 ≤ (l2.length : Int) then ((quittanceref01_Same.f kj3 bt234.1 (l2.take (t232 : Int).toNat)).bind fun t239 => (if t239 = true then (quittancelaw04_SheafBack.j1 kj3 a0 a1 l2) else (some false))) else (none)) else (none))) else (some false)) else (some false))) else (quittancelaw04_SheafBack.j1 kj3 a0 a1 l2)) = some r := H
        have A10 := Aside0.mk A100
        clear A100
        have HC11 := Aside0.mk H
        clear H
        go_upto_if 38 with (first | ((with_reducible refine gate_callee (f := 14) rfl ?_); refine goesL_ (some 33) rfl rfl Try.func14 (by kernel_rfl) rfl #[.slice A2 l2.length c2] rfl (by (try simp only [List.map_toArray, List.map_cons, List.map_nil]); first | done | rfl | (simp only [List.length_drop, List.length_take]; rfl)) ?_; (with_reducible refine (sheaf_Get.calls _ _ l2 t230 t231 t232 t233 _ ?side1 ?side2 A10.out).mono ?_); (case side1 => repeat (first | exact (Kd.C_below HR2.out HB.out) | (with_reducible refine Kd.C_alloc ?_ _) | (with_reducible refine Kd.C_drewN ?_ _) | (with_reducible refine Kd.C_drew ?_))); (case side2 => exact HC2.out); rintro e w12 ⟨rfl, hb⟩; refine ⟨_, rfl, ?_⟩; have n0_ := Aside0.mk (below_step (by repeat (first | (with_reducible first | exact HB.out | apply below_alloc | apply pw_below_drewN | apply below_drew1) | exact HB.out)) hb); clear HB; have HB := n0_; clear n0_; (try clear hb); (try clear hb2); (try clear hk); (try clear hi)))
        (try simp only [Act.put, List.setIfInBounds_toArray, List.set_cons_zero, List.set_cons_succ])
        go_cut [] (fun wc => ∃ (kq : Nat), Aside0 (quittancelaw04_SheafBack.j1 kq a0 a1 l2 = some r) ∧ Aside0 (kq ≤ kj3) ∧ Aside0 (Below w.heap.size w wc))
        case first =>
          have H := HC11.out
          clear HC11
          by_cases c13 : t233 = true
          · subst c13
            have H1 : ((sheaf_Put.f t230 t231).bind fun bt234 => (if bt234.2 = 0 then (if (bt234.1.length : Int) = t232 then (if t232 > (l2.length : Int) then (some false) else (if 0 ≤ t232 then (if t232 ≤ (l2.length : Int) then ((quittanceref01_Same.f kj3 bt234.1 (l2.take (t232 : Int).toNat)).bind fun t239 => (if t239 = true then (quittancelaw04_SheafBack.j1 kj3 a0 a1 l2) else (some false))) else (none)) else (none))) else (some false)) else (some false))) = some r := by rw [if_pos rfl] at H; exact H
            clear H
            have H := H1
            clear H1
            replace H := Option.bind_eq_some_iff.mp H
            obtain ⟨⟨t234, t235⟩, A140, H⟩ := H
            replace H : (if t235 = 0 then (if (t234.length : Int) = t232 then (if t232 > (l2.length : Int) then (some false) else (if 0 ≤ t232 then (if t232 ≤ (l2.length : Int) then ((quittanceref01_Same.f kj3 t234 (l2.take (t232 : Int).toNat)).bind fun t239 => (if t239 = true then (quittancelaw04_SheafBack.j1 kj3 a0 a1 l2) else (some false))) else (none)) else (none))) else (some false)) else (some false)) = some r := H
            have A14 := Aside0.mk A140
            clear A140
            by_cases c15 : t235 = 0
            · rw [if_pos c15] at H
              have c15b0 : (t235 == 0) = true := beq_iff_eq.mpr c15
              have c15b1 : (t235 != 0) = false := bne_eq_false_iff_eq.mpr c15
              clear c15
              (first | rw [c15b0] | (simp only [i64_w, i32_w]; rw [c15b0]) | skip)
              by_cases c16 : (t234.length : Int) = t232
              · rw [if_pos c16] at H
                have c16b0 : ((t234.length : Int) == t232) = true := beq_iff_eq.mpr c16
                have c16b1 : ((t234.length : Int) != t232) = false := bne_eq_false_iff_eq.mpr c16
                clear c16
                by_cases c17 : t232 > (l2.length : Int)
                · rw [if_pos c17] at H
                  have c17b0 : decide ((l2.length : Int) < t232) = true := decide_eq_true c17
                  clear c17
                  obtain rfl := Option.some.inj H
                  go_wp2_with (first | ((with_reducible refine gate_callee (f := 8) rfl ?_); refine goesL_ (some 42) rfl rfl Try.func8 (by kernel_rfl) rfl #[.int .u64 t230, .string t231] rfl (by (try simp only [List.map_toArray, List.map_cons, List.map_nil]); first | done | rfl | (simp only [List.length_drop, List.length_take]; rfl)) ?_; (with_reducible refine (sheaf_Put.calls t230 t231 t234 t235 _ A14.out).mono ?_); rintro e w18 ⟨v236, rfl, ho0, hb⟩; refine ⟨_, rfl, ?_⟩; have n0_ := Aside0.mk (Kd.R_lower ho0 (below_size (by repeat (first | (with_reducible first | exact HB.out | apply below_alloc | apply pw_below_drewN | apply below_drew1) | exact HB.out)))); have n1_ := Aside0.mk (below_step (by repeat (first | (with_reducible first | exact HB.out | apply below_alloc | apply pw_below_drewN | apply below_drew1) | exact HB.out)) hb); clear HB; have HO237 := n0_; have HB := n1_; clear n0_ n1_; (try clear hb); (try clear hb2); (try clear hk); (try clear hi); (try clear ho0); obtain ⟨Ao19, co19, eo19⟩ := Kd.R_slice HO237.out; subst eo19))
                  go_ret
                  exact ⟨by first | rfl | (simp [errW_none, errW_some] <;> rfl) | (simp [*, errW_none, errW_some] <;> rfl), by repeat (first | (with_reducible first | exact HB.out | apply below_alloc | apply pw_below_drewN | apply below_drew1) | exact HB.out)⟩
                · rw [if_neg c17] at H
                  have c17b0 : decide ((l2.length : Int) < t232) = false := decide_eq_false c17
                  clear c17
                  by_cases c20 : 0 ≤ t232
                  · rw [if_pos c20] at H
                    have c20b0 := eq_true c20
                    have c20b1 : decide (0 ≤ t232) = true := decide_eq_true c20
                    clear c20
                    by_cases c21 : t232 ≤ (l2.length : Int)
                    · rw [if_pos c21] at H
                      have c21b0 := eq_true c21
                      have c21b1 : decide (t232 ≤ (l2.length : Int)) = true := decide_eq_true c21
                      clear c21
                      replace H := Option.bind_eq_some_iff.mp H
                      obtain ⟨t239, A220, H⟩ := H
                      replace H : (if t239 = true then (quittancelaw04_SheafBack.j1 kj3 a0 a1 l2) else (some false)) = some r := H
                      have A22 := Aside0.mk A220
                      clear A220
                      by_cases c23 : t239 = true
                      · subst c23
                        have H1 : (quittancelaw04_SheafBack.j1 kj3 a0 a1 l2) = some r := by rw [if_pos rfl] at H; exact H
                        clear H
                        have H := H1
                        clear H1
                        have H' := Aside0.mk H
                        clear H
                        go_wp2_with (first | ((with_reducible refine gate_callee (f := 8) rfl ?_); refine goesL_ (some 42) rfl rfl Try.func8 (by kernel_rfl) rfl #[.int .u64 t230, .string t231] rfl (by (try simp only [List.map_toArray, List.map_cons, List.map_nil]); first | done | rfl | (simp only [List.length_drop, List.length_take]; rfl) | (simp only [List.length_drop, List.length_take, Int.toNat_natCast]; rfl) | (simp only [List.length_drop, List.length_take, Int.toNat_natCast])) ?_; (with_reducible refine (sheaf_Put.calls t230 t231 t234 t235 _ A14.out).mono ?_); rintro e w24 ⟨v236, rfl, ho0, hb⟩; refine ⟨_, rfl, ?_⟩; have n0_ := Aside0.mk (Kd.R_lower ho0 (below_size (by repeat (first | (with_reducible first | exact HB.out | apply below_alloc | apply pw_below_drewN | apply below_drew1) | exact HB.out)))); have n1_ := Aside0.mk (below_step (by repeat (first | (with_reducible first | exact HB.out | apply below_alloc | apply pw_below_drewN | apply below_drew1) | exact HB.out)) hb); clear HB; have HO237 := n0_; have HB := n1_; clear n0_ n1_; (try clear hb); (try clear hb2); (try clear hk); (try clear hi); (try clear ho0); obtain ⟨Ao25, co25, eo25⟩ := Kd.R_slice HO237.out; subst eo25; obtain ⟨i026, hi026, _, hsz26, _⟩ := info_parts info9; obtain ⟨hcut26, hA26, hC26⟩ := print_take_of (P := Try.prog) Value.string (⟨#[]⟩ : ByteArray) 24 9 .i64 Try.underlying24 hi026 hsz26 A2 c2 l2 t232 (of_decide_eq_true (by first | (with_reducible assumption) | assumption)) (of_decide_eq_true (by first | (with_reducible assumption) | assumption)) HC2.out; have HR238 := Aside0.mk (Kd.C_of_reads (h1 := fun _ => rfl) (hA26 _ (Kd.reads_of_C HR2.out))); have HC238 := Aside0.mk hC26; clear hA26 hC26 hi026 hsz26) | (go_at_call 10; (rw [← (show (l2.take (t232 : Int).toNat).length = (t232 : Int).toNat by rw [List.length_take]; have := of_decide_eq_true c21b1; omega)]); (with_reducible refine (quittanceref01_Same.calls kj3 _ _ t234 _ _ (l2.take (t232 : Int).toNat) true _ ?side1 ?side2 ?side3 ?side4 A22.out).mono ?_); (case side1 => repeat (first | exact (Kd.R_reads' HO237.out).2.2 | (with_reducible refine Kd.C_alloc ?_ _) | (with_reducible refine Kd.C_drewN ?_ _) | (with_reducible refine Kd.C_drew ?_))); (case side2 => exact (Kd.R_reads' HO237.out).2.1); (case side3 => repeat (first | exact (Kd.C_below HR238.out HB.out) | (with_reducible refine Kd.C_alloc ?_ _) | (with_reducible refine Kd.C_drewN ?_ _) | (with_reducible refine Kd.C_drew ?_))); (case side4 => exact HC238.out); rintro e w' ⟨rfl, ⟨nd, rfl⟩⟩))
                        go_meet
                        case rel => exact ⟨_, H', ⟨by have := HJ3.out; first | omega | exact Nat.le_refl _⟩, ⟨by repeat (first | (with_reducible first | exact HB.out | apply below_alloc | apply pw_below_drewN | apply below_drew1) | exact HB.out)⟩⟩
                      · replace c23 := Bool.eq_false_iff.mpr c23
                        subst c23
                        have H1 : (some false) = some r := by rw [if_neg (show ¬ (false = true) by decide)] at H; exact H
                        clear H
                        have H := H1
                        clear H1
                        obtain rfl := Option.some.inj H
                        go_wp2_with (first | ((with_reducible refine gate_callee (f := 8) rfl ?_); refine goesL_ (some 42) rfl rfl Try.func8 (by kernel_rfl) rfl #[.int .u64 t230, .string t231] rfl (by (try simp only [List.map_toArray, List.map_cons, List.map_nil]); first | done | rfl | (simp only [List.length_drop, List.length_take]; rfl) | (simp only [List.length_drop, List.length_take, Int.toNat_natCast]; rfl) | (simp only [List.length_drop, List.length_take, Int.toNat_natCast])) ?_; (with_reducible refine (sheaf_Put.calls t230 t231 t234 t235 _ A14.out).mono ?_); rintro e w27 ⟨v236, rfl, ho0, hb⟩; refine ⟨_, rfl, ?_⟩; have n0_ := Aside0.mk (Kd.R_lower ho0 (below_size (by repeat (first | (with_reducible first | exact HB.out | apply below_alloc | apply pw_below_drewN | apply below_drew1) | exact HB.out)))); have n1_ := Aside0.mk (below_step (by repeat (first | (with_reducible first | exact HB.out | apply below_alloc | apply pw_below_drewN | apply below_drew1) | exact HB.out)) hb); clear HB; have HO237 := n0_; have HB := n1_; clear n0_ n1_; (try clear hb); (try clear hb2); (try clear hk); (try clear hi); (try clear ho0); obtain ⟨Ao28, co28, eo28⟩ := Kd.R_slice HO237.out; subst eo28; obtain ⟨i029, hi029, _, hsz29, _⟩ := info_parts info9; obtain ⟨hcut29, hA29, hC29⟩ := print_take_of (P := Try.prog) Value.string (⟨#[]⟩ : ByteArray) 24 9 .i64 Try.underlying24 hi029 hsz29 A2 c2 l2 t232 (of_decide_eq_true (by first | (with_reducible assumption) | assumption)) (of_decide_eq_true (by first | (with_reducible assumption) | assumption)) HC2.out; have HR238 := Aside0.mk (Kd.C_of_reads (h1 := fun _ => rfl) (hA29 _ (Kd.reads_of_C HR2.out))); have HC238 := Aside0.mk hC29; clear hA29 hC29 hi029 hsz29) | (go_at_call 10; (rw [← (show (l2.take (t232 : Int).toNat).length = (t232 : Int).toNat by rw [List.length_take]; have := of_decide_eq_true c21b1; omega)]); (with_reducible refine (quittanceref01_Same.calls kj3 _ _ t234 _ _ (l2.take (t232 : Int).toNat) false _ ?side1 ?side2 ?side3 ?side4 A22.out).mono ?_); (case side1 => repeat (first | exact (Kd.R_reads' HO237.out).2.2 | (with_reducible refine Kd.C_alloc ?_ _) | (with_reducible refine Kd.C_drewN ?_ _) | (with_reducible refine Kd.C_drew ?_))); (case side2 => exact (Kd.R_reads' HO237.out).2.1); (case side3 => repeat (first | exact (Kd.C_below HR238.out HB.out) | (with_reducible refine Kd.C_alloc ?_ _) | (with_reducible refine Kd.C_drewN ?_ _) | (with_reducible refine Kd.C_drew ?_))); (case side4 => exact HC238.out); rintro e w' ⟨rfl, ⟨nd, rfl⟩⟩))
                        go_ret
                        exact ⟨by first | rfl | (simp [errW_none, errW_some] <;> rfl) | (simp [*, errW_none, errW_some] <;> rfl), by repeat (first | (with_reducible first | exact HB.out | apply below_alloc | apply pw_below_drewN | apply below_drew1) | exact HB.out)⟩
                    · rw [if_neg c21] at H
                      exact absurd H (by simp)
                  · rw [if_neg c20] at H
                    exact absurd H (by simp)
              · rw [if_neg c16] at H
                have c16b0 : ((t234.length : Int) == t232) = false := beq_eq_false_iff_ne.mpr c16
                have c16b1 : ((t234.length : Int) != t232) = true := bne_iff_ne.mpr c16
                obtain rfl := Option.some.inj H
                go_wp2_with (first | ((with_reducible refine gate_callee (f := 8) rfl ?_); refine goesL_ (some 42) rfl rfl Try.func8 (by kernel_rfl) rfl #[.int .u64 t230, .string t231] rfl (by (try simp only [List.map_toArray, List.map_cons, List.map_nil]); first | done | rfl | (simp only [List.length_drop, List.length_take]; rfl)) ?_; (with_reducible refine (sheaf_Put.calls t230 t231 t234 t235 _ A14.out).mono ?_); rintro e w30 ⟨v236, rfl, ho0, hb⟩; refine ⟨_, rfl, ?_⟩; have n0_ := Aside0.mk (Kd.R_lower ho0 (below_size (by repeat (first | (with_reducible first | exact HB.out | apply below_alloc | apply pw_below_drewN | apply below_drew1) | exact HB.out)))); have n1_ := Aside0.mk (below_step (by repeat (first | (with_reducible first | exact HB.out | apply below_alloc | apply pw_below_drewN | apply below_drew1) | exact HB.out)) hb); clear HB; have HO237 := n0_; have HB := n1_; clear n0_ n1_; (try clear hb); (try clear hb2); (try clear hk); (try clear hi); (try clear ho0); obtain ⟨Ao31, co31, eo31⟩ := Kd.R_slice HO237.out; subst eo31))
                go_ret
                exact ⟨by first | rfl | (simp [errW_none, errW_some] <;> rfl) | (simp [*, errW_none, errW_some] <;> rfl), by repeat (first | (with_reducible first | exact HB.out | apply below_alloc | apply pw_below_drewN | apply below_drew1) | exact HB.out)⟩
            · rw [if_neg c15] at H
              have c15b0 : (t235 == 0) = false := beq_eq_false_iff_ne.mpr c15
              have c15b1 : (t235 != 0) = true := bne_iff_ne.mpr c15
              (first | rw [c15b0] | (simp only [i64_w, i32_w]; rw [c15b0]) | skip)
              obtain rfl := Option.some.inj H
              go_wp2_with (first | ((with_reducible refine gate_callee (f := 8) rfl ?_); refine goesL_ (some 42) rfl rfl Try.func8 (by kernel_rfl) rfl #[.int .u64 t230, .string t231] rfl (by (try simp only [List.map_toArray, List.map_cons, List.map_nil]); first | done | rfl | (simp only [List.length_drop, List.length_take]; rfl)) ?_; (with_reducible refine (sheaf_Put.calls t230 t231 t234 t235 _ A14.out).mono ?_); rintro e w32 ⟨v236, rfl, ho0, hb⟩; refine ⟨_, rfl, ?_⟩; have n0_ := Aside0.mk (Kd.R_lower ho0 (below_size (by repeat (first | (with_reducible first | exact HB.out | apply below_alloc | apply pw_below_drewN | apply below_drew1) | exact HB.out)))); have n1_ := Aside0.mk (below_step (by repeat (first | (with_reducible first | exact HB.out | apply below_alloc | apply pw_below_drewN | apply below_drew1) | exact HB.out)) hb); clear HB; have HO237 := n0_; have HB := n1_; clear n0_ n1_; (try clear hb); (try clear hb2); (try clear hk); (try clear hi); (try clear ho0)))
              go_ret
              exact ⟨by first | rfl | (simp [errW_none, errW_some] <;> rfl) | (simp [*, errW_none, errW_some] <;> rfl), by repeat (first | (with_reducible first | exact HB.out | apply below_alloc | apply pw_below_drewN | apply below_drew1) | exact HB.out)⟩
          · replace c13 := Bool.eq_false_iff.mpr c13
            subst c13
            have H1 : (quittancelaw04_SheafBack.j1 kj3 a0 a1 l2) = some r := by rw [if_neg (show ¬ (false = true) by decide)] at H; exact H
            clear H
            have H := H1
            clear H1
            have H' := Aside0.mk H
            clear H
            go_wp2
            go_meet
            case rel => exact ⟨_, H', ⟨by have := HJ3.out; first | omega | exact Nat.le_refl _⟩, ⟨by repeat (first | (with_reducible first | exact HB.out | apply below_alloc | apply pw_below_drewN | apply below_drew1) | exact HB.out)⟩⟩
        case rest =>
          clear HC11
          try clear c1
          try clear c2
          try clear p2
          try clear c5
          try clear c5b0
          try clear c5b1
          try clear c7
          try clear c8
          try clear c13
          try clear c14
          try clear c15
          try clear c15b0
          try clear c15b1
          try clear c16
          try clear c16b0
          try clear c16b1
          try clear c17
          try clear c17b0
          try clear c20
          try clear c20b0
          try clear c20b1
          try clear c21
          try clear c21b0
          try clear c21b1
          try clear c23
          try clear p2
          obtain ⟨kq, HA, HJ10, HB⟩ := hcut
          cases kq with
          | zero => exact absurd HA.out (by simp [quittancelaw04_SheafBack.j1])
          | succ kj10 =>
            have H := HA.out
            clear HA
            simp only [quittancelaw04_SheafBack.j1] at H
            replace H := Option.bind_eq_some_iff.mp H
            obtain ⟨⟨t240, t241⟩, A330, H⟩ := H
            replace H : (if t241 = 0 then ((some (([] : List ByteArray) : List ByteArray)).bind fun y245 => (if y245.length + t240.length < 8796093022208 then ((some (y245 ++ t240 : List ByteArray)).bind fun y248 => (if y248.length + l2.length < 8796093022208 then ((sheaf_Get.f (y248 ++ l2)).bind fun bt254 => (if bt254.1 = a0 then (if bt254.2.1.toList = a1.toList then (if bt254.2.2.1 = (t240.length : Int) then (if bt254.2.2.2 = true then (quittancelaw04_SheafBack.j2 kj10 a0 t240 ((t240.length : Int) == 0)) else (quittancelaw04_SheafBack.j2 kj10 a0 t240 true)) else (quittancelaw04_SheafBack.j2 kj10 a0 t240 true)) else (quittancelaw04_SheafBack.j2 kj10 a0 t240 true)) else (quittancelaw04_SheafBack.j2 kj10 a0 t240 true))) else (none))) else (none))) else (if a0 = 0 then (if (t240.length : Int) = 0 then ((quittancelaw04_head.f kj10).bind fun t244 => (some t244)) else (some false)) else (some false))) = some r := H
            have A33 := Aside0.mk A330
            clear A330
            by_cases c34 : t241 = 0
            · rw [if_pos c34] at H
              have c34b0 : (t241 == 0) = true := beq_iff_eq.mpr c34
              have c34b1 : (t241 != 0) = false := bne_eq_false_iff_eq.mpr c34
              clear c34
              obtain ⟨y245, hy245⟩ : ∃ y_ : List ByteArray, y_ = (([] : List ByteArray)) := ⟨_, rfl⟩
              replace H : (if y245.length + t240.length < 8796093022208 then ((some (y245 ++ t240 : List ByteArray)).bind fun y248 => (if y248.length + l2.length < 8796093022208 then ((sheaf_Get.f (y248 ++ l2)).bind fun bt254 => (if bt254.1 = a0 then (if bt254.2.1.toList = a1.toList then (if bt254.2.2.1 = (t240.length : Int) then (if bt254.2.2.2 = true then (quittancelaw04_SheafBack.j2 kj10 a0 t240 ((t240.length : Int) == 0)) else (quittancelaw04_SheafBack.j2 kj10 a0 t240 true)) else (quittancelaw04_SheafBack.j2 kj10 a0 t240 true)) else (quittancelaw04_SheafBack.j2 kj10 a0 t240 true)) else (quittancelaw04_SheafBack.j2 kj10 a0 t240 true))) else (none))) else (none)) = some r := by first | (rw [hy245]; with_reducible exact H) | (have H2_ := (Option.bind_some _ _).symm.trans H; rw [hy245]; with_reducible exact H2_) | (have H2_ := (Option.bind_some _ _).symm.trans H; with_reducible exact H2_) | with_reducible exact H | (rw [hy245]; exact H) | exact H
              have Ny245 := Aside0.mk hy245
              clear hy245
              by_cases c35 : y245.length + t240.length < 8796093022208
              · rw [if_pos c35] at H
                have LMc35 := Aside0.mk c35
                clear c35
                obtain ⟨y248, hy248⟩ : ∃ y_ : List ByteArray, y_ = (y245 ++ t240) := ⟨_, rfl⟩
                replace H : (if y248.length + l2.length < 8796093022208 then ((sheaf_Get.f (y248 ++ l2)).bind fun bt254 => (if bt254.1 = a0 then (if bt254.2.1.toList = a1.toList then (if bt254.2.2.1 = (t240.length : Int) then (if bt254.2.2.2 = true then (quittancelaw04_SheafBack.j2 kj10 a0 t240 ((t240.length : Int) == 0)) else (quittancelaw04_SheafBack.j2 kj10 a0 t240 true)) else (quittancelaw04_SheafBack.j2 kj10 a0 t240 true)) else (quittancelaw04_SheafBack.j2 kj10 a0 t240 true)) else (quittancelaw04_SheafBack.j2 kj10 a0 t240 true))) else (none)) = some r := by first | (rw [hy248]; with_reducible exact H) | (have H2_ := (Option.bind_some _ _).symm.trans H; rw [hy248]; with_reducible exact H2_) | (have H2_ := (Option.bind_some _ _).symm.trans H; with_reducible exact H2_) | with_reducible exact H | (rw [hy248]; exact H) | exact H
                have Ny248 := Aside0.mk hy248
                clear hy248
                by_cases c36 : y248.length + l2.length < 8796093022208
                · rw [if_pos c36] at H
                  have LMc36 := Aside0.mk c36
                  clear c36
                  obtain ⟨y251, hy251⟩ : ∃ y_ : List ByteArray, y_ = (y248 ++ l2) := ⟨_, rfl⟩
                  replace H : ((sheaf_Get.f y251).bind fun bt254 => (if bt254.1 = a0 then (if bt254.2.1.toList = a1.toList then (if bt254.2.2.1 = (t240.length : Int) then (if bt254.2.2.2 = true then (quittancelaw04_SheafBack.j2 kj10 a0 t240 ((t240.length : Int) == 0)) else (quittancelaw04_SheafBack.j2 kj10 a0 t240 true)) else (quittancelaw04_SheafBack.j2 kj10 a0 t240 true)) else (quittancelaw04_SheafBack.j2 kj10 a0 t240 true)) else (quittancelaw04_SheafBack.j2 kj10 a0 t240 true))) = some r := by first | (rw [hy251]; with_reducible exact H) | (have H2_ := (Option.bind_some _ _).symm.trans H; rw [hy251]; with_reducible exact H2_) | (have H2_ := (Option.bind_some _ _).symm.trans H; with_reducible exact H2_) | with_reducible exact H | (rw [hy251]; exact H) | exact H
                  have Ny251 := Aside0.mk hy251
                  clear hy251
                  replace H := Option.bind_eq_some_iff.mp H
                  obtain ⟨⟨t254, t255, t256, t257⟩, A370, H⟩ := H
                  replace H : (if t254 = a0 then (if t255.toList = a1.toList then (if t256 = (t240.length : Int) then (if t257 = true then (quittancelaw04_SheafBack.j2 kj10 a0 t240 ((t240.length : Int) == 0)) else (quittancelaw04_SheafBack.j2 kj10 a0 t240 true)) else (quittancelaw04_SheafBack.j2 kj10 a0 t240 true)) else (quittancelaw04_SheafBack.j2 kj10 a0 t240 true)) else (quittancelaw04_SheafBack.j2 kj10 a0 t240 true)) = some r := H
                  have A37 := Aside0.mk A370
                  clear A370
                  have HC38 := Aside0.mk H
                  clear H
                  go_upto_region 12 with (first | ((with_reducible refine gate_callee (f := 8) rfl ?_); refine goesL_ (some 70) rfl rfl Try.func8 (by kernel_rfl) rfl #[.int .u64 a0, .string a1] rfl (by (try simp only [List.map_toArray, List.map_cons, List.map_nil]); first | done | rfl | (simp only [List.length_drop, List.length_take]; rfl)) ?_; (with_reducible refine (sheaf_Put.calls a0 a1 t240 t241 _ A33.out).mono ?_); rintro e w39 ⟨v242, rfl, ho0, hb⟩; refine ⟨_, rfl, ?_⟩; have n0_ := Aside0.mk (Kd.R_lower ho0 (below_size (by repeat (first | (with_reducible first | exact HB.out | apply below_alloc | apply pw_below_drewN | apply below_drew1) | exact HB.out)))); have n1_ := Aside0.mk (below_step (by repeat (first | (with_reducible first | exact HB.out | apply below_alloc | apply pw_below_drewN | apply below_drew1) | exact HB.out)) hb); clear HB; have HO243 := n0_; have HB := n1_; clear n0_ n1_; (try clear hb); (try clear hb2); (try clear hk); (try clear hi); (try clear ho0)) | ((with_reducible refine gate_dst (N := 86) rfl ?_); (try (refine gate_guard (by rfl) ?_; dsimp only)); refine Kd.R_lit Kd.string _ 9 ?hg (N := 86) ?hd (xs := ([] : List ByteArray)) (inner := []) (ok := fun _ => True) (okp := fun _ => True) ?hr ?hp (fun _ hk => hk) trivial (Below.refl _ _) (Nat.le_refl _) (by simp) ?_; (case hd => rfl); (case hg => rfl); (case hr => first | (go_simp; done) | (go_simp; rfl)); (case hp => exact (Reps.none _ _)); intro v246 w40 ho41 hb hg_ hnew_; clear hg_ hnew_; (first | rw [← Ny245.out] at ho41 | (simp only [Int.reduceToNat] at ho41; rw [← Ny245.out] at ho41)); have n0_ := Aside0.mk (Kd.R_elder' (by (with_reducible repeat (first | apply Kd.R_alloc | apply Kd.R_drewN | apply Kd.R_drew)); exact HO243.out) (Kd.R_base ho41) hb); have n1_ := Aside0.mk (Kd.R_lower (Kd.R_new' ho41 (Kd.R_lt (by (with_reducible repeat (first | apply Kd.R_alloc | apply Kd.R_drewN | apply Kd.R_drew)); exact HO243.out))) (below_size (by repeat (first | (with_reducible first | exact HB.out | apply below_alloc | apply pw_below_drewN | apply below_drew1) | exact HB.out)))); have n2_ := Aside0.mk (below_step (by repeat (first | (with_reducible first | exact HB.out | apply below_alloc | apply pw_below_drewN | apply below_drew1) | exact HB.out)) hb); clear HO243; clear HB; have HO243 := n0_; have HO247 := n1_; have HB := n2_; clear n0_ n1_ n2_; clear hb ho41; obtain ⟨Ao43, co43, eo43⟩ := Kd.R_slice HO243.out; subst eo43) | ((with_reducible refine gate_builtin (b := .append) (xs := #[.tmp 86, .tmp 87]) rfl ?_); (try (refine gate_guard (by rfl) ?_; dsimp only)); at_builtin; refine Kd.R_append_rows Kd.string (w0 := w) w.heap.size rfl (.tmp 86) (.tmp 87) 24 9 (.string ⟨#[]⟩) 16 rfl Try.underlying24 info9 rfl (by decide) (by omega) v246 y245 t240 _ _ _ (fun k_ => some k_ ≠ (.slice Ao43 t240.length co43 : Value).ownBlock) (fun _ => False) rfl rfl ?aO ?aR (fun _ _ h => h) (fun _ h => h.elim) ?aF ?aB ?aS ?aL ?_; (case aR => repeat (first | exact (Kd.R_reads' HO243.out).2.2 | (with_reducible refine Kd.C_alloc ?_ _) | (with_reducible refine Kd.C_drewN ?_ _) | (with_reducible refine Kd.C_drew ?_))); (case aB => exact (by repeat (first | (with_reducible first | exact HB.out | apply below_alloc | apply pw_below_drewN | apply below_drew1) | exact HB.out))); (case aF => exact (fun k_ hk => Kd.fresh' (Kd.R_lt (by (with_reducible repeat (first | apply Kd.R_alloc | apply Kd.R_drewN | apply Kd.R_drew)); exact HO243.out)) k_ hk)); (case aO => exact (by (with_reducible repeat (first | apply Kd.R_alloc | apply Kd.R_drewN | apply Kd.R_drew)); exact Kd.R_mono HO247.out (fun _ hk => hk.2))); (case aS => exact (below_size (by repeat (first | (with_reducible first | exact HB.out | apply below_alloc | apply pw_below_drewN | apply below_drew1) | exact HB.out)))); (case aL => have := LMc35.out; omega); intro v249 w42 ho hb hg hat; rw [← Ny248.out] at ho; have n0_ := Aside0.mk (Kd.R_after (ok := (fun _ => True)) (by (with_reducible repeat (first | apply Kd.R_alloc | apply Kd.R_drewN | apply Kd.R_drew)); exact HO243.out) hg hat); have n1_ := Aside0.mk (hb); have n2_ := Aside0.mk (ho); clear HO243; clear HB; clear HO247; have HO243 := n0_; have HB := n1_; have HO250 := n2_; clear n0_ n1_ n2_; clear ho hb hg hat) | ((with_reducible refine gate_builtin (b := .append) (xs := #[.tmp 88, .tmp 89]) rfl ?_); (try (refine gate_guard (by rfl) ?_; dsimp only)); at_builtin; refine Kd.R_append_rows Kd.string (w0 := w) w.heap.size rfl (.tmp 88) (.tmp 89) 24 9 (.string ⟨#[]⟩) 16 rfl Try.underlying24 info9 rfl (by decide) (by omega) v249 y248 l2 _ _ _ (fun k_ => some k_ ≠ (.slice Ao43 t240.length co43 : Value).ownBlock) (fun _ => False) rfl rfl ?aO ?aR (fun _ _ h => h) (fun _ h => h.elim) ?aF ?aB ?aS ?aL ?_; (case aR => repeat (first | exact (Kd.C_below HR2.out HB.out) | (with_reducible refine Kd.C_alloc ?_ _) | (with_reducible refine Kd.C_drewN ?_ _) | (with_reducible refine Kd.C_drew ?_))); (case aB => exact (by repeat (first | (with_reducible first | exact HB.out | apply below_alloc | apply pw_below_drewN | apply below_drew1) | exact HB.out))); (case aF => exact (fun k_ hk => Kd.fresh' (Kd.R_lt (by (with_reducible repeat (first | apply Kd.R_alloc | apply Kd.R_drewN | apply Kd.R_drew)); exact HO243.out)) k_ hk)); (case aO => exact (by (with_reducible repeat (first | apply Kd.R_alloc | apply Kd.R_drewN | apply Kd.R_drew)); exact HO250.out)); (case aS => exact (below_size (by repeat (first | (with_reducible first | exact HB.out | apply below_alloc | apply pw_below_drewN | apply below_drew1) | exact HB.out)))); (case aL => have := LMc36.out; omega); intro v252 w44 ho hb hg hat; rw [← Ny251.out] at ho; have n0_ := Aside0.mk (Kd.R_after (ok := (fun _ => True)) (by (with_reducible repeat (first | apply Kd.R_alloc | apply Kd.R_drewN | apply Kd.R_drew)); exact HO243.out) hg hat); have n1_ := Aside0.mk (hb); have n2_ := Aside0.mk (ho); clear HO243; clear HB; clear HO250; have HO243 := n0_; have HB := n1_; have HO253 := n2_; clear n0_ n1_ n2_; clear ho hb hg hat; obtain ⟨Ao45, co45, eo45⟩ := Kd.R_slice HO253.out; subst eo45) | ((with_reducible refine gate_callee (f := 14) rfl ?_); refine goesL_ (some 91) rfl rfl Try.func14 (by kernel_rfl) rfl #[.slice Ao45 y251.length co45] rfl (by (try simp only [List.map_toArray, List.map_cons, List.map_nil]); first | done | rfl | (simp only [List.length_drop, List.length_take]; rfl)) ?_; (with_reducible refine (sheaf_Get.calls _ _ y251 t254 t255 t256 t257 _ ?side1 ?side2 A37.out).mono ?_); (case side1 => repeat (first | exact (Kd.R_reads' HO253.out).2.2 | (with_reducible refine Kd.C_alloc ?_ _) | (with_reducible refine Kd.C_drewN ?_ _) | (with_reducible refine Kd.C_drew ?_))); (case side2 => exact (Kd.R_reads' HO253.out).2.1); rintro e w46 ⟨rfl, hb⟩; refine ⟨_, rfl, ?_⟩; have n0_ := Aside0.mk (Kd.R_below (by (with_reducible repeat (first | apply Kd.R_alloc | apply Kd.R_drewN | apply Kd.R_drew)); exact HO243.out) hb); have n1_ := Aside0.mk (Kd.R_below (by (with_reducible repeat (first | apply Kd.R_alloc | apply Kd.R_drewN | apply Kd.R_drew)); exact HO253.out) hb); have n2_ := Aside0.mk (below_step (by repeat (first | (with_reducible first | exact HB.out | apply below_alloc | apply pw_below_drewN | apply below_drew1) | exact HB.out)) hb); clear HO243; clear HO253; clear HB; have HO243 := n0_; have HO253 := n1_; have HB := n2_; clear n0_ n1_ n2_; (try clear hb); (try clear hb2); (try clear hk); (try clear hi)))
                  (try simp only [Act.put, List.setIfInBounds_toArray, List.set_cons_zero, List.set_cons_succ])
                  go_cut [118] (fun v118 wc => ∃ (kq : Nat) (x118_37 : Bool), v118 = .bool x118_37 ∧ Aside0 (quittancelaw04_SheafBack.j2 kq a0 t240 x118_37 = some r) ∧ Aside0 (kq ≤ kj10) ∧ Aside0 (Kd.R Kd.string 9 wc w.heap.size (fun _ => True) (.slice Ao43 t240.length co43) t240) ∧ Aside0 (Below w.heap.size w wc))
                  case first =>
                    have H := HC38.out
                    clear HC38
                    by_cases c47 : t254 = a0
                    · rw [if_pos c47] at H
                      have c47b0 : (t254 == a0) = true := beq_iff_eq.mpr c47
                      have c47b1 : (t254 != a0) = false := bne_eq_false_iff_eq.mpr c47
                      clear c47
                      (first | rw [c47b0] | (simp only [i64_w, i32_w]; rw [c47b0]) | skip)
                      by_cases c48 : t255.toList = a1.toList
                      · rw [if_pos c48] at H
                        have c48b0 : (t255.toList == a1.toList) = true := beq_iff_eq.mpr c48
                        have c48b1 : (t255.toList != a1.toList) = false := bne_eq_false_iff_eq.mpr c48
                        clear c48
                        by_cases c49 : t256 = (t240.length : Int)
                        · rw [if_pos c49] at H
                          have c49b0 : (t256 == (t240.length : Int)) = true := beq_iff_eq.mpr c49
                          have c49b1 : (t256 != (t240.length : Int)) = false := bne_eq_false_iff_eq.mpr c49
                          clear c49
                          by_cases c50 : t257 = true
                          · subst c50
                            have H1 : (quittancelaw04_SheafBack.j2 kj10 a0 t240 ((t240.length : Int) == 0)) = some r := by rw [if_pos rfl] at H; exact H
                            clear H
                            have H := H1
                            clear H1
                            have H' := Aside0.mk H
                            clear H
                            go_wp2
                            go_meet
                            case rel => exact ⟨_, (((t240.length : Int) == 0)), (by first | rfl | (simp; done) | (simp [*]; done)), H', ⟨by have := HJ3.out; have := HJ10.out; first | omega | exact Nat.le_refl _⟩, ⟨by (with_reducible repeat (first | apply Kd.R_alloc | apply Kd.R_drewN | apply Kd.R_drew)); exact Kd.R_mono HO243.out (fun _ hk => trivial)⟩, ⟨by repeat (first | (with_reducible first | exact HB.out | apply below_alloc | apply pw_below_drewN | apply below_drew1) | exact HB.out)⟩⟩
                          · replace c50 := Bool.eq_false_iff.mpr c50
                            subst c50
                            have H1 : (quittancelaw04_SheafBack.j2 kj10 a0 t240 true) = some r := by rw [if_neg (show ¬ (false = true) by decide)] at H; exact H
                            clear H
                            have H := H1
                            clear H1
                            have H' := Aside0.mk H
                            clear H
                            go_wp2
                            go_meet
                            case rel => exact ⟨_, (true), (by first | rfl | (simp; done) | (simp [*]; done)), H', ⟨by have := HJ3.out; have := HJ10.out; first | omega | exact Nat.le_refl _⟩, ⟨by (with_reducible repeat (first | apply Kd.R_alloc | apply Kd.R_drewN | apply Kd.R_drew)); exact Kd.R_mono HO243.out (fun _ hk => trivial)⟩, ⟨by repeat (first | (with_reducible first | exact HB.out | apply below_alloc | apply pw_below_drewN | apply below_drew1) | exact HB.out)⟩⟩
                        · rw [if_neg c49] at H
                          have c49b0 : (t256 == (t240.length : Int)) = false := beq_eq_false_iff_ne.mpr c49
                          have c49b1 : (t256 != (t240.length : Int)) = true := bne_iff_ne.mpr c49
                          have H' := Aside0.mk H
                          clear H
                          go_wp2
                          go_meet
                          case rel => exact ⟨_, (true), (by first | rfl | (simp; done) | (simp [*]; done)), H', ⟨by have := HJ3.out; have := HJ10.out; first | omega | exact Nat.le_refl _⟩, ⟨by (with_reducible repeat (first | apply Kd.R_alloc | apply Kd.R_drewN | apply Kd.R_drew)); exact Kd.R_mono HO243.out (fun _ hk => trivial)⟩, ⟨by repeat (first | (with_reducible first | exact HB.out | apply below_alloc | apply pw_below_drewN | apply below_drew1) | exact HB.out)⟩⟩
                      · rw [if_neg c48] at H
                        have c48b0 : (t255.toList == a1.toList) = false := beq_eq_false_iff_ne.mpr c48
                        have c48b1 : (t255.toList != a1.toList) = true := bne_iff_ne.mpr c48
                        have H' := Aside0.mk H
                        clear H
                        go_wp2
                        go_meet
                        case rel => exact ⟨_, (true), (by first | rfl | (simp; done) | (simp [*]; done)), H', ⟨by have := HJ3.out; have := HJ10.out; first | omega | exact Nat.le_refl _⟩, ⟨by (with_reducible repeat (first | apply Kd.R_alloc | apply Kd.R_drewN | apply Kd.R_drew)); exact Kd.R_mono HO243.out (fun _ hk => trivial)⟩, ⟨by repeat (first | (with_reducible first | exact HB.out | apply below_alloc | apply pw_below_drewN | apply below_drew1) | exact HB.out)⟩⟩
                    · rw [if_neg c47] at H
                      have c47b0 : (t254 == a0) = false := beq_eq_false_iff_ne.mpr c47
                      have c47b1 : (t254 != a0) = true := bne_iff_ne.mpr c47
                      (first | rw [c47b0] | (simp only [i64_w, i32_w]; rw [c47b0]) | skip)
                      have H' := Aside0.mk H
                      clear H
                      go_wp2
                      go_meet
                      case rel => exact ⟨_, (true), (by first | rfl | (simp; done) | (simp [*]; done)), H', ⟨by have := HJ3.out; have := HJ10.out; first | omega | exact Nat.le_refl _⟩, ⟨by (with_reducible repeat (first | apply Kd.R_alloc | apply Kd.R_drewN | apply Kd.R_drew)); exact Kd.R_mono HO243.out (fun _ hk => trivial)⟩, ⟨by repeat (first | (with_reducible first | exact HB.out | apply below_alloc | apply pw_below_drewN | apply below_drew1) | exact HB.out)⟩⟩
                  case rest =>
                    clear HC38
                    try clear c1
                    try clear c2
                    try clear p2
                    try clear c3
                    try clear c4
                    try clear c5
                    try clear c5b0
                    try clear c5b1
                    try clear c7
                    try clear c8
                    try clear c13
                    try clear c14
                    try clear c15
                    try clear c15b0
                    try clear c15b1
                    try clear c16
                    try clear c16b0
                    try clear c16b1
                    try clear c17
                    try clear c17b0
                    try clear c20
                    try clear c20b0
                    try clear c20b1
                    try clear c21
                    try clear c21b0
                    try clear c21b1
                    try clear c23
                    try clear c34
                    try clear c34b0
                    try clear c34b1
                    try clear c35
                    try clear c36
                    try clear c47
                    try clear c47b0
                    try clear c47b1
                    try clear c48
                    try clear c48b0
                    try clear c48b1
                    try clear c49
                    try clear c49b0
                    try clear c49b1
                    try clear c50
                    try clear p2
                    obtain ⟨kq, x118_37, rfl, HA, HJ37, HO_13, HB⟩ := hcut
                    cases kq with
                    | zero => exact absurd HA.out (by simp [quittancelaw04_SheafBack.j2])
                    | succ kj37 =>
                      have H := HA.out
                      clear HA
                      simp only [quittancelaw04_SheafBack.j2] at H
                      by_cases c51 : x118_37 = true
                      · subst c51
                        have H1 : (some false) = some r := by rw [if_pos rfl] at H; exact H
                        clear H
                        have H := H1
                        clear H1
                        obtain rfl := Option.some.inj H
                        go_wp2
                        go_ret
                        exact ⟨by first | rfl | (simp [errW_none, errW_some] <;> rfl) | (simp [*, errW_none, errW_some] <;> rfl), by repeat (first | (with_reducible first | exact HB.out | apply below_alloc | apply pw_below_drewN | apply below_drew1) | exact HB.out)⟩
                      · replace c51 := Bool.eq_false_iff.mpr c51
                        subst c51
                        have H1 : (if 0 ≤ (wrap64 ((t240.length : Int) - 1)) then (if (wrap64 ((t240.length : Int) - 1)) ≤ (t240.length : Int) then ((sheaf_Get.f (t240.take ((wrap64 ((t240.length : Int) - 1)) : Int).toNat)).bind fun bt262 => (if bt262.2.2.2 = true then (some false) else ((sheaf_Top.f kj37 t240).bind fun t266 => (if t266 = a0 then ((quittancelaw04_head.f kj37).bind fun t267 => (some t267)) else (some false))))) else (none)) else (none)) = some r := by rw [if_neg (show ¬ (false = true) by decide)] at H; exact H
                        clear H
                        have H := H1
                        clear H1
                        obtain ⟨ji52, hji52⟩ : ∃ j_ : Int, (wrap64 ((t240.length : Int) - 1)) = j_ := ⟨_, rfl⟩
                        replace H : (if 0 ≤ (ji52) then (if (ji52) ≤ (t240.length : Int) then ((sheaf_Get.f (t240.take ((ji52) : Int).toNat)).bind fun bt262 => (if bt262.2.2.2 = true then (some false) else ((sheaf_Top.f kj37 t240).bind fun t266 => (if t266 = a0 then ((quittancelaw04_head.f kj37).bind fun t267 => (some t267)) else (some false))))) else (none)) else (none)) = some r := by first | (rw [hji52] at H; exact H) | (simp only [hji52] at H ⊢; exact H)
                        have hji52w : (IntKind.i64.wrap ((t240.length : Int) - 1)) = ji52 := (i64_w _).trans hji52
                        by_cases c53 : 0 ≤ (ji52)
                        · rw [if_pos c53] at H
                          have c53b0 := eq_true c53
                          have c53b1 : decide (0 ≤ (ji52)) = true := decide_eq_true c53
                          clear c53
                          by_cases c54 : (ji52) ≤ (t240.length : Int)
                          · rw [if_pos c54] at H
                            have c54b0 := eq_true c54
                            have c54b1 : decide ((ji52) ≤ (t240.length : Int)) = true := decide_eq_true c54
                            clear c54
                            obtain ⟨y258, hy258⟩ : ∃ y_ : List ByteArray, y_ = (t240.take ((ji52) : Int).toNat) := ⟨_, rfl⟩
                            replace H : ((sheaf_Get.f y258).bind fun bt262 => (if bt262.2.2.2 = true then (some false) else ((sheaf_Top.f kj37 t240).bind fun t266 => (if t266 = a0 then ((quittancelaw04_head.f kj37).bind fun t267 => (some t267)) else (some false))))) = some r := by first | (rw [hy258]; with_reducible exact H) | (have H2_ := (Option.bind_some _ _).symm.trans H; rw [hy258]; with_reducible exact H2_) | (have H2_ := (Option.bind_some _ _).symm.trans H; with_reducible exact H2_) | with_reducible exact H | (rw [hy258]; exact H) | exact H
                            have Ny258 := Aside0.mk hy258
                            clear hy258
                            replace H := Option.bind_eq_some_iff.mp H
                            obtain ⟨⟨t262, t263, t264, t265⟩, A550, H⟩ := H
                            replace H : (if t265 = true then (some false) else ((sheaf_Top.f kj37 t240).bind fun t266 => (if t266 = a0 then ((quittancelaw04_head.f kj37).bind fun t267 => (some t267)) else (some false)))) = some r := H
                            have A55 := Aside0.mk A550
                            clear A550
                            by_cases c56 : t265 = true
                            · subst c56
                              have H1 : (some false) = some r := by rw [if_pos rfl] at H; exact H
                              clear H
                              have H := H1
                              clear H1
                              obtain rfl := Option.some.inj H
                              have q57 : ((ji52) : Int) ≤ ((t240.length : Int) : Int) := of_decide_eq_true (by first | (with_reducible assumption) | assumption)
                              obtain ⟨i057, hi057, _, hsz57, _⟩ := info_parts info9
                              have hroom57 : t240.length ≤ co43 := (Kd.R_reads' HO_13.out).2.1
                              have hC57 : Kd.C Kd.string _ Ao43 t240.length t240 := (Kd.R_reads' HO_13.out).2.2
                              have hcut57 := cut_to (P := Try.prog) 24 9 .i64 Try.underlying24 hi057 Ao43 t240.length co43 (ji52) (of_decide_eq_true (by first | (with_reducible assumption) | assumption)) q57 hroom57
                              have hr57 := Kd.C_take (m := ((ji52) : Int).toNat) hC57 (by omega)
                              have hy57 : y258.length = ((ji52) : Int).toNat := (by rw [Ny258.out, List.length_take]; omega)
                              rw [← Ny258.out] at hr57
                              rw [← hy57] at hcut57
                              have HR261 := Aside0.mk hr57
                              have HC261 := Aside0.mk (show y258.length ≤ co43 from by omega)
                              clear hr57 hC57 hroom57 hi057 hsz57
                              have KY57 := Aside0.mk hy57
                              clear hy57
                              have KL57 := Aside0.mk (show ((ji52) : Int).toNat ≤ t240.length from by omega)
                              replace q57 := eq_true q57
                              go_wp2_with (first | ((with_reducible refine gate_callee (f := 14) rfl ?_); refine goesL_ (some 125) rfl rfl Try.func14 (by kernel_rfl) rfl #[.slice Ao43 y258.length co43] rfl (by (try simp only [List.map_toArray, List.map_cons, List.map_nil]); first | done | rfl | (simp only [List.length_drop, List.length_take]; rfl)) ?_; (with_reducible refine (sheaf_Get.calls _ _ y258 t262 t263 t264 true _ ?side1 ?side2 A55.out).mono ?_); (case side1 => repeat (first | exact (by repeat (first | (with_reducible exact HR261.out) | (with_reducible refine Kd.C_alloc ?_ _) | (with_reducible refine Kd.C_drewN ?_ _) | (with_reducible refine Kd.C_drew ?_) | exact HR261.out)) | (with_reducible refine Kd.C_alloc ?_ _) | (with_reducible refine Kd.C_drewN ?_ _) | (with_reducible refine Kd.C_drew ?_))); (case side2 => exact HC261.out); rintro e w58 ⟨rfl, hb⟩; refine ⟨_, rfl, ?_⟩; have n0_ := Aside0.mk (Kd.R_below (by (with_reducible repeat (first | apply Kd.R_alloc | apply Kd.R_drewN | apply Kd.R_drew)); exact HO_13.out) hb); have n1_ := Aside0.mk (Kd.C_below (by repeat (first | (with_reducible exact HR261.out) | (with_reducible refine Kd.C_alloc ?_ _) | (with_reducible refine Kd.C_drewN ?_ _) | (with_reducible refine Kd.C_drew ?_) | exact HR261.out)) hb); have n2_ := Aside0.mk (below_step (by repeat (first | (with_reducible first | exact HB.out | apply below_alloc | apply pw_below_drewN | apply below_drew1) | exact HB.out)) hb); clear HO_13; clear HR261; clear HB; have HO_13 := n0_; have HR261 := n1_; have HB := n2_; clear n0_ n1_ n2_; (try clear hb); (try clear hb2); (try clear hk); (try clear hi)))
                              go_ret
                              exact ⟨by first | rfl | (simp [errW_none, errW_some] <;> rfl) | (simp only [← hji52]; first | rfl | (simp [errW_none, errW_some] <;> rfl)) | (simp [*, errW_none, errW_some] <;> rfl), by repeat (first | (with_reducible first | exact HB.out | apply below_alloc | apply pw_below_drewN | apply below_drew1) | exact HB.out)⟩
                            · replace c56 := Bool.eq_false_iff.mpr c56
                              subst c56
                              have H1 : ((sheaf_Top.f kj37 t240).bind fun t266 => (if t266 = a0 then ((quittancelaw04_head.f kj37).bind fun t267 => (some t267)) else (some false))) = some r := by rw [if_neg (show ¬ (false = true) by decide)] at H; exact H
                              clear H
                              have H := H1
                              clear H1
                              replace H := Option.bind_eq_some_iff.mp H
                              obtain ⟨t266, A590, H⟩ := H
                              replace H : (if t266 = a0 then ((quittancelaw04_head.f kj37).bind fun t267 => (some t267)) else (some false)) = some r := H
                              have A59 := Aside0.mk A590
                              clear A590
                              by_cases c60 : t266 = a0
                              · rw [if_pos c60] at H
                                have c60b0 : (t266 == a0) = true := beq_iff_eq.mpr c60
                                have c60b1 : (t266 != a0) = false := bne_eq_false_iff_eq.mpr c60
                                clear c60
                                replace H := Option.bind_eq_some_iff.mp H
                                obtain ⟨t267, A610, H⟩ := H
                                replace H : (some t267) = some r := H
                                have A61 := Aside0.mk A610
                                clear A610
                                obtain rfl := Option.some.inj H
                                have q62 : ((ji52) : Int) ≤ ((t240.length : Int) : Int) := of_decide_eq_true (by first | (with_reducible assumption) | assumption)
                                obtain ⟨i062, hi062, _, hsz62, _⟩ := info_parts info9
                                have hroom62 : t240.length ≤ co43 := (Kd.R_reads' HO_13.out).2.1
                                have hC62 : Kd.C Kd.string _ Ao43 t240.length t240 := (Kd.R_reads' HO_13.out).2.2
                                have hcut62 := cut_to (P := Try.prog) 24 9 .i64 Try.underlying24 hi062 Ao43 t240.length co43 (ji52) (of_decide_eq_true (by first | (with_reducible assumption) | assumption)) q62 hroom62
                                have hr62 := Kd.C_take (m := ((ji52) : Int).toNat) hC62 (by omega)
                                have hy62 : y258.length = ((ji52) : Int).toNat := (by rw [Ny258.out, List.length_take]; omega)
                                rw [← Ny258.out] at hr62
                                rw [← hy62] at hcut62
                                have HR261 := Aside0.mk hr62
                                have HC261 := Aside0.mk (show y258.length ≤ co43 from by omega)
                                clear hr62 hC62 hroom62 hi062 hsz62
                                have KY62 := Aside0.mk hy62
                                clear hy62
                                have KL62 := Aside0.mk (show ((ji52) : Int).toNat ≤ t240.length from by omega)
                                replace q62 := eq_true q62
                                go_wp2_with (first | ((with_reducible refine gate_callee (f := 14) rfl ?_); refine goesL_ (some 125) rfl rfl Try.func14 (by kernel_rfl) rfl #[.slice Ao43 y258.length co43] rfl (by (try simp only [List.map_toArray, List.map_cons, List.map_nil]); first | done | rfl | (simp only [List.length_drop, List.length_take]; rfl)) ?_; (with_reducible refine (sheaf_Get.calls _ _ y258 t262 t263 t264 false _ ?side1 ?side2 A55.out).mono ?_); (case side1 => repeat (first | exact (by repeat (first | (with_reducible exact HR261.out) | (with_reducible refine Kd.C_alloc ?_ _) | (with_reducible refine Kd.C_drewN ?_ _) | (with_reducible refine Kd.C_drew ?_) | exact HR261.out)) | (with_reducible refine Kd.C_alloc ?_ _) | (with_reducible refine Kd.C_drewN ?_ _) | (with_reducible refine Kd.C_drew ?_))); (case side2 => exact HC261.out); rintro e w63 ⟨rfl, hb⟩; refine ⟨_, rfl, ?_⟩; have n0_ := Aside0.mk (Kd.R_below (by (with_reducible repeat (first | apply Kd.R_alloc | apply Kd.R_drewN | apply Kd.R_drew)); exact HO_13.out) hb); have n1_ := Aside0.mk (Kd.C_below (by repeat (first | (with_reducible exact HR261.out) | (with_reducible refine Kd.C_alloc ?_ _) | (with_reducible refine Kd.C_drewN ?_ _) | (with_reducible refine Kd.C_drew ?_) | exact HR261.out)) hb); have n2_ := Aside0.mk (below_step (by repeat (first | (with_reducible first | exact HB.out | apply below_alloc | apply pw_below_drewN | apply below_drew1) | exact HB.out)) hb); clear HO_13; clear HR261; clear HB; have HO_13 := n0_; have HR261 := n1_; have HB := n2_; clear n0_ n1_ n2_; (try clear hb); (try clear hb2); (try clear hk); (try clear hi)) | (go_at_call 16; (with_reducible refine (sheaf_Top.calls kj37 _ _ t240 t266 _ ?side1 ?side2 A59.out).mono ?_); (case side1 => repeat (first | exact (Kd.R_reads' HO_13.out).2.2 | (with_reducible refine Kd.C_alloc ?_ _) | (with_reducible refine Kd.C_drewN ?_ _) | (with_reducible refine Kd.C_drew ?_))); (case side2 => exact (Kd.R_reads' HO_13.out).2.1); rintro e w64 ⟨rfl, hb⟩; have n0_ := Aside0.mk (Kd.R_below (by (with_reducible repeat (first | apply Kd.R_alloc | apply Kd.R_drewN | apply Kd.R_drew)); exact HO_13.out) hb); have n1_ := Aside0.mk (Kd.C_below (by repeat (first | (with_reducible exact HR261.out) | (with_reducible refine Kd.C_alloc ?_ _) | (with_reducible refine Kd.C_drewN ?_ _) | (with_reducible refine Kd.C_drew ?_) | exact HR261.out)) hb); have n2_ := Aside0.mk (below_step (by repeat (first | (with_reducible first | exact HB.out | apply below_alloc | apply pw_below_drewN | apply below_drew1) | exact HB.out)) hb); clear HO_13; clear HR261; clear HB; have HO_13 := n0_; have HR261 := n1_; have HB := n2_; clear n0_ n1_ n2_; (try clear hb); (try clear hb2); (try clear hk); (try clear hi)) | (go_at_call 7; (with_reducible refine (quittancelaw04_head.calls kj37  t267 _ A61.out).mono ?_); rintro e w65 ⟨rfl, hb⟩; have n0_ := Aside0.mk (Kd.R_below (by (with_reducible repeat (first | apply Kd.R_alloc | apply Kd.R_drewN | apply Kd.R_drew)); exact HO_13.out) hb); have n1_ := Aside0.mk (Kd.C_below (by repeat (first | (with_reducible exact HR261.out) | (with_reducible refine Kd.C_alloc ?_ _) | (with_reducible refine Kd.C_drewN ?_ _) | (with_reducible refine Kd.C_drew ?_) | exact HR261.out)) hb); have n2_ := Aside0.mk (below_step (by repeat (first | (with_reducible first | exact HB.out | apply below_alloc | apply pw_below_drewN | apply below_drew1) | exact HB.out)) hb); clear HO_13; clear HR261; clear HB; have HO_13 := n0_; have HR261 := n1_; have HB := n2_; clear n0_ n1_ n2_; (try clear hb); (try clear hb2); (try clear hk); (try clear hi)))
                                go_ret
                                exact ⟨by first | rfl | (simp [errW_none, errW_some] <;> rfl) | (simp only [← hji52]; first | rfl | (simp [errW_none, errW_some] <;> rfl)) | (simp [*, errW_none, errW_some] <;> rfl), by repeat (first | (with_reducible first | exact HB.out | apply below_alloc | apply pw_below_drewN | apply below_drew1) | exact HB.out)⟩
                              · rw [if_neg c60] at H
                                have c60b0 : (t266 == a0) = false := beq_eq_false_iff_ne.mpr c60
                                have c60b1 : (t266 != a0) = true := bne_iff_ne.mpr c60
                                obtain rfl := Option.some.inj H
                                have q66 : ((ji52) : Int) ≤ ((t240.length : Int) : Int) := of_decide_eq_true (by first | (with_reducible assumption) | assumption)
                                obtain ⟨i066, hi066, _, hsz66, _⟩ := info_parts info9
                                have hroom66 : t240.length ≤ co43 := (Kd.R_reads' HO_13.out).2.1
                                have hC66 : Kd.C Kd.string _ Ao43 t240.length t240 := (Kd.R_reads' HO_13.out).2.2
                                have hcut66 := cut_to (P := Try.prog) 24 9 .i64 Try.underlying24 hi066 Ao43 t240.length co43 (ji52) (of_decide_eq_true (by first | (with_reducible assumption) | assumption)) q66 hroom66
                                have hr66 := Kd.C_take (m := ((ji52) : Int).toNat) hC66 (by omega)
                                have hy66 : y258.length = ((ji52) : Int).toNat := (by rw [Ny258.out, List.length_take]; omega)
                                rw [← Ny258.out] at hr66
                                rw [← hy66] at hcut66
                                have HR261 := Aside0.mk hr66
                                have HC261 := Aside0.mk (show y258.length ≤ co43 from by omega)
                                clear hr66 hC66 hroom66 hi066 hsz66
                                have KY66 := Aside0.mk hy66
                                clear hy66
                                have KL66 := Aside0.mk (show ((ji52) : Int).toNat ≤ t240.length from by omega)
                                replace q66 := eq_true q66
                                go_wp2_with (first | ((with_reducible refine gate_callee (f := 14) rfl ?_); refine goesL_ (some 125) rfl rfl Try.func14 (by kernel_rfl) rfl #[.slice Ao43 y258.length co43] rfl (by (try simp only [List.map_toArray, List.map_cons, List.map_nil]); first | done | rfl | (simp only [List.length_drop, List.length_take]; rfl)) ?_; (with_reducible refine (sheaf_Get.calls _ _ y258 t262 t263 t264 false _ ?side1 ?side2 A55.out).mono ?_); (case side1 => repeat (first | exact (by repeat (first | (with_reducible exact HR261.out) | (with_reducible refine Kd.C_alloc ?_ _) | (with_reducible refine Kd.C_drewN ?_ _) | (with_reducible refine Kd.C_drew ?_) | exact HR261.out)) | (with_reducible refine Kd.C_alloc ?_ _) | (with_reducible refine Kd.C_drewN ?_ _) | (with_reducible refine Kd.C_drew ?_))); (case side2 => exact HC261.out); rintro e w67 ⟨rfl, hb⟩; refine ⟨_, rfl, ?_⟩; have n0_ := Aside0.mk (Kd.R_below (by (with_reducible repeat (first | apply Kd.R_alloc | apply Kd.R_drewN | apply Kd.R_drew)); exact HO_13.out) hb); have n1_ := Aside0.mk (Kd.C_below (by repeat (first | (with_reducible exact HR261.out) | (with_reducible refine Kd.C_alloc ?_ _) | (with_reducible refine Kd.C_drewN ?_ _) | (with_reducible refine Kd.C_drew ?_) | exact HR261.out)) hb); have n2_ := Aside0.mk (below_step (by repeat (first | (with_reducible first | exact HB.out | apply below_alloc | apply pw_below_drewN | apply below_drew1) | exact HB.out)) hb); clear HO_13; clear HR261; clear HB; have HO_13 := n0_; have HR261 := n1_; have HB := n2_; clear n0_ n1_ n2_; (try clear hb); (try clear hb2); (try clear hk); (try clear hi)) | (go_at_call 16; (with_reducible refine (sheaf_Top.calls kj37 _ _ t240 t266 _ ?side1 ?side2 A59.out).mono ?_); (case side1 => repeat (first | exact (Kd.R_reads' HO_13.out).2.2 | (with_reducible refine Kd.C_alloc ?_ _) | (with_reducible refine Kd.C_drewN ?_ _) | (with_reducible refine Kd.C_drew ?_))); (case side2 => exact (Kd.R_reads' HO_13.out).2.1); rintro e w68 ⟨rfl, hb⟩; have n0_ := Aside0.mk (Kd.R_below (by (with_reducible repeat (first | apply Kd.R_alloc | apply Kd.R_drewN | apply Kd.R_drew)); exact HO_13.out) hb); have n1_ := Aside0.mk (Kd.C_below (by repeat (first | (with_reducible exact HR261.out) | (with_reducible refine Kd.C_alloc ?_ _) | (with_reducible refine Kd.C_drewN ?_ _) | (with_reducible refine Kd.C_drew ?_) | exact HR261.out)) hb); have n2_ := Aside0.mk (below_step (by repeat (first | (with_reducible first | exact HB.out | apply below_alloc | apply pw_below_drewN | apply below_drew1) | exact HB.out)) hb); clear HO_13; clear HR261; clear HB; have HO_13 := n0_; have HR261 := n1_; have HB := n2_; clear n0_ n1_ n2_; (try clear hb); (try clear hb2); (try clear hk); (try clear hi)))
                                go_ret
                                exact ⟨by first | rfl | (simp [errW_none, errW_some] <;> rfl) | (simp only [← hji52]; first | rfl | (simp [errW_none, errW_some] <;> rfl)) | (simp [*, errW_none, errW_some] <;> rfl), by repeat (first | (with_reducible first | exact HB.out | apply below_alloc | apply pw_below_drewN | apply below_drew1) | exact HB.out)⟩
                          · rw [if_neg c54] at H
                            exact absurd H (by simp)
                        · rw [if_neg c53] at H
                          exact absurd H (by simp)
                · rw [if_neg c36] at H
                  exact absurd H (by simp)
              · rw [if_neg c35] at H
                exact absurd H (by simp)
            · rw [if_neg c34] at H
              have c34b0 : (t241 == 0) = false := beq_eq_false_iff_ne.mpr c34
              have c34b1 : (t241 != 0) = true := bne_iff_ne.mpr c34
              by_cases c69 : a0 = 0
              · rw [if_pos c69] at H
                have c69b0 : (a0 == 0) = true := beq_iff_eq.mpr c69
                have c69b1 : (a0 != 0) = false := bne_eq_false_iff_eq.mpr c69
                clear c69
                by_cases c70 : (t240.length : Int) = 0
                · rw [if_pos c70] at H
                  have c70b0 : ((t240.length : Int) == 0) = true := beq_iff_eq.mpr c70
                  have c70b1 : ((t240.length : Int) != 0) = false := bne_eq_false_iff_eq.mpr c70
                  clear c70
                  replace H := Option.bind_eq_some_iff.mp H
                  obtain ⟨t244, A710, H⟩ := H
                  replace H : (some t244) = some r := H
                  have A71 := Aside0.mk A710
                  clear A710
                  obtain rfl := Option.some.inj H
                  go_wp2_with (first | ((with_reducible refine gate_callee (f := 8) rfl ?_); refine goesL_ (some 70) rfl rfl Try.func8 (by kernel_rfl) rfl #[.int .u64 a0, .string a1] rfl (by (try simp only [List.map_toArray, List.map_cons, List.map_nil]); first | done | rfl | (simp only [List.length_drop, List.length_take]; rfl)) ?_; (with_reducible refine (sheaf_Put.calls a0 a1 t240 t241 _ A33.out).mono ?_); rintro e w72 ⟨v242, rfl, ho0, hb⟩; refine ⟨_, rfl, ?_⟩; have n0_ := Aside0.mk (Kd.R_lower ho0 (below_size (by repeat (first | (with_reducible first | exact HB.out | apply below_alloc | apply pw_below_drewN | apply below_drew1) | exact HB.out)))); have n1_ := Aside0.mk (below_step (by repeat (first | (with_reducible first | exact HB.out | apply below_alloc | apply pw_below_drewN | apply below_drew1) | exact HB.out)) hb); clear HB; have HO243 := n0_; have HB := n1_; clear n0_ n1_; (try clear hb); (try clear hb2); (try clear hk); (try clear hi); (try clear ho0); obtain ⟨Ao73, co73, eo73⟩ := Kd.R_slice HO243.out; subst eo73) | (go_at_call 7; (with_reducible refine (quittancelaw04_head.calls kj10  t244 _ A71.out).mono ?_); rintro e w74 ⟨rfl, hb⟩; have n0_ := Aside0.mk (Kd.R_below (by (with_reducible repeat (first | apply Kd.R_alloc | apply Kd.R_drewN | apply Kd.R_drew)); exact HO243.out) hb); have n1_ := Aside0.mk (below_step (by repeat (first | (with_reducible first | exact HB.out | apply below_alloc | apply pw_below_drewN | apply below_drew1) | exact HB.out)) hb); clear HO243; clear HB; have HO243 := n0_; have HB := n1_; clear n0_ n1_; (try clear hb); (try clear hb2); (try clear hk); (try clear hi)))
                  go_ret
                  exact ⟨by first | rfl | (simp [errW_none, errW_some] <;> rfl) | (simp [*, errW_none, errW_some] <;> rfl), by repeat (first | (with_reducible first | exact HB.out | apply below_alloc | apply pw_below_drewN | apply below_drew1) | exact HB.out)⟩
                · rw [if_neg c70] at H
                  have c70b0 : ((t240.length : Int) == 0) = false := beq_eq_false_iff_ne.mpr c70
                  have c70b1 : ((t240.length : Int) != 0) = true := bne_iff_ne.mpr c70
                  have c70b2 : ¬ (t240 = []) := fun h_ => c70 (by rw [h_]; rfl)
                  obtain rfl := Option.some.inj H
                  go_wp2_with (first | ((with_reducible refine gate_callee (f := 8) rfl ?_); refine goesL_ (some 70) rfl rfl Try.func8 (by kernel_rfl) rfl #[.int .u64 a0, .string a1] rfl (by (try simp only [List.map_toArray, List.map_cons, List.map_nil]); first | done | rfl | (simp only [List.length_drop, List.length_take]; rfl)) ?_; (with_reducible refine (sheaf_Put.calls a0 a1 t240 t241 _ A33.out).mono ?_); rintro e w75 ⟨v242, rfl, ho0, hb⟩; refine ⟨_, rfl, ?_⟩; have n0_ := Aside0.mk (Kd.R_lower ho0 (below_size (by repeat (first | (with_reducible first | exact HB.out | apply below_alloc | apply pw_below_drewN | apply below_drew1) | exact HB.out)))); have n1_ := Aside0.mk (below_step (by repeat (first | (with_reducible first | exact HB.out | apply below_alloc | apply pw_below_drewN | apply below_drew1) | exact HB.out)) hb); clear HB; have HO243 := n0_; have HB := n1_; clear n0_ n1_; (try clear hb); (try clear hb2); (try clear hk); (try clear hi); (try clear ho0); obtain ⟨Ao76, co76, eo76⟩ := Kd.R_slice HO243.out; subst eo76))
                  go_ret
                  exact ⟨by first | rfl | (simp [errW_none, errW_some] <;> rfl) | (simp [*, errW_none, errW_some] <;> rfl), by repeat (first | (with_reducible first | exact HB.out | apply below_alloc | apply pw_below_drewN | apply below_drew1) | exact HB.out)⟩
              · rw [if_neg c69] at H
                have c69b0 : (a0 == 0) = false := beq_eq_false_iff_ne.mpr c69
                have c69b1 : (a0 != 0) = true := bne_iff_ne.mpr c69
                obtain rfl := Option.some.inj H
                go_wp2_with (first | ((with_reducible refine gate_callee (f := 8) rfl ?_); refine goesL_ (some 70) rfl rfl Try.func8 (by kernel_rfl) rfl #[.int .u64 a0, .string a1] rfl (by (try simp only [List.map_toArray, List.map_cons, List.map_nil]); first | done | rfl | (simp only [List.length_drop, List.length_take]; rfl)) ?_; (with_reducible refine (sheaf_Put.calls a0 a1 t240 t241 _ A33.out).mono ?_); rintro e w77 ⟨v242, rfl, ho0, hb⟩; refine ⟨_, rfl, ?_⟩; have n0_ := Aside0.mk (Kd.R_lower ho0 (below_size (by repeat (first | (with_reducible first | exact HB.out | apply below_alloc | apply pw_below_drewN | apply below_drew1) | exact HB.out)))); have n1_ := Aside0.mk (below_step (by repeat (first | (with_reducible first | exact HB.out | apply below_alloc | apply pw_below_drewN | apply below_drew1) | exact HB.out)) hb); clear HB; have HO243 := n0_; have HB := n1_; clear n0_ n1_; (try clear hb); (try clear hb2); (try clear hk); (try clear hi); (try clear ho0)))
                go_ret
                exact ⟨by first | rfl | (simp [errW_none, errW_some] <;> rfl) | (simp [*, errW_none, errW_some] <;> rfl), by repeat (first | (with_reducible first | exact HB.out | apply below_alloc | apply pw_below_drewN | apply below_drew1) | exact HB.out)⟩

end Go.Proofs.Ytknmbhllinbcjaa.Q
