-- MADE BY xrun.sh, a turned copy of the kit's print: not typed by hand
import Derived.Test.YtfelfllgieclbaaQ0
import Derived.Test.YtfelfllgieclbaaQ1
import Derived.Test.YtfelfllgieclbaaQ3
import Derived.Test.YtfelfllgieclbaaH2
import Derived.Test.YtfelfllgieclbaaH3
namespace Go.Proofs.Ytfelfllgieclbaa.Q
open Go.RowKit Go.Proofs.YtfelfllgieclbaaW.PrintWords Go.Proofs.YtfelfllgieclbaaW.PrintLast Go.Proofs.YtfelfllgieclbaaW.PrintMore
attribute [local go_sem] max2_int min2_int max_two min_two max_three min_three max_four min_four   -- for this text's walks alone
set_option linter.unusedVariables false
set_option linter.unusedSimpArgs false

/-! ### quittancelaw02_LeafGets: function 4 -/
def quittancelaw02_LeafGets.j0 : Nat → ByteArray → Int → ByteArray → Bool → Bool → Option (Bool)
  | 0, _, _, _, _, _ => none
  | k + 1, x0, x3, x4, x5, x63 => if x63 = true then (some false) else ((leaf_Put.f x3 x4).bind fun bt152 => (if (x5 == (bt152.2 == 0)) = true then (if x5 = true then (if bt152.1.toList = x0.toList then ((quittancelaw02_head.f k).bind fun t154 => (some t154)) else (some false)) else ((quittancelaw02_head.f k).bind fun t155 => (some t155))) else (some false)))
def quittancelaw02_LeafGets.f (k : Nat) (a0 : ByteArray) : Option (Bool) := if (a0.size : Int) > 200 then ((quittancelaw02_head.f k).bind fun t141 => (some t141)) else ((leaf_Get.f a0).bind fun bt142 => ((quittanceref02_Get.f k a0).bind fun bt145 => ((leaf_Ends.f a0).bind fun bt148 => ((quittanceref02_Ends.f k a0).bind fun bt150 => (if bt142.1 = bt145.1 then (if bt142.2.1.toList = bt145.2.1.toList then (if (bt142.2.2 != bt145.2.2) = true then (quittancelaw02_LeafGets.j0 k a0 bt142.1 bt142.2.1 bt142.2.2 true) else (if bt148.1 = bt150.1 then (quittancelaw02_LeafGets.j0 k a0 bt142.1 bt142.2.1 bt142.2.2 (bt148.2 != bt150.2)) else (quittancelaw02_LeafGets.j0 k a0 bt142.1 bt142.2.1 bt142.2.2 true))) else (quittancelaw02_LeafGets.j0 k a0 bt142.1 bt142.2.1 bt142.2.2 true)) else (quittancelaw02_LeafGets.j0 k a0 bt142.1 bt142.2.1 bt142.2.2 true))))))
theorem quittancelaw02_LeafGets.mono_l : ∀ k, (∀ y0 y1 y2 y3 y4, LeO (quittancelaw02_LeafGets.j0 k y0 y1 y2 y3 y4) (quittancelaw02_LeafGets.j0 (k + 1) y0 y1 y2 y3 y4))
  | 0 => fun _ _ _ _ _ r h => by simp [quittancelaw02_LeafGets.j0] at h
  | k + 1 => by
    have ih0 := quittancelaw02_LeafGets.mono_l k
    · intro y0 y1 y2 y3 y4
      unfold quittancelaw02_LeafGets.j0
      repeat' first
      | (with_reducible exact ih0 _ _ _ _ _)
      | (with_reducible exact quittancelaw02_head.mono _)
      | (with_reducible exact quittanceref02_Ends.mono _ _)
      | (with_reducible exact quittanceref02_Get.mono _ _)
      | (with_reducible exact LeO.refl _)
      | (with_reducible exact LeO.none _)
      | (with_reducible refine LeO.ite ?_ ?_)
      | (with_reducible refine LeO.bind ?_ (fun _ => ?_))
      | exact ih0 _ _ _ _ _
      | exact quittancelaw02_head.mono _
      | exact quittanceref02_Ends.mono _ _
      | exact quittanceref02_Get.mono _ _
      | exact LeO.none _
      | refine LeO.ite ?_ ?_
      | refine LeO.bind ?_ (fun _ => ?_)
theorem quittancelaw02_LeafGets.mono : ∀ a0 k, LeO (quittancelaw02_LeafGets.f k a0) (quittancelaw02_LeafGets.f (k + 1) a0) := by
  intro a0 k
  have ih0 := quittancelaw02_LeafGets.mono_l k
  unfold quittancelaw02_LeafGets.f
  repeat' first
      | (with_reducible exact ih0 _ _ _ _ _)
      | (with_reducible exact quittancelaw02_head.mono _)
      | (with_reducible exact quittanceref02_Ends.mono _ _)
      | (with_reducible exact quittanceref02_Get.mono _ _)
      | (with_reducible exact LeO.refl _)
      | (with_reducible exact LeO.none _)
      | (with_reducible refine LeO.ite ?_ ?_)
      | (with_reducible refine LeO.bind ?_ (fun _ => ?_))
      | exact ih0 _ _ _ _ _
      | exact quittancelaw02_head.mono _
      | exact quittanceref02_Ends.mono _ _
      | exact quittanceref02_Get.mono _ _
      | exact LeO.none _
      | refine LeO.ite ?_ ?_
      | refine LeO.bind ?_ (fun _ => ?_)
set_option maxHeartbeats 8000000 in
set_option maxRecDepth 100000 in
theorem quittancelaw02_LeafGets.calls (k : Nat) (a0 : ByteArray) (r : Bool) (w : World) (h : quittancelaw02_LeafGets.f k a0 = some r) :
    Calls Try.prog 4 #[.string a0] w fun e w' => e = .returned (.bool r) ∧ Below w.heap.size w w' := by
  have HB := Aside0.mk (Below.refl w.heap.size w)
  have H : (if (a0.size : Int) > 200 then ((quittancelaw02_head.f k).bind fun t141 => (some t141)) else ((leaf_Get.f a0).bind fun bt142 => ((quittanceref02_Get.f k a0).bind fun bt145 => ((leaf_Ends.f a0).bind fun bt148 => ((quittanceref02_Ends.f k a0).bind fun bt150 => (if bt142.1 = bt145.1 then (if bt142.2.1.toList = bt145.2.1.toList then (if (bt142.2.2 != bt145.2.2) = true then (quittancelaw02_LeafGets.j0 k a0 bt142.1 bt142.2.1 bt142.2.2 true) else (if bt148.1 = bt150.1 then (quittancelaw02_LeafGets.j0 k a0 bt142.1 bt142.2.1 bt142.2.2 (bt148.2 != bt150.2)) else (quittancelaw02_LeafGets.j0 k a0 bt142.1 bt142.2.1 bt142.2.2 true))) else (quittancelaw02_LeafGets.j0 k a0 bt142.1 bt142.2.1 bt142.2.2 true)) else (quittancelaw02_LeafGets.j0 k a0 bt142.1 bt142.2.1 bt142.2.2 true))))))) = some r := h
  clear h
  by_cases c2 : (a0.size : Int) > 200
  · rw [if_pos c2] at H
    have c2b0 : decide (200 < (a0.size : Int)) = true := decide_eq_true c2
    have c2b1 : decide (200 < a0.size) = true := decide_eq_true (by omega)
    clear c2
    replace H := Option.bind_eq_some_iff.mp H
    obtain ⟨t141, A30, H⟩ := H
    replace H : (some t141) = some r := H
    have A3 := Aside0.mk A30
    clear A30
    obtain rfl := Option.some.inj H
    go_enter Try.func4, Try.ntmps4
    go_wp2_with (first | ((with_reducible refine gate_callee (f := 25) rfl ?_); refine goesL_ (some 18) rfl rfl Try.func25 (by kernel_rfl) rfl #[] rfl (by (try simp only [List.map_toArray, List.map_cons, List.map_nil]); first | done | rfl | (simp only [List.length_drop, List.length_take]; rfl)) ?_; (with_reducible refine (quittancelaw02_head.calls k  t141 _ A3.out).mono ?_); rintro e w4 ⟨rfl, hb⟩; refine ⟨_, rfl, ?_⟩; have n0_ := Aside0.mk (below_step (by repeat (first | (with_reducible first | exact HB.out | apply below_alloc | apply pw_below_drewN | apply below_drew1) | exact HB.out)) hb); clear HB; have HB := n0_; clear n0_; (try clear hb); (try clear hb2); (try clear hk); (try clear hi)))
    go_ret
    exact ⟨by first | rfl | (simp [errW_none, errW_some] <;> rfl) | (simp [*, errW_none, errW_some] <;> rfl), by repeat (first | (with_reducible first | exact HB.out | apply below_alloc | apply pw_below_drewN | apply below_drew1) | exact HB.out)⟩
  · rw [if_neg c2] at H
    have c2b0 : decide (200 < (a0.size : Int)) = false := decide_eq_false c2
    have c2b1 : decide (200 < a0.size) = false := decide_eq_false (by omega)
    clear c2
    replace H := Option.bind_eq_some_iff.mp H
    obtain ⟨⟨t142, t143, t144⟩, A50, H⟩ := H
    replace H : ((quittanceref02_Get.f k a0).bind fun bt145 => ((leaf_Ends.f a0).bind fun bt148 => ((quittanceref02_Ends.f k a0).bind fun bt150 => (if t142 = bt145.1 then (if t143.toList = bt145.2.1.toList then (if (t144 != bt145.2.2) = true then (quittancelaw02_LeafGets.j0 k a0 t142 t143 t144 true) else (if bt148.1 = bt150.1 then (quittancelaw02_LeafGets.j0 k a0 t142 t143 t144 (bt148.2 != bt150.2)) else (quittancelaw02_LeafGets.j0 k a0 t142 t143 t144 true))) else (quittancelaw02_LeafGets.j0 k a0 t142 t143 t144 true)) else (quittancelaw02_LeafGets.j0 k a0 t142 t143 t144 true))))) = some r := H
    have A5 := Aside0.mk A50
    clear A50
    replace H := Option.bind_eq_some_iff.mp H
    obtain ⟨⟨t145, t146, t147⟩, A60, H⟩ := H
    replace H : ((leaf_Ends.f a0).bind fun bt148 => ((quittanceref02_Ends.f k a0).bind fun bt150 => (if t142 = t145 then (if t143.toList = t146.toList then (if (t144 != t147) = true then (quittancelaw02_LeafGets.j0 k a0 t142 t143 t144 true) else (if bt148.1 = bt150.1 then (quittancelaw02_LeafGets.j0 k a0 t142 t143 t144 (bt148.2 != bt150.2)) else (quittancelaw02_LeafGets.j0 k a0 t142 t143 t144 true))) else (quittancelaw02_LeafGets.j0 k a0 t142 t143 t144 true)) else (quittancelaw02_LeafGets.j0 k a0 t142 t143 t144 true)))) = some r := H
    have A6 := Aside0.mk A60
    clear A60
    replace H := Option.bind_eq_some_iff.mp H
    obtain ⟨⟨t148, t149⟩, A70, H⟩ := H
    replace H : ((quittanceref02_Ends.f k a0).bind fun bt150 => (if t142 = t145 then (if t143.toList = t146.toList then (if (t144 != t147) = true then (quittancelaw02_LeafGets.j0 k a0 t142 t143 t144 true) else (if t148 = bt150.1 then (quittancelaw02_LeafGets.j0 k a0 t142 t143 t144 (t149 != bt150.2)) else (quittancelaw02_LeafGets.j0 k a0 t142 t143 t144 true))) else (quittancelaw02_LeafGets.j0 k a0 t142 t143 t144 true)) else (quittancelaw02_LeafGets.j0 k a0 t142 t143 t144 true))) = some r := H
    have A7 := Aside0.mk A70
    clear A70
    replace H := Option.bind_eq_some_iff.mp H
    obtain ⟨⟨t150, t151⟩, A80, H⟩ := H
    replace H : (if t142 = t145 then (if t143.toList = t146.toList then (if (t144 != t147) = true then (quittancelaw02_LeafGets.j0 k a0 t142 t143 t144 true) else (if t148 = t150 then (quittancelaw02_LeafGets.j0 k a0 t142 t143 t144 (t149 != t151)) else (quittancelaw02_LeafGets.j0 k a0 t142 t143 t144 true))) else (quittancelaw02_LeafGets.j0 k a0 t142 t143 t144 true)) else (quittancelaw02_LeafGets.j0 k a0 t142 t143 t144 true)) = some r := H
    have A8 := Aside0.mk A80
    clear A80
    have HC9 := Aside0.mk H
    clear H
    go_enter Try.func4, Try.ntmps4
    go_upto_region 7 with (first | ((with_reducible refine gate_callee (f := 28) rfl ?_); refine goesL_ (some 21) rfl rfl Try.func28 (by kernel_rfl) rfl #[.string a0] rfl (by (try simp only [List.map_toArray, List.map_cons, List.map_nil]); first | done | rfl | (simp only [List.length_drop, List.length_take]; rfl)) ?_; (with_reducible refine (leaf_Get.calls a0 t142 t143 t144 _ A5.out).mono ?_); rintro e w10 ⟨rfl, hb⟩; refine ⟨_, rfl, ?_⟩; have n0_ := Aside0.mk (below_step (by repeat (first | (with_reducible first | exact HB.out | apply below_alloc | apply pw_below_drewN | apply below_drew1) | exact HB.out)) hb); clear HB; have HB := n0_; clear n0_; (try clear hb); (try clear hb2); (try clear hk); (try clear hi)) | ((with_reducible refine gate_callee (f := 29) rfl ?_); refine goesL_ (some 27) rfl rfl Try.func29 (by kernel_rfl) rfl #[.string a0] rfl (by (try simp only [List.map_toArray, List.map_cons, List.map_nil]); first | done | rfl | (simp only [List.length_drop, List.length_take]; rfl)) ?_; (with_reducible refine (quittanceref02_Get.calls k a0 t145 t146 t147 _ A6.out).mono ?_); rintro e w11 ⟨rfl, hb⟩; refine ⟨_, rfl, ?_⟩; have n0_ := Aside0.mk (below_step (by repeat (first | (with_reducible first | exact HB.out | apply below_alloc | apply pw_below_drewN | apply below_drew1) | exact HB.out)) hb); clear HB; have HB := n0_; clear n0_; (try clear hb); (try clear hb2); (try clear hk); (try clear hi)) | ((with_reducible refine gate_callee (f := 30) rfl ?_); refine goesL_ (some 33) rfl rfl Try.func30 (by kernel_rfl) rfl #[.string a0] rfl (by (try simp only [List.map_toArray, List.map_cons, List.map_nil]); first | done | rfl | (simp only [List.length_drop, List.length_take]; rfl)) ?_; (with_reducible refine (leaf_Ends.calls a0 t148 t149 _ A7.out).mono ?_); rintro e w12 ⟨rfl, hb⟩; refine ⟨_, rfl, ?_⟩; have n0_ := Aside0.mk (below_step (by repeat (first | (with_reducible first | exact HB.out | apply below_alloc | apply pw_below_drewN | apply below_drew1) | exact HB.out)) hb); clear HB; have HB := n0_; clear n0_; (try clear hb); (try clear hb2); (try clear hk); (try clear hi)) | ((with_reducible refine gate_callee (f := 31) rfl ?_); refine goesL_ (some 38) rfl rfl Try.func31 (by kernel_rfl) rfl #[.string a0] rfl (by (try simp only [List.map_toArray, List.map_cons, List.map_nil]); first | done | rfl | (simp only [List.length_drop, List.length_take]; rfl)) ?_; (with_reducible refine (quittanceref02_Ends.calls k a0 t150 t151 _ A8.out).mono ?_); rintro e w' ⟨rfl, ⟨nd, rfl⟩⟩; refine ⟨_, rfl, ?_⟩))
    (try simp only [Act.put, List.setIfInBounds_toArray, List.set_cons_zero, List.set_cons_succ])
    go_cut [63] (fun v63 wc => ∃ (kq : Nat) (x63_8 : Bool), v63 = .bool x63_8 ∧ Aside0 (quittancelaw02_LeafGets.j0 kq a0 t142 t143 t144 x63_8 = some r) ∧ Aside0 (kq ≤ k) ∧ Aside0 (Below w.heap.size w wc))
    case first =>
      have H := HC9.out
      clear HC9
      by_cases c13 : t142 = t145
      · rw [if_pos c13] at H
        have c13b0 : (t142 == t145) = true := beq_iff_eq.mpr c13
        have c13b1 : (t142 != t145) = false := bne_eq_false_iff_eq.mpr c13
        clear c13
        (first | rw [c13b0] | (simp only [i64_w, i32_w]; rw [c13b0]) | skip)
        by_cases c14 : t143.toList = t146.toList
        · rw [if_pos c14] at H
          have c14b0 : (t143.toList == t146.toList) = true := beq_iff_eq.mpr c14
          have c14b1 : (t143.toList != t146.toList) = false := bne_eq_false_iff_eq.mpr c14
          clear c14
          by_cases c15 : (t144 != t147) = true
          · rw [if_pos c15] at H
            have c15b0 : (t144 != t147) = true := c15
            (try (have c15b1 : decide (t144 = t147) = false := by simpa using c15))
            (try (have c15b2 : (t144 == t147) = false := by simpa using c15))
            (try (have c15b3 : ¬ (t144 = t147) := by simpa using c15))
            clear c15
            have H' := Aside0.mk H
            clear H
            go_wp2
            go_meet
            case rel => exact ⟨_, (true), (by first | rfl | (simp; done) | (simp [*]; done)), H', ⟨by first | omega | exact Nat.le_refl _⟩, ⟨by repeat (first | (with_reducible first | exact HB.out | apply below_alloc | apply pw_below_drewN | apply below_drew1) | exact HB.out)⟩⟩
          · rw [if_neg c15] at H
            have c15b0 : (t144 != t147) = false := by simpa using c15
            (try (have c15b1 : decide (t144 = t147) = true := by simpa using c15))
            (try (have c15b2 : (t144 == t147) = true := by simpa using c15))
            clear c15
            by_cases c16 : t148 = t150
            · rw [if_pos c16] at H
              have c16b0 : (t148 == t150) = true := beq_iff_eq.mpr c16
              have c16b1 : (t148 != t150) = false := bne_eq_false_iff_eq.mpr c16
              clear c16
              have H' := Aside0.mk H
              clear H
              go_wp2
              go_meet
              case rel => exact ⟨_, ((t149 != t151)), (by first | rfl | (simp; done) | (simp [*]; done)), H', ⟨by first | omega | exact Nat.le_refl _⟩, ⟨by repeat (first | (with_reducible first | exact HB.out | apply below_alloc | apply pw_below_drewN | apply below_drew1) | exact HB.out)⟩⟩
            · rw [if_neg c16] at H
              have c16b0 : (t148 == t150) = false := beq_eq_false_iff_ne.mpr c16
              have c16b1 : (t148 != t150) = true := bne_iff_ne.mpr c16
              have H' := Aside0.mk H
              clear H
              go_wp2
              go_meet
              case rel => exact ⟨_, (true), (by first | rfl | (simp; done) | (simp [*]; done)), H', ⟨by first | omega | exact Nat.le_refl _⟩, ⟨by repeat (first | (with_reducible first | exact HB.out | apply below_alloc | apply pw_below_drewN | apply below_drew1) | exact HB.out)⟩⟩
        · rw [if_neg c14] at H
          have c14b0 : (t143.toList == t146.toList) = false := beq_eq_false_iff_ne.mpr c14
          have c14b1 : (t143.toList != t146.toList) = true := bne_iff_ne.mpr c14
          have H' := Aside0.mk H
          clear H
          go_wp2
          go_meet
          case rel => exact ⟨_, (true), (by first | rfl | (simp; done) | (simp [*]; done)), H', ⟨by first | omega | exact Nat.le_refl _⟩, ⟨by repeat (first | (with_reducible first | exact HB.out | apply below_alloc | apply pw_below_drewN | apply below_drew1) | exact HB.out)⟩⟩
      · rw [if_neg c13] at H
        have c13b0 : (t142 == t145) = false := beq_eq_false_iff_ne.mpr c13
        have c13b1 : (t142 != t145) = true := bne_iff_ne.mpr c13
        (first | rw [c13b0] | (simp only [i64_w, i32_w]; rw [c13b0]) | skip)
        have H' := Aside0.mk H
        clear H
        go_wp2
        go_meet
        case rel => exact ⟨_, (true), (by first | rfl | (simp; done) | (simp [*]; done)), H', ⟨by first | omega | exact Nat.le_refl _⟩, ⟨by repeat (first | (with_reducible first | exact HB.out | apply below_alloc | apply pw_below_drewN | apply below_drew1) | exact HB.out)⟩⟩
    case rest =>
      clear HC9
      try clear c1
      try clear c2
      try clear c2b0
      try clear c2b1
      try clear p2
      try clear c3
      try clear c4
      try clear c13
      try clear c13b0
      try clear c13b1
      try clear c14
      try clear c14b0
      try clear c14b1
      try clear c15
      try clear c15b0
      try clear c15b1
      try clear c15b2
      try clear c16
      try clear c16b0
      try clear c16b1
      obtain ⟨kq, x63_8, rfl, HA, HJ8, HB⟩ := hcut
      cases kq with
      | zero => exact absurd HA.out (by simp [quittancelaw02_LeafGets.j0])
      | succ kj8 =>
        have H := HA.out
        clear HA
        simp only [quittancelaw02_LeafGets.j0] at H
        by_cases c17 : x63_8 = true
        · subst c17
          have H1 : (some false) = some r := by rw [if_pos rfl] at H; exact H
          clear H
          have H := H1
          clear H1
          obtain rfl := Option.some.inj H
          go_wp2
          go_ret
          exact ⟨by first | rfl | (simp [errW_none, errW_some] <;> rfl) | (simp [*, errW_none, errW_some] <;> rfl), by repeat (first | (with_reducible first | exact HB.out | apply below_alloc | apply pw_below_drewN | apply below_drew1) | exact HB.out)⟩
        · replace c17 := Bool.eq_false_iff.mpr c17
          subst c17
          have H1 : ((leaf_Put.f t142 t143).bind fun bt152 => (if (t144 == (bt152.2 == 0)) = true then (if t144 = true then (if bt152.1.toList = a0.toList then ((quittancelaw02_head.f kj8).bind fun t154 => (some t154)) else (some false)) else ((quittancelaw02_head.f kj8).bind fun t155 => (some t155))) else (some false))) = some r := by rw [if_neg (show ¬ (false = true) by decide)] at H; exact H
          clear H
          have H := H1
          clear H1
          replace H := Option.bind_eq_some_iff.mp H
          obtain ⟨⟨t152, t153⟩, A180, H⟩ := H
          replace H : (if (t144 == (t153 == 0)) = true then (if t144 = true then (if t152.toList = a0.toList then ((quittancelaw02_head.f kj8).bind fun t154 => (some t154)) else (some false)) else ((quittancelaw02_head.f kj8).bind fun t155 => (some t155))) else (some false)) = some r := H
          have A18 := Aside0.mk A180
          clear A180
          by_cases c19 : (t144 == (t153 == 0)) = true
          · rw [if_pos c19] at H
            have c19b0 : (t144 == (t153 == 0)) = true := c19
            (try (have c19b1 : decide (t144 = (t153 == 0)) = true := by simpa using c19))
            (try (have c19b2 : (t144 == (t153 == 0)) = true := by simpa using c19))
            clear c19
            by_cases c20 : t144 = true
            · subst c20
              have H1 : (if t152.toList = a0.toList then ((quittancelaw02_head.f kj8).bind fun t154 => (some t154)) else (some false)) = some r := by rw [if_pos rfl] at H; exact H
              clear H
              have H := H1
              clear H1
              by_cases c21 : t152.toList = a0.toList
              · rw [if_pos c21] at H
                have c21b0 : (t152.toList == a0.toList) = true := beq_iff_eq.mpr c21
                have c21b1 : (t152.toList != a0.toList) = false := bne_eq_false_iff_eq.mpr c21
                clear c21
                replace H := Option.bind_eq_some_iff.mp H
                obtain ⟨t154, A220, H⟩ := H
                replace H : (some t154) = some r := H
                have A22 := Aside0.mk A220
                clear A220
                obtain rfl := Option.some.inj H
                go_wp2_with (first | ((with_reducible refine gate_callee (f := 26) rfl ?_); refine goesL_ (some 67) rfl rfl Try.func26 (by kernel_rfl) rfl #[.int .u64 t142, .string t143] rfl (by (try simp only [List.map_toArray, List.map_cons, List.map_nil]); first | done | rfl | (simp only [List.length_drop, List.length_take]; rfl)) ?_; (with_reducible refine (leaf_Put.calls t142 t143 t152 t153 _ A18.out).mono ?_); rintro e w23 ⟨rfl, hb⟩; refine ⟨_, rfl, ?_⟩; have n0_ := Aside0.mk (below_step (by repeat (first | (with_reducible first | exact HB.out | apply below_alloc | apply pw_below_drewN | apply below_drew1) | exact HB.out)) hb); clear HB; have HB := n0_; clear n0_; (try clear hb); (try clear hb2); (try clear hk); (try clear hi)) | (go_at_call 25; (with_reducible refine (quittancelaw02_head.calls kj8  t154 _ A22.out).mono ?_); rintro e w24 ⟨rfl, hb⟩; have n0_ := Aside0.mk (below_step (by repeat (first | (with_reducible first | exact HB.out | apply below_alloc | apply pw_below_drewN | apply below_drew1) | exact HB.out)) hb); clear HB; have HB := n0_; clear n0_; (try clear hb); (try clear hb2); (try clear hk); (try clear hi)))
                go_ret
                exact ⟨by first | rfl | (simp [errW_none, errW_some] <;> rfl) | (simp [*, errW_none, errW_some] <;> rfl), by repeat (first | (with_reducible first | exact HB.out | apply below_alloc | apply pw_below_drewN | apply below_drew1) | exact HB.out)⟩
              · rw [if_neg c21] at H
                have c21b0 : (t152.toList == a0.toList) = false := beq_eq_false_iff_ne.mpr c21
                have c21b1 : (t152.toList != a0.toList) = true := bne_iff_ne.mpr c21
                obtain rfl := Option.some.inj H
                go_wp2_with (first | ((with_reducible refine gate_callee (f := 26) rfl ?_); refine goesL_ (some 67) rfl rfl Try.func26 (by kernel_rfl) rfl #[.int .u64 t142, .string t143] rfl (by (try simp only [List.map_toArray, List.map_cons, List.map_nil]); first | done | rfl | (simp only [List.length_drop, List.length_take]; rfl)) ?_; (with_reducible refine (leaf_Put.calls t142 t143 t152 t153 _ A18.out).mono ?_); rintro e w25 ⟨rfl, hb⟩; refine ⟨_, rfl, ?_⟩; have n0_ := Aside0.mk (below_step (by repeat (first | (with_reducible first | exact HB.out | apply below_alloc | apply pw_below_drewN | apply below_drew1) | exact HB.out)) hb); clear HB; have HB := n0_; clear n0_; (try clear hb); (try clear hb2); (try clear hk); (try clear hi)))
                go_ret
                exact ⟨by first | rfl | (simp [errW_none, errW_some] <;> rfl) | (simp [*, errW_none, errW_some] <;> rfl), by repeat (first | (with_reducible first | exact HB.out | apply below_alloc | apply pw_below_drewN | apply below_drew1) | exact HB.out)⟩
            · replace c20 := Bool.eq_false_iff.mpr c20
              subst c20
              have H1 : ((quittancelaw02_head.f kj8).bind fun t155 => (some t155)) = some r := by rw [if_neg (show ¬ (false = true) by decide)] at H; exact H
              clear H
              have H := H1
              clear H1
              replace H := Option.bind_eq_some_iff.mp H
              obtain ⟨t155, A260, H⟩ := H
              replace H : (some t155) = some r := H
              have A26 := Aside0.mk A260
              clear A260
              obtain rfl := Option.some.inj H
              go_wp2_with (first | ((with_reducible refine gate_callee (f := 26) rfl ?_); refine goesL_ (some 67) rfl rfl Try.func26 (by kernel_rfl) rfl #[.int .u64 t142, .string t143] rfl (by (try simp only [List.map_toArray, List.map_cons, List.map_nil]); first | done | rfl | (simp only [List.length_drop, List.length_take]; rfl)) ?_; (with_reducible refine (leaf_Put.calls t142 t143 t152 t153 _ A18.out).mono ?_); rintro e w27 ⟨rfl, hb⟩; refine ⟨_, rfl, ?_⟩; have n0_ := Aside0.mk (below_step (by repeat (first | (with_reducible first | exact HB.out | apply below_alloc | apply pw_below_drewN | apply below_drew1) | exact HB.out)) hb); clear HB; have HB := n0_; clear n0_; (try clear hb); (try clear hb2); (try clear hk); (try clear hi)) | (go_at_call 25; (with_reducible refine (quittancelaw02_head.calls kj8  t155 _ A26.out).mono ?_); rintro e w28 ⟨rfl, hb⟩; have n0_ := Aside0.mk (below_step (by repeat (first | (with_reducible first | exact HB.out | apply below_alloc | apply pw_below_drewN | apply below_drew1) | exact HB.out)) hb); clear HB; have HB := n0_; clear n0_; (try clear hb); (try clear hb2); (try clear hk); (try clear hi)))
              go_ret
              exact ⟨by first | rfl | (simp [errW_none, errW_some] <;> rfl) | (simp [*, errW_none, errW_some] <;> rfl), by repeat (first | (with_reducible first | exact HB.out | apply below_alloc | apply pw_below_drewN | apply below_drew1) | exact HB.out)⟩
          · rw [if_neg c19] at H
            have c19b0 : (t144 == (t153 == 0)) = false := by simpa using c19
            (try (have c19b1 : decide (t144 = (t153 == 0)) = false := by simpa using c19))
            (try (have c19b2 : (t144 == (t153 == 0)) = false := by simpa using c19))
            (try (have c19b3 : ¬ (t144 = (t153 == 0)) := by simpa using c19))
            clear c19
            obtain rfl := Option.some.inj H
            go_wp2_with (first | ((with_reducible refine gate_callee (f := 26) rfl ?_); refine goesL_ (some 67) rfl rfl Try.func26 (by kernel_rfl) rfl #[.int .u64 t142, .string t143] rfl (by (try simp only [List.map_toArray, List.map_cons, List.map_nil]); first | done | rfl | (simp only [List.length_drop, List.length_take]; rfl)) ?_; (with_reducible refine (leaf_Put.calls t142 t143 t152 t153 _ A18.out).mono ?_); rintro e w29 ⟨rfl, hb⟩; refine ⟨_, rfl, ?_⟩; have n0_ := Aside0.mk (below_step (by repeat (first | (with_reducible first | exact HB.out | apply below_alloc | apply pw_below_drewN | apply below_drew1) | exact HB.out)) hb); clear HB; have HB := n0_; clear n0_; (try clear hb); (try clear hb2); (try clear hk); (try clear hi)))
            go_ret
            exact ⟨by first | rfl | (simp [errW_none, errW_some] <;> rfl) | (simp [*, errW_none, errW_some] <;> rfl), by repeat (first | (with_reducible first | exact HB.out | apply below_alloc | apply pw_below_drewN | apply below_drew1) | exact HB.out)⟩

/-- THE ONE PURE STATEMENT of quittancelaw02_LeafGets: yours. -/
def quittancelaw02_LeafGets.Pure : Prop := ∀ (a0 : ByteArray), a0.size ≤ 140737488351232 → ∃ k, quittancelaw02_LeafGets.f k a0 = some true
theorem quittancelaw02_LeafGets.walk (P : quittancelaw02_LeafGets.Pure) (a0 : ByteArray) (w : World) (w0 : a0.size ≤ 140737488351232) :
    Calls Try.prog 4 #[.string a0] w fun e w' => e = .returned (.bool true) ∧ Below w.heap.size w w' := by
  obtain ⟨k, h⟩ := P a0 w0
  refine (quittancelaw02_LeafGets.calls k a0 true w h).mono ?_
  rintro e w' ⟨rfl, hd⟩
  exact ⟨rfl, hd⟩

end Go.Proofs.Ytfelfllgieclbaa.Q
