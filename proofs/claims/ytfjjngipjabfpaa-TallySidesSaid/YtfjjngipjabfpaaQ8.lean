-- MADE BY xrun.sh, a turned copy of the kit's print: not typed by hand
import Derived.Test.YtfjjngipjabfpaaQ0
import Derived.Test.YtfjjngipjabfpaaQ1
import Derived.Test.YtfjjngipjabfpaaQ3
namespace Go.Proofs.Ytfjjngipjabfpaa.Q
open Go.RowKit Go.Proofs.YtfjjngipjabfpaaW.PrintWords Go.Proofs.YtfjjngipjabfpaaW.PrintLast Go.Proofs.YtfjjngipjabfpaaW.PrintMore
attribute [local go_sem] max2_int min2_int max_two min_two max_three min_three max_four min_four   -- for this text's walks alone
set_option linter.unusedVariables false
set_option linter.unusedSimpArgs false

/-! ### quittancelaw01_TallySides: function 8 -/
mutual
def quittancelaw01_TallySides.j0 : Nat → Int → ByteArray → Bool → Option (Bool)
  | 0, _, _, _ => none
  | k + 1, x2, x9, x42 => if x42 = true then (some false) else (quittancelaw01_TallySides.l0 k x2 x9 0)
def quittancelaw01_TallySides.l0 : Nat → Int → ByteArray → Int → Option (Bool)
  | 0, _, _, _ => none
  | k + 1, x2, x9, x10 => if x10 < (x9.size : Int) then (if 0 ≤ x10 then (if ((decide ((bt x9 x10) < 128)) != (x10 == (wrap64 ((x9.size : Int) - 1)))) = true then (some false) else (quittancelaw01_TallySides.l0 k x2 x9 (wrap64 (x10 + 1)))) else (none)) else (if x2 < 0 then (quittancelaw01_TallySides.j2 k (wrap64 (-(wrap64 (x2 + 1))))) else (quittancelaw01_TallySides.j2 k x2))
def quittancelaw01_TallySides.j2 : Nat → Int → Option (Bool)
  | 0, _ => none
  | k + 1, x11 => (tally_Int.f k x11).bind fun t293 => ((tally_Num.f k (IntKind.u64.wrap (2 * (IntKind.u64.wrap (x11))))).bind fun t294 => (if t293.toList = t294.toList then ((tally_Int.f k (wrap64 ((wrap64 (-x11)) - 1))).bind fun t295 => ((tally_Num.f k (IntKind.u64.wrap ((IntKind.u64.wrap (2 * (IntKind.u64.wrap (x11)))) + 1))).bind fun t296 => (if t295.toList = t296.toList then ((quittancelaw01_head.f k).bind fun t297 => (some t297)) else (some false)))) else (some false)))
end
def quittancelaw01_TallySides.f (k : Nat) (a0 : Int) (a1 : Int) (a2 : Int) : Option (Bool) := (tally_Num.f k (mx a0 a1)).bind fun t289 => ((tally_Long.f k (mn a0 a1)).bind fun t290 => ((tally_Long.f k (mx a0 a1)).bind fun t291 => (if t290 > t291 then (quittancelaw01_TallySides.j0 k a2 t289 true) else ((tally_Long.f k (mx a0 a1)).bind fun t292 => (if (t289.size : Int) = t292 then (if (t289.size : Int) > 10 then (quittancelaw01_TallySides.j0 k a2 t289 true) else (quittancelaw01_TallySides.j0 k a2 t289 ((t289.size : Int) == 0))) else (quittancelaw01_TallySides.j0 k a2 t289 true))))))
theorem quittancelaw01_TallySides.mono_l : ∀ k, (∀ y0 y1 y2, LeO (quittancelaw01_TallySides.j0 k y0 y1 y2) (quittancelaw01_TallySides.j0 (k + 1) y0 y1 y2)) ∧ (∀ y0 y1 y2, LeO (quittancelaw01_TallySides.l0 k y0 y1 y2) (quittancelaw01_TallySides.l0 (k + 1) y0 y1 y2)) ∧ (∀ y0, LeO (quittancelaw01_TallySides.j2 k y0) (quittancelaw01_TallySides.j2 (k + 1) y0))
  | 0 => ⟨fun _ _ _ r h => by simp [quittancelaw01_TallySides.j0] at h, fun _ _ _ r h => by simp [quittancelaw01_TallySides.l0] at h, fun _ r h => by simp [quittancelaw01_TallySides.j2] at h⟩
  | k + 1 => by
    obtain ⟨ih0, ih1, ih2⟩ := quittancelaw01_TallySides.mono_l k
    refine ⟨?_, ?_, ?_⟩
    · intro y0 y1 y2
      unfold quittancelaw01_TallySides.j0
      repeat' first
      | (with_reducible exact ih0 _ _ _)
      | (with_reducible exact ih1 _ _ _)
      | (with_reducible exact ih2 _)
      | (with_reducible exact quittancelaw01_head.mono _)
      | (with_reducible exact tally_Int.mono _ _)
      | (with_reducible exact tally_Long.mono _ _)
      | (with_reducible exact tally_Num.mono _ _)
      | (with_reducible exact LeO.refl _)
      | (with_reducible exact LeO.none _)
      | (with_reducible refine LeO.ite ?_ ?_)
      | (with_reducible refine LeO.bind ?_ (fun _ => ?_))
      | exact ih0 _ _ _
      | exact ih1 _ _ _
      | exact ih2 _
      | exact quittancelaw01_head.mono _
      | exact tally_Int.mono _ _
      | exact tally_Long.mono _ _
      | exact tally_Num.mono _ _
      | exact LeO.none _
      | refine LeO.ite ?_ ?_
      | refine LeO.bind ?_ (fun _ => ?_)
    · intro y0 y1 y2
      unfold quittancelaw01_TallySides.l0
      repeat' first
      | (with_reducible exact ih0 _ _ _)
      | (with_reducible exact ih1 _ _ _)
      | (with_reducible exact ih2 _)
      | (with_reducible exact quittancelaw01_head.mono _)
      | (with_reducible exact tally_Int.mono _ _)
      | (with_reducible exact tally_Long.mono _ _)
      | (with_reducible exact tally_Num.mono _ _)
      | (with_reducible exact LeO.refl _)
      | (with_reducible exact LeO.none _)
      | (with_reducible refine LeO.ite ?_ ?_)
      | (with_reducible refine LeO.bind ?_ (fun _ => ?_))
      | exact ih0 _ _ _
      | exact ih1 _ _ _
      | exact ih2 _
      | exact quittancelaw01_head.mono _
      | exact tally_Int.mono _ _
      | exact tally_Long.mono _ _
      | exact tally_Num.mono _ _
      | exact LeO.none _
      | refine LeO.ite ?_ ?_
      | refine LeO.bind ?_ (fun _ => ?_)
    · intro y0
      unfold quittancelaw01_TallySides.j2
      repeat' first
      | (with_reducible exact ih0 _ _ _)
      | (with_reducible exact ih1 _ _ _)
      | (with_reducible exact ih2 _)
      | (with_reducible exact quittancelaw01_head.mono _)
      | (with_reducible exact tally_Int.mono _ _)
      | (with_reducible exact tally_Long.mono _ _)
      | (with_reducible exact tally_Num.mono _ _)
      | (with_reducible exact LeO.refl _)
      | (with_reducible exact LeO.none _)
      | (with_reducible refine LeO.ite ?_ ?_)
      | (with_reducible refine LeO.bind ?_ (fun _ => ?_))
      | exact ih0 _ _ _
      | exact ih1 _ _ _
      | exact ih2 _
      | exact quittancelaw01_head.mono _
      | exact tally_Int.mono _ _
      | exact tally_Long.mono _ _
      | exact tally_Num.mono _ _
      | exact LeO.none _
      | refine LeO.ite ?_ ?_
      | refine LeO.bind ?_ (fun _ => ?_)
theorem quittancelaw01_TallySides.mono : ∀ a0 a1 a2 k, LeO (quittancelaw01_TallySides.f k a0 a1 a2) (quittancelaw01_TallySides.f (k + 1) a0 a1 a2) := by
  intro a0 a1 a2 k
  obtain ⟨ih0, ih1, ih2⟩ := quittancelaw01_TallySides.mono_l k
  unfold quittancelaw01_TallySides.f
  repeat' first
      | (with_reducible exact ih0 _ _ _)
      | (with_reducible exact ih1 _ _ _)
      | (with_reducible exact ih2 _)
      | (with_reducible exact quittancelaw01_head.mono _)
      | (with_reducible exact tally_Int.mono _ _)
      | (with_reducible exact tally_Long.mono _ _)
      | (with_reducible exact tally_Num.mono _ _)
      | (with_reducible exact LeO.refl _)
      | (with_reducible exact LeO.none _)
      | (with_reducible refine LeO.ite ?_ ?_)
      | (with_reducible refine LeO.bind ?_ (fun _ => ?_))
      | exact ih0 _ _ _
      | exact ih1 _ _ _
      | exact ih2 _
      | exact quittancelaw01_head.mono _
      | exact tally_Int.mono _ _
      | exact tally_Long.mono _ _
      | exact tally_Num.mono _ _
      | exact LeO.none _
      | refine LeO.ite ?_ ?_
      | refine LeO.bind ?_ (fun _ => ?_)
set_option maxHeartbeats 8000000 in
set_option maxRecDepth 100000 in
theorem quittancelaw01_TallySides.calls (k : Nat) (a0 : Int) (a1 : Int) (a2 : Int) (r : Bool) (w : World) (h : quittancelaw01_TallySides.f k a0 a1 a2 = some r) :
    Calls Try.prog 8 #[.int .u64 a0, .int .u64 a1, .int .i64 a2] w fun e w' => e = .returned (.bool r) ∧ Below w.heap.size w w' := by
  have HB := Aside0.mk (Below.refl w.heap.size w)
  have H : ((tally_Num.f k (mx a0 a1)).bind fun t289 => ((tally_Long.f k (mn a0 a1)).bind fun t290 => ((tally_Long.f k (mx a0 a1)).bind fun t291 => (if t290 > t291 then (quittancelaw01_TallySides.j0 k a2 t289 true) else ((tally_Long.f k (mx a0 a1)).bind fun t292 => (if (t289.size : Int) = t292 then (if (t289.size : Int) > 10 then (quittancelaw01_TallySides.j0 k a2 t289 true) else (quittancelaw01_TallySides.j0 k a2 t289 ((t289.size : Int) == 0))) else (quittancelaw01_TallySides.j0 k a2 t289 true))))))) = some r := h
  clear h
  obtain ⟨ji4, hji4⟩ : ∃ j_ : Int, (mn a0 a1) = j_ := ⟨_, rfl⟩
  replace H : ((tally_Num.f k (mx a0 a1)).bind fun t289 => ((tally_Long.f k (ji4)).bind fun t290 => ((tally_Long.f k (mx a0 a1)).bind fun t291 => (if t290 > t291 then (quittancelaw01_TallySides.j0 k a2 t289 true) else ((tally_Long.f k (mx a0 a1)).bind fun t292 => (if (t289.size : Int) = t292 then (if (t289.size : Int) > 10 then (quittancelaw01_TallySides.j0 k a2 t289 true) else (quittancelaw01_TallySides.j0 k a2 t289 ((t289.size : Int) == 0))) else (quittancelaw01_TallySides.j0 k a2 t289 true))))))) = some r := by first | (rw [hji4] at H; exact H) | (simp only [hji4] at H ⊢; exact H)
  have hji4_ : (if a1 < a0 then a1 else a0) = ji4 := hji4
  obtain ⟨ji5, hji5⟩ : ∃ j_ : Int, (mx a0 a1) = j_ := ⟨_, rfl⟩
  replace H : ((tally_Num.f k (ji5)).bind fun t289 => ((tally_Long.f k (ji4)).bind fun t290 => ((tally_Long.f k (ji5)).bind fun t291 => (if t290 > t291 then (quittancelaw01_TallySides.j0 k a2 t289 true) else ((tally_Long.f k (ji5)).bind fun t292 => (if (t289.size : Int) = t292 then (if (t289.size : Int) > 10 then (quittancelaw01_TallySides.j0 k a2 t289 true) else (quittancelaw01_TallySides.j0 k a2 t289 ((t289.size : Int) == 0))) else (quittancelaw01_TallySides.j0 k a2 t289 true))))))) = some r := by first | (rw [hji5] at H; exact H) | (simp only [hji5] at H ⊢; exact H)
  have hji5_ : (if a0 < a1 then a1 else a0) = ji5 := hji5
  replace H := Option.bind_eq_some_iff.mp H
  obtain ⟨t289, A60, H⟩ := H
  replace H : ((tally_Long.f k (ji4)).bind fun t290 => ((tally_Long.f k (ji5)).bind fun t291 => (if t290 > t291 then (quittancelaw01_TallySides.j0 k a2 t289 true) else ((tally_Long.f k (ji5)).bind fun t292 => (if (t289.size : Int) = t292 then (if (t289.size : Int) > 10 then (quittancelaw01_TallySides.j0 k a2 t289 true) else (quittancelaw01_TallySides.j0 k a2 t289 ((t289.size : Int) == 0))) else (quittancelaw01_TallySides.j0 k a2 t289 true)))))) = some r := H
  have A6 := Aside0.mk A60
  clear A60
  have HC7 := Aside0.mk H
  clear H
  go_enter Try.func8, Try.ntmps8
  go_upto_region 3 with (first | ((with_reducible refine gate_callee (f := 26) rfl ?_); refine goesL_ (some 20) rfl rfl Try.func26 (by kernel_rfl) rfl #[.int .u64 ji5] rfl (by (try simp only [List.map_toArray, List.map_cons, List.map_nil]); first | done | (simp only [hji5]; rfl) | rfl | (simp only [List.length_drop, List.length_take]; rfl)) ?_; (with_reducible refine (tally_Num.calls k ji5 t289 _ A6.out).mono ?_); rintro e w8 ⟨rfl, hb⟩; refine ⟨_, rfl, ?_⟩; have n0_ := Aside0.mk (below_step (by repeat (first | (with_reducible first | exact HB.out | apply below_alloc | apply pw_below_drewN | apply below_drew1) | exact HB.out)) hb); clear HB; have HB := n0_; clear n0_; (try clear hb); (try clear hb2); (try clear hk); (try clear hi)))
  (try simp only [Act.put, List.setIfInBounds_toArray, List.set_cons_zero, List.set_cons_succ])
  go_cut [42] (fun v42 wc => ∃ (kq : Nat) (x42_6 : Bool), v42 = .bool x42_6 ∧ Aside0 (quittancelaw01_TallySides.j0 kq a2 t289 x42_6 = some r) ∧ Aside0 (kq ≤ k) ∧ Aside0 (Below w.heap.size w wc))
  case first =>
    have H := HC7.out
    clear HC7
    replace H := Option.bind_eq_some_iff.mp H
    obtain ⟨t290, A90, H⟩ := H
    replace H : ((tally_Long.f k (ji5)).bind fun t291 => (if t290 > t291 then (quittancelaw01_TallySides.j0 k a2 t289 true) else ((tally_Long.f k (ji5)).bind fun t292 => (if (t289.size : Int) = t292 then (if (t289.size : Int) > 10 then (quittancelaw01_TallySides.j0 k a2 t289 true) else (quittancelaw01_TallySides.j0 k a2 t289 ((t289.size : Int) == 0))) else (quittancelaw01_TallySides.j0 k a2 t289 true))))) = some r := H
    have A9 := Aside0.mk A90
    clear A90
    replace H := Option.bind_eq_some_iff.mp H
    obtain ⟨t291, A100, H⟩ := H
    replace H : (if t290 > t291 then (quittancelaw01_TallySides.j0 k a2 t289 true) else ((tally_Long.f k (ji5)).bind fun t292 => (if (t289.size : Int) = t292 then (if (t289.size : Int) > 10 then (quittancelaw01_TallySides.j0 k a2 t289 true) else (quittancelaw01_TallySides.j0 k a2 t289 ((t289.size : Int) == 0))) else (quittancelaw01_TallySides.j0 k a2 t289 true)))) = some r := H
    have A10 := Aside0.mk A100
    clear A100
    by_cases c11 : t290 > t291
    · rw [if_pos c11] at H
      have c11b0 : decide (t291 < t290) = true := decide_eq_true c11
      clear c11
      (first | rw [c11b0] | (simp only [i64_w, i32_w]; rw [c11b0]) | skip)
      have H' := Aside0.mk H
      clear H
      go_wp2_with (first | ((with_reducible refine gate_callee (f := 30) rfl ?_); refine goesL_ (some 22) rfl rfl Try.func30 (by kernel_rfl) rfl #[.int .u64 ji4] rfl (by (try simp only [List.map_toArray, List.map_cons, List.map_nil]); first | done | (simp only [hji4]; rfl) | rfl | (simp only [List.length_drop, List.length_take]; rfl)) ?_; (with_reducible refine (tally_Long.calls k ji4 t290 _ A9.out).mono ?_); rintro e w' ⟨rfl, ⟨nd, rfl⟩⟩; refine ⟨_, rfl, ?_⟩) | ((with_reducible refine gate_callee (f := 30) rfl ?_); refine goesL_ (some 24) rfl rfl Try.func30 (by kernel_rfl) rfl #[.int .u64 ji5] rfl (by (try simp only [List.map_toArray, List.map_cons, List.map_nil]); first | done | (simp only [hji5]; rfl) | rfl | (simp only [List.length_drop, List.length_take]; rfl)) ?_; (with_reducible refine (tally_Long.calls k ji5 t291 _ A10.out).mono ?_); rintro e w' ⟨rfl, ⟨nd, rfl⟩⟩; refine ⟨_, rfl, ?_⟩))
      go_meet
      case rel => exact ⟨_, (true), (by first | rfl | (simp; done) | (simp [*]; done)), H', ⟨by first | omega | exact Nat.le_refl _⟩, ⟨by repeat (first | (with_reducible first | exact HB.out | apply below_alloc | apply pw_below_drewN | apply below_drew1) | exact HB.out)⟩⟩
    · rw [if_neg c11] at H
      have c11b0 : decide (t291 < t290) = false := decide_eq_false c11
      clear c11
      (first | rw [c11b0] | (simp only [i64_w, i32_w]; rw [c11b0]) | skip)
      replace H := Option.bind_eq_some_iff.mp H
      obtain ⟨t292, A120, H⟩ := H
      replace H : (if (t289.size : Int) = t292 then (if (t289.size : Int) > 10 then (quittancelaw01_TallySides.j0 k a2 t289 true) else (quittancelaw01_TallySides.j0 k a2 t289 ((t289.size : Int) == 0))) else (quittancelaw01_TallySides.j0 k a2 t289 true)) = some r := H
      have A12 := Aside0.mk A120
      clear A120
      by_cases c13 : (t289.size : Int) = t292
      · rw [if_pos c13] at H
        have c13b0 : ((t289.size : Int) == t292) = true := beq_iff_eq.mpr c13
        have c13b1 : ((t289.size : Int) != t292) = false := bne_eq_false_iff_eq.mpr c13
        clear c13
        by_cases c14 : (t289.size : Int) > 10
        · rw [if_pos c14] at H
          have c14b0 : decide (10 < (t289.size : Int)) = true := decide_eq_true c14
          have c14b1 : decide (10 < t289.size) = true := decide_eq_true (by omega)
          clear c14
          have H' := Aside0.mk H
          clear H
          go_wp2_with (first | ((with_reducible refine gate_callee (f := 30) rfl ?_); refine goesL_ (some 22) rfl rfl Try.func30 (by kernel_rfl) rfl #[.int .u64 ji4] rfl (by (try simp only [List.map_toArray, List.map_cons, List.map_nil]); first | done | (simp only [hji4]; rfl) | rfl | (simp only [List.length_drop, List.length_take]; rfl)) ?_; (with_reducible refine (tally_Long.calls k ji4 t290 _ A9.out).mono ?_); rintro e w' ⟨rfl, ⟨nd, rfl⟩⟩; refine ⟨_, rfl, ?_⟩) | ((with_reducible refine gate_callee (f := 30) rfl ?_); refine goesL_ (some 24) rfl rfl Try.func30 (by kernel_rfl) rfl #[.int .u64 ji5] rfl (by (try simp only [List.map_toArray, List.map_cons, List.map_nil]); first | done | (simp only [hji5]; rfl) | rfl | (simp only [List.length_drop, List.length_take]; rfl)) ?_; (with_reducible refine (tally_Long.calls k ji5 t291 _ A10.out).mono ?_); rintro e w' ⟨rfl, ⟨nd, rfl⟩⟩; refine ⟨_, rfl, ?_⟩) | (go_at_call 30; (with_reducible refine (tally_Long.calls k ji5 t292 _ A12.out).mono ?_); rintro e w' ⟨rfl, ⟨nd, rfl⟩⟩))
          go_meet
          case rel => exact ⟨_, (true), (by first | rfl | (simp; done) | (simp [*]; done)), H', ⟨by first | omega | exact Nat.le_refl _⟩, ⟨by repeat (first | (with_reducible first | exact HB.out | apply below_alloc | apply pw_below_drewN | apply below_drew1) | exact HB.out)⟩⟩
        · rw [if_neg c14] at H
          have c14b0 : decide (10 < (t289.size : Int)) = false := decide_eq_false c14
          have c14b1 : decide (10 < t289.size) = false := decide_eq_false (by omega)
          clear c14
          have H' := Aside0.mk H
          clear H
          go_wp2_with (first | ((with_reducible refine gate_callee (f := 30) rfl ?_); refine goesL_ (some 22) rfl rfl Try.func30 (by kernel_rfl) rfl #[.int .u64 ji4] rfl (by (try simp only [List.map_toArray, List.map_cons, List.map_nil]); first | done | (simp only [hji4]; rfl) | rfl | (simp only [List.length_drop, List.length_take]; rfl)) ?_; (with_reducible refine (tally_Long.calls k ji4 t290 _ A9.out).mono ?_); rintro e w' ⟨rfl, ⟨nd, rfl⟩⟩; refine ⟨_, rfl, ?_⟩) | ((with_reducible refine gate_callee (f := 30) rfl ?_); refine goesL_ (some 24) rfl rfl Try.func30 (by kernel_rfl) rfl #[.int .u64 ji5] rfl (by (try simp only [List.map_toArray, List.map_cons, List.map_nil]); first | done | (simp only [hji5]; rfl) | rfl | (simp only [List.length_drop, List.length_take]; rfl)) ?_; (with_reducible refine (tally_Long.calls k ji5 t291 _ A10.out).mono ?_); rintro e w' ⟨rfl, ⟨nd, rfl⟩⟩; refine ⟨_, rfl, ?_⟩) | (go_at_call 30; (with_reducible refine (tally_Long.calls k ji5 t292 _ A12.out).mono ?_); rintro e w' ⟨rfl, ⟨nd, rfl⟩⟩))
          go_meet
          case rel => exact ⟨_, (((t289.size : Int) == 0)), (by first | rfl | (simp; done) | (simp [*]; done)), H', ⟨by first | omega | exact Nat.le_refl _⟩, ⟨by repeat (first | (with_reducible first | exact HB.out | apply below_alloc | apply pw_below_drewN | apply below_drew1) | exact HB.out)⟩⟩
      · rw [if_neg c13] at H
        have c13b0 : ((t289.size : Int) == t292) = false := beq_eq_false_iff_ne.mpr c13
        have c13b1 : ((t289.size : Int) != t292) = true := bne_iff_ne.mpr c13
        have H' := Aside0.mk H
        clear H
        go_wp2_with (first | ((with_reducible refine gate_callee (f := 30) rfl ?_); refine goesL_ (some 22) rfl rfl Try.func30 (by kernel_rfl) rfl #[.int .u64 ji4] rfl (by (try simp only [List.map_toArray, List.map_cons, List.map_nil]); first | done | (simp only [hji4]; rfl) | rfl | (simp only [List.length_drop, List.length_take]; rfl)) ?_; (with_reducible refine (tally_Long.calls k ji4 t290 _ A9.out).mono ?_); rintro e w' ⟨rfl, ⟨nd, rfl⟩⟩; refine ⟨_, rfl, ?_⟩) | ((with_reducible refine gate_callee (f := 30) rfl ?_); refine goesL_ (some 24) rfl rfl Try.func30 (by kernel_rfl) rfl #[.int .u64 ji5] rfl (by (try simp only [List.map_toArray, List.map_cons, List.map_nil]); first | done | (simp only [hji5]; rfl) | rfl | (simp only [List.length_drop, List.length_take]; rfl)) ?_; (with_reducible refine (tally_Long.calls k ji5 t291 _ A10.out).mono ?_); rintro e w' ⟨rfl, ⟨nd, rfl⟩⟩; refine ⟨_, rfl, ?_⟩) | (go_at_call 30; (with_reducible refine (tally_Long.calls k ji5 t292 _ A12.out).mono ?_); rintro e w' ⟨rfl, ⟨nd, rfl⟩⟩))
        go_meet
        case rel => exact ⟨_, (true), (by first | rfl | (simp; done) | (simp [*]; done)), H', ⟨by first | omega | exact Nat.le_refl _⟩, ⟨by repeat (first | (with_reducible first | exact HB.out | apply below_alloc | apply pw_below_drewN | apply below_drew1) | exact HB.out)⟩⟩
  case rest =>
    clear HC7
    try clear c1
    try clear c2
    try clear p2
    try clear c3
    try clear c8
    try clear c11
    try clear c11b0
    try clear c13
    try clear c13b0
    try clear c13b1
    try clear c14
    try clear c14b0
    try clear c14b1
    obtain ⟨kq, x42_6, rfl, HA, HJ6, HB⟩ := hcut
    cases kq with
    | zero => exact absurd HA.out (by simp [quittancelaw01_TallySides.j0])
    | succ kj6 =>
      have H := HA.out
      clear HA
      simp only [quittancelaw01_TallySides.j0] at H
      by_cases c15 : x42_6 = true
      · subst c15
        have H1 : (some false) = some r := by rw [if_pos rfl] at H; exact H
        clear H
        have H := H1
        clear H1
        obtain rfl := Option.some.inj H
        go_wp2
        go_ret
        exact ⟨by first | rfl | (simp [errW_none, errW_some] <;> rfl) | (simp only [← hji4, ← hji5]; first | rfl | (simp [errW_none, errW_some] <;> rfl)) | (simp [*, errW_none, errW_some] <;> rfl), by repeat (first | (with_reducible first | exact HB.out | apply below_alloc | apply pw_below_drewN | apply below_drew1) | exact HB.out)⟩
      · replace c15 := Bool.eq_false_iff.mpr c15
        subst c15
        have H1 : (quittancelaw01_TallySides.l0 kj6 a2 t289 0) = some r := by rw [if_neg (show ¬ (false = true) by decide)] at H; exact H
        clear H
        have H := H1
        clear H1
        have H' := Aside0.mk H
        clear H
        go_wp2
        go_loopg [10] kj6 (fun kq v10 w' => ∃ (x10_2 : Int), v10 = .int .i64 x10_2 ∧ Aside0 (quittancelaw01_TallySides.l0 kq a2 t289 x10_2 = some r) ∧ Aside0 (kq ≤ kj6) ∧ Aside0 (Below w.heap.size w w'))
        case atStart => exact ⟨(0), (by first | rfl | (simp; done) | (simp [*]; done)), H', ⟨Nat.le_refl _⟩, ⟨by repeat (first | (with_reducible first | exact HB.out | apply below_alloc | apply pw_below_drewN | apply below_drew1) | exact HB.out)⟩⟩
        case round =>
          clear H'
          try clear c1
          try clear c2
          try clear p2
          try clear c3
          try clear c8
          try clear c11
          try clear c11b0
          try clear c13
          try clear c13b0
          try clear c13b1
          try clear c14
          try clear c14b0
          try clear c14b1
          try clear c15
          try clear p2
          obtain ⟨x10_2, rfl, HA, HK2, HB⟩ := hrel
          cases gk with
          | zero => exact absurd HA.out (by simp [quittancelaw01_TallySides.l0])
          | succ k2 =>
            have H := HA.out
            clear HA
            simp only [quittancelaw01_TallySides.l0] at H
            by_cases c16 : x10_2 < (t289.size : Int)
            · rw [if_pos c16] at H
              have c16b0 : decide (x10_2 < (t289.size : Int)) = true := decide_eq_true c16
              clear c16
              by_cases c17 : 0 ≤ x10_2
              · rw [if_pos c17] at H
                have c17b0 : decide (0 ≤ x10_2) = true := decide_eq_true c17
                clear c17
                by_cases c19 : ((decide ((bt t289 x10_2) < 128)) != (x10_2 == (wrap64 ((t289.size : Int) - 1)))) = true
                · rw [if_pos c19] at H
                  have c19b0 : ((decide ((bt t289 x10_2) < 128)) != (x10_2 == (wrap64 ((t289.size : Int) - 1)))) = true := c19
                  (try (have c19b1 : decide ((decide ((bt t289 x10_2) < 128)) = (x10_2 == (wrap64 ((t289.size : Int) - 1)))) = false := by simpa using c19))
                  (try (have c19b2 : ((decide ((bt t289 x10_2) < 128)) == (x10_2 == (wrap64 ((t289.size : Int) - 1)))) = false := by simpa using c19))
                  (try (have c19b3 : ¬ ((decide ((bt t289 x10_2) < 128)) = (x10_2 == (wrap64 ((t289.size : Int) - 1)))) := by simpa using c19))
                  clear c19
                  obtain rfl := Option.some.inj H
                  have p18 : 0 ≤ (x10_2 : Int) := of_decide_eq_true (by first | (with_reducible assumption) | assumption)
                  have q18 : x10_2 < (t289.size : Int) := of_decide_eq_true (by first | (with_reducible assumption) | assumption)
                  have hx18 := bt_at t289 x10_2
                  replace p18 := eq_true p18
                  replace q18 := eq_true q18
                  go_wp2
                  go_ret
                  exact ⟨by first | rfl | (simp [errW_none, errW_some] <;> rfl) | (simp only [← hji4, ← hji5]; first | rfl | (simp [errW_none, errW_some] <;> rfl)) | (simp [*, errW_none, errW_some] <;> rfl), by repeat (first | (with_reducible first | exact HB.out | apply below_alloc | apply pw_below_drewN | apply below_drew1) | exact HB.out)⟩
                · rw [if_neg c19] at H
                  have c19b0 : ((decide ((bt t289 x10_2) < 128)) != (x10_2 == (wrap64 ((t289.size : Int) - 1)))) = false := by simpa using c19
                  (try (have c19b1 : decide ((decide ((bt t289 x10_2) < 128)) = (x10_2 == (wrap64 ((t289.size : Int) - 1)))) = true := by simpa using c19))
                  (try (have c19b2 : ((decide ((bt t289 x10_2) < 128)) == (x10_2 == (wrap64 ((t289.size : Int) - 1)))) = true := by simpa using c19))
                  clear c19
                  have H' := Aside0.mk H
                  clear H
                  have p18 : 0 ≤ (x10_2 : Int) := of_decide_eq_true (by first | (with_reducible assumption) | assumption)
                  have q18 : x10_2 < (t289.size : Int) := of_decide_eq_true (by first | (with_reducible assumption) | assumption)
                  have hx18 := bt_at t289 x10_2
                  replace p18 := eq_true p18
                  replace q18 := eq_true q18
                  go_wp2
                  go_roundg k2
                  case measure => have := HJ6.out; have := HK2.out; omega
                  case rel => exact ⟨(wrap64 (x10_2 + 1)), (by first | rfl | (simp; done) | (simp [*]; done)), H', ⟨by have := HJ6.out; have := HK2.out; omega⟩, ⟨by repeat (first | (with_reducible first | exact HB.out | apply below_alloc | apply pw_below_drewN | apply below_drew1) | exact HB.out)⟩⟩
              · rw [if_neg c17] at H
                exact absurd H (by simp)
            · rw [if_neg c16] at H
              have c16b0 : decide (x10_2 < (t289.size : Int)) = false := decide_eq_false c16
              clear c16
              have HC20 := Aside0.mk H
              clear H
              go_upto_if 61 with (fail)
              go_cut [11] (fun v11 wc => ∃ (kq : Nat) (x11_19 : Int), v11 = .int .i64 x11_19 ∧ Aside0 (quittancelaw01_TallySides.j2 kq x11_19 = some r) ∧ Aside0 (kq ≤ k2) ∧ Aside0 (Below w.heap.size w wc))
              case first =>
                have H := HC20.out
                clear HC20
                by_cases c21 : a2 < 0
                · rw [if_pos c21] at H
                  have c21b0 : decide (a2 < 0) = true := decide_eq_true c21
                  clear c21
                  (first | rw [c21b0] | (simp only [i64_w, i32_w]; rw [c21b0]) | skip)
                  have H' := Aside0.mk H
                  clear H
                  go_wp2
                  go_meet
                  case rel => exact ⟨_, (wrap64 (-(wrap64 (a2 + 1)))), (by first | rfl | (simp; done) | (simp [*]; done)), H', ⟨by have := HJ6.out; have := HK2.out; first | omega | exact Nat.le_refl _⟩, ⟨by repeat (first | (with_reducible first | exact HB.out | apply below_alloc | apply pw_below_drewN | apply below_drew1) | exact HB.out)⟩⟩
                · rw [if_neg c21] at H
                  have c21b0 : decide (a2 < 0) = false := decide_eq_false c21
                  clear c21
                  (first | rw [c21b0] | (simp only [i64_w, i32_w]; rw [c21b0]) | skip)
                  have H' := Aside0.mk H
                  clear H
                  go_wp2
                  go_meet
                  case rel => exact ⟨_, (a2), (by first | rfl | (simp; done) | (simp [*]; done)), H', ⟨by have := HJ6.out; have := HK2.out; first | omega | exact Nat.le_refl _⟩, ⟨by repeat (first | (with_reducible first | exact HB.out | apply below_alloc | apply pw_below_drewN | apply below_drew1) | exact HB.out)⟩⟩
              case rest =>
                clear HC20
                try clear c1
                try clear p1
                try clear q1
                try clear hx1
                try clear c2
                try clear p2
                try clear c3
                try clear p6
                try clear c8
                try clear c11
                try clear c11b0
                try clear c13
                try clear c13b0
                try clear c13b1
                try clear c14
                try clear c14b0
                try clear c14b1
                try clear c15
                try clear c16
                try clear c16b0
                try clear c17
                try clear c17b0
                try clear p18
                try clear q18
                try clear hx18
                try clear c19
                try clear c19b0
                try clear c19b1
                try clear c19b2
                try clear c21
                try clear c21b0
                try clear p18
                try clear p2
                try clear q18
                obtain ⟨kq, x11_19, rfl, HA, HJ19, HB⟩ := hcut
                cases kq with
                | zero => exact absurd HA.out (by simp [quittancelaw01_TallySides.j2])
                | succ kj19 =>
                  have H := HA.out
                  clear HA
                  simp only [quittancelaw01_TallySides.j2] at H
                  replace H := Option.bind_eq_some_iff.mp H
                  obtain ⟨t293, A220, H⟩ := H
                  replace H : ((tally_Num.f kj19 (IntKind.u64.wrap (2 * (IntKind.u64.wrap (x11_19))))).bind fun t294 => (if t293.toList = t294.toList then ((tally_Int.f kj19 (wrap64 ((wrap64 (-x11_19)) - 1))).bind fun t295 => ((tally_Num.f kj19 (IntKind.u64.wrap ((IntKind.u64.wrap (2 * (IntKind.u64.wrap (x11_19)))) + 1))).bind fun t296 => (if t295.toList = t296.toList then ((quittancelaw01_head.f kj19).bind fun t297 => (some t297)) else (some false)))) else (some false))) = some r := H
                  have A22 := Aside0.mk A220
                  clear A220
                  replace H := Option.bind_eq_some_iff.mp H
                  obtain ⟨t294, A230, H⟩ := H
                  replace H : (if t293.toList = t294.toList then ((tally_Int.f kj19 (wrap64 ((wrap64 (-x11_19)) - 1))).bind fun t295 => ((tally_Num.f kj19 (IntKind.u64.wrap ((IntKind.u64.wrap (2 * (IntKind.u64.wrap (x11_19)))) + 1))).bind fun t296 => (if t295.toList = t296.toList then ((quittancelaw01_head.f kj19).bind fun t297 => (some t297)) else (some false)))) else (some false)) = some r := H
                  have A23 := Aside0.mk A230
                  clear A230
                  by_cases c24 : t293.toList = t294.toList
                  · rw [if_pos c24] at H
                    have c24b0 : (t293.toList == t294.toList) = true := beq_iff_eq.mpr c24
                    have c24b1 : (t293.toList != t294.toList) = false := bne_eq_false_iff_eq.mpr c24
                    clear c24
                    replace H := Option.bind_eq_some_iff.mp H
                    obtain ⟨t295, A250, H⟩ := H
                    replace H : ((tally_Num.f kj19 (IntKind.u64.wrap ((IntKind.u64.wrap (2 * (IntKind.u64.wrap (x11_19)))) + 1))).bind fun t296 => (if t295.toList = t296.toList then ((quittancelaw01_head.f kj19).bind fun t297 => (some t297)) else (some false))) = some r := H
                    have A25 := Aside0.mk A250
                    clear A250
                    replace H := Option.bind_eq_some_iff.mp H
                    obtain ⟨t296, A260, H⟩ := H
                    replace H : (if t295.toList = t296.toList then ((quittancelaw01_head.f kj19).bind fun t297 => (some t297)) else (some false)) = some r := H
                    have A26 := Aside0.mk A260
                    clear A260
                    by_cases c27 : t295.toList = t296.toList
                    · rw [if_pos c27] at H
                      have c27b0 : (t295.toList == t296.toList) = true := beq_iff_eq.mpr c27
                      have c27b1 : (t295.toList != t296.toList) = false := bne_eq_false_iff_eq.mpr c27
                      clear c27
                      replace H := Option.bind_eq_some_iff.mp H
                      obtain ⟨t297, A280, H⟩ := H
                      replace H : (some t297) = some r := H
                      have A28 := Aside0.mk A280
                      clear A280
                      obtain rfl := Option.some.inj H
                      go_wp2_with (first | ((with_reducible refine gate_callee (f := 27) rfl ?_); refine goesL_ (some 69) rfl rfl Try.func27 (by kernel_rfl) rfl #[.int .i64 x11_19] rfl (by (try simp only [List.map_toArray, List.map_cons, List.map_nil]); first | done | rfl | (simp only [List.length_drop, List.length_take]; rfl)) ?_; (with_reducible refine (tally_Int.calls kj19 x11_19 t293 _ A22.out).mono ?_); rintro e w29 ⟨rfl, hb⟩; refine ⟨_, rfl, ?_⟩; have n0_ := Aside0.mk (below_step (by repeat (first | (with_reducible first | exact HB.out | apply below_alloc | apply pw_below_drewN | apply below_drew1) | exact HB.out)) hb); clear HB; have HB := n0_; clear n0_; (try clear hb); (try clear hb2); (try clear hk); (try clear hi)) | ((with_reducible refine gate_callee (f := 26) rfl ?_); refine goesL_ (some 71) rfl rfl Try.func26 (by kernel_rfl) rfl #[.int .u64 (IntKind.u64.wrap (2 * (IntKind.u64.wrap (x11_19))))] rfl (by (try simp only [List.map_toArray, List.map_cons, List.map_nil]); first | done | rfl | (simp only [List.length_drop, List.length_take]; rfl)) ?_; (with_reducible refine (tally_Num.calls kj19 (IntKind.u64.wrap (2 * (IntKind.u64.wrap (x11_19)))) t294 _ A23.out).mono ?_); rintro e w30 ⟨rfl, hb⟩; refine ⟨_, rfl, ?_⟩; have n0_ := Aside0.mk (below_step (by repeat (first | (with_reducible first | exact HB.out | apply below_alloc | apply pw_below_drewN | apply below_drew1) | exact HB.out)) hb); clear HB; have HB := n0_; clear n0_; (try clear hb); (try clear hb2); (try clear hk); (try clear hi)) | (go_at_call 27; (with_reducible refine (tally_Int.calls kj19 (wrap64 ((wrap64 (-x11_19)) - 1)) t295 _ A25.out).mono ?_); rintro e w31 ⟨rfl, hb⟩; have n0_ := Aside0.mk (below_step (by repeat (first | (with_reducible first | exact HB.out | apply below_alloc | apply pw_below_drewN | apply below_drew1) | exact HB.out)) hb); clear HB; have HB := n0_; clear n0_; (try clear hb); (try clear hb2); (try clear hk); (try clear hi)) | (go_at_call 26; (with_reducible refine (tally_Num.calls kj19 (IntKind.u64.wrap ((IntKind.u64.wrap (2 * (IntKind.u64.wrap (x11_19)))) + 1)) t296 _ A26.out).mono ?_); rintro e w32 ⟨rfl, hb⟩; have n0_ := Aside0.mk (below_step (by repeat (first | (with_reducible first | exact HB.out | apply below_alloc | apply pw_below_drewN | apply below_drew1) | exact HB.out)) hb); clear HB; have HB := n0_; clear n0_; (try clear hb); (try clear hb2); (try clear hk); (try clear hi)) | (go_at_call 15; (with_reducible refine (quittancelaw01_head.calls kj19  t297 _ A28.out).mono ?_); rintro e w33 ⟨rfl, hb⟩; have n0_ := Aside0.mk (below_step (by repeat (first | (with_reducible first | exact HB.out | apply below_alloc | apply pw_below_drewN | apply below_drew1) | exact HB.out)) hb); clear HB; have HB := n0_; clear n0_; (try clear hb); (try clear hb2); (try clear hk); (try clear hi)))
                      go_ret
                      exact ⟨by first | rfl | (simp [errW_none, errW_some] <;> rfl) | (simp only [← hji4, ← hji5]; first | rfl | (simp [errW_none, errW_some] <;> rfl)) | (simp [*, errW_none, errW_some] <;> rfl), by repeat (first | (with_reducible first | exact HB.out | apply below_alloc | apply pw_below_drewN | apply below_drew1) | exact HB.out)⟩
                    · rw [if_neg c27] at H
                      have c27b0 : (t295.toList == t296.toList) = false := beq_eq_false_iff_ne.mpr c27
                      have c27b1 : (t295.toList != t296.toList) = true := bne_iff_ne.mpr c27
                      obtain rfl := Option.some.inj H
                      go_wp2_with (first | ((with_reducible refine gate_callee (f := 27) rfl ?_); refine goesL_ (some 69) rfl rfl Try.func27 (by kernel_rfl) rfl #[.int .i64 x11_19] rfl (by (try simp only [List.map_toArray, List.map_cons, List.map_nil]); first | done | rfl | (simp only [List.length_drop, List.length_take]; rfl)) ?_; (with_reducible refine (tally_Int.calls kj19 x11_19 t293 _ A22.out).mono ?_); rintro e w34 ⟨rfl, hb⟩; refine ⟨_, rfl, ?_⟩; have n0_ := Aside0.mk (below_step (by repeat (first | (with_reducible first | exact HB.out | apply below_alloc | apply pw_below_drewN | apply below_drew1) | exact HB.out)) hb); clear HB; have HB := n0_; clear n0_; (try clear hb); (try clear hb2); (try clear hk); (try clear hi)) | ((with_reducible refine gate_callee (f := 26) rfl ?_); refine goesL_ (some 71) rfl rfl Try.func26 (by kernel_rfl) rfl #[.int .u64 (IntKind.u64.wrap (2 * (IntKind.u64.wrap (x11_19))))] rfl (by (try simp only [List.map_toArray, List.map_cons, List.map_nil]); first | done | rfl | (simp only [List.length_drop, List.length_take]; rfl)) ?_; (with_reducible refine (tally_Num.calls kj19 (IntKind.u64.wrap (2 * (IntKind.u64.wrap (x11_19)))) t294 _ A23.out).mono ?_); rintro e w35 ⟨rfl, hb⟩; refine ⟨_, rfl, ?_⟩; have n0_ := Aside0.mk (below_step (by repeat (first | (with_reducible first | exact HB.out | apply below_alloc | apply pw_below_drewN | apply below_drew1) | exact HB.out)) hb); clear HB; have HB := n0_; clear n0_; (try clear hb); (try clear hb2); (try clear hk); (try clear hi)) | (go_at_call 27; (with_reducible refine (tally_Int.calls kj19 (wrap64 ((wrap64 (-x11_19)) - 1)) t295 _ A25.out).mono ?_); rintro e w36 ⟨rfl, hb⟩; have n0_ := Aside0.mk (below_step (by repeat (first | (with_reducible first | exact HB.out | apply below_alloc | apply pw_below_drewN | apply below_drew1) | exact HB.out)) hb); clear HB; have HB := n0_; clear n0_; (try clear hb); (try clear hb2); (try clear hk); (try clear hi)) | (go_at_call 26; (with_reducible refine (tally_Num.calls kj19 (IntKind.u64.wrap ((IntKind.u64.wrap (2 * (IntKind.u64.wrap (x11_19)))) + 1)) t296 _ A26.out).mono ?_); rintro e w37 ⟨rfl, hb⟩; have n0_ := Aside0.mk (below_step (by repeat (first | (with_reducible first | exact HB.out | apply below_alloc | apply pw_below_drewN | apply below_drew1) | exact HB.out)) hb); clear HB; have HB := n0_; clear n0_; (try clear hb); (try clear hb2); (try clear hk); (try clear hi)))
                      go_ret
                      exact ⟨by first | rfl | (simp [errW_none, errW_some] <;> rfl) | (simp only [← hji4, ← hji5]; first | rfl | (simp [errW_none, errW_some] <;> rfl)) | (simp [*, errW_none, errW_some] <;> rfl), by repeat (first | (with_reducible first | exact HB.out | apply below_alloc | apply pw_below_drewN | apply below_drew1) | exact HB.out)⟩
                  · rw [if_neg c24] at H
                    have c24b0 : (t293.toList == t294.toList) = false := beq_eq_false_iff_ne.mpr c24
                    have c24b1 : (t293.toList != t294.toList) = true := bne_iff_ne.mpr c24
                    obtain rfl := Option.some.inj H
                    go_wp2_with (first | ((with_reducible refine gate_callee (f := 27) rfl ?_); refine goesL_ (some 69) rfl rfl Try.func27 (by kernel_rfl) rfl #[.int .i64 x11_19] rfl (by (try simp only [List.map_toArray, List.map_cons, List.map_nil]); first | done | rfl | (simp only [List.length_drop, List.length_take]; rfl)) ?_; (with_reducible refine (tally_Int.calls kj19 x11_19 t293 _ A22.out).mono ?_); rintro e w38 ⟨rfl, hb⟩; refine ⟨_, rfl, ?_⟩; have n0_ := Aside0.mk (below_step (by repeat (first | (with_reducible first | exact HB.out | apply below_alloc | apply pw_below_drewN | apply below_drew1) | exact HB.out)) hb); clear HB; have HB := n0_; clear n0_; (try clear hb); (try clear hb2); (try clear hk); (try clear hi)) | ((with_reducible refine gate_callee (f := 26) rfl ?_); refine goesL_ (some 71) rfl rfl Try.func26 (by kernel_rfl) rfl #[.int .u64 (IntKind.u64.wrap (2 * (IntKind.u64.wrap (x11_19))))] rfl (by (try simp only [List.map_toArray, List.map_cons, List.map_nil]); first | done | rfl | (simp only [List.length_drop, List.length_take]; rfl)) ?_; (with_reducible refine (tally_Num.calls kj19 (IntKind.u64.wrap (2 * (IntKind.u64.wrap (x11_19)))) t294 _ A23.out).mono ?_); rintro e w39 ⟨rfl, hb⟩; refine ⟨_, rfl, ?_⟩; have n0_ := Aside0.mk (below_step (by repeat (first | (with_reducible first | exact HB.out | apply below_alloc | apply pw_below_drewN | apply below_drew1) | exact HB.out)) hb); clear HB; have HB := n0_; clear n0_; (try clear hb); (try clear hb2); (try clear hk); (try clear hi)))
                    go_ret
                    exact ⟨by first | rfl | (simp [errW_none, errW_some] <;> rfl) | (simp only [← hji4, ← hji5]; first | rfl | (simp [errW_none, errW_some] <;> rfl)) | (simp [*, errW_none, errW_some] <;> rfl), by repeat (first | (with_reducible first | exact HB.out | apply below_alloc | apply pw_below_drewN | apply below_drew1) | exact HB.out)⟩

/-- THE ONE PURE STATEMENT of quittancelaw01_TallySides: yours. -/
def quittancelaw01_TallySides.Pure : Prop := ∀ (a0 : Int) (a1 : Int) (a2 : Int), (Lit.int .u64 a0).wf = true → (Lit.int .u64 a1).wf = true → (Lit.int .i64 a2).wf = true → ∃ k, quittancelaw01_TallySides.f k a0 a1 a2 = some true
theorem quittancelaw01_TallySides.walk (P : quittancelaw01_TallySides.Pure) (a0 : Int) (a1 : Int) (a2 : Int) (w : World) (w0 : (Lit.int .u64 a0).wf = true) (w1 : (Lit.int .u64 a1).wf = true) (w2 : (Lit.int .i64 a2).wf = true) :
    Calls Try.prog 8 #[.int .u64 a0, .int .u64 a1, .int .i64 a2] w fun e w' => e = .returned (.bool true) ∧ Below w.heap.size w w' := by
  obtain ⟨k, h⟩ := P a0 a1 a2 w0 w1 w2
  refine (quittancelaw01_TallySides.calls k a0 a1 a2 true w h).mono ?_
  rintro e w' ⟨rfl, hd⟩
  exact ⟨rfl, hd⟩

end Go.Proofs.Ytfjjngipjabfpaa.Q
