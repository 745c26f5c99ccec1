-- MADE BY xrun.sh, a turned copy of the kit's print: not typed by hand
import Derived.Test.YtfjjngipjabfpaaQ0
import Derived.Test.YtfjjngipjabfpaaQ1
import Derived.Test.YtfjjngipjabfpaaQ2
import Derived.Test.YtfjjngipjabfpaaQ3
import Derived.Test.YtfjjngipjabfpaaH1
import Derived.Test.YtfjjngipjabfpaaH3
import Derived.Test.YtfjjngipjabfpaaH4
namespace Go.Proofs.Ytfjjngipjabfpaa.Q
open Go.RowKit Go.Proofs.YtfjjngipjabfpaaW.PrintWords Go.Proofs.YtfjjngipjabfpaaW.PrintLast Go.Proofs.YtfjjngipjabfpaaW.PrintMore
attribute [local go_sem] max2_int min2_int max_two min_two max_three min_three max_four min_four   -- for this text's walks alone
set_option linter.unusedVariables false
set_option linter.unusedSimpArgs false

/-! ### quittancelaw01_TallyOnce: function 6 -/
mutual
def quittancelaw01_TallyOnce.j0 : Nat → ByteArray → Bool → Option (Bool)
  | 0, _, _ => none
  | k + 1, x0, x39 => if x39 = true then (some false) else ((tally_TakeInt.f x0).bind fun bt240 => (if bt240.2.2 = true then ((tally_Int.f k bt240.1).bind fun t243 => (if t243.size + bt240.2.1.size ≤ 9223372036854775807 then (if (t243 ++ bt240.2.1).toList = x0.toList then (quittancelaw01_TallyOnce.j1 k x0 false) else (quittancelaw01_TallyOnce.j1 k x0 true)) else (none))) else (if bt240.1 = 0 then (quittancelaw01_TallyOnce.j1 k x0 (bt240.2.1.toList != ([] : List UInt8))) else (quittancelaw01_TallyOnce.j1 k x0 true))))
def quittancelaw01_TallyOnce.j1 : Nat → ByteArray → Bool → Option (Bool)
  | 0, _, _ => none
  | k + 1, x0, x66 => if x66 = true then (some false) else ((tally_TakeText.f x0).bind fun bt244 => (if bt244.2.2 = true then ((tally_Text.f k bt244.1).bind fun t247 => (if t247.size + bt244.2.1.size ≤ 9223372036854775807 then (if (t247 ++ bt244.2.1).toList = x0.toList then (quittancelaw01_TallyOnce.j2 k x0 false) else (quittancelaw01_TallyOnce.j2 k x0 true)) else (none))) else (if bt244.1.toList = ([] : List UInt8) then (quittancelaw01_TallyOnce.j2 k x0 (bt244.2.1.toList != ([] : List UInt8))) else (quittancelaw01_TallyOnce.j2 k x0 true))))
def quittancelaw01_TallyOnce.j2 : Nat → ByteArray → Bool → Option (Bool)
  | 0, _, _ => none
  | k + 1, x0, x93 => if x93 = true then (some false) else ((tally_TakeRow.f x0).bind fun bt248 => (if bt248.2.2 = true then ((tally_Row.f bt248.1).bind fun t253 => (if t253.size + bt248.2.1.size ≤ 9223372036854775807 then (if (t253 ++ bt248.2.1).toList = x0.toList then ((quittancelaw01_head.f k).bind fun t254 => (some t254)) else (some false)) else (none))) else (if (bt248.1.length : Int) = 0 then (if bt248.2.1.toList = ([] : List UInt8) then ((quittancelaw01_head.f k).bind fun t255 => (some t255)) else (some false)) else (some false))))
end
def quittancelaw01_TallyOnce.f (k : Nat) (a0 : ByteArray) : Option (Bool) := if (a0.size : Int) > 3000 then ((quittancelaw01_head.f k).bind fun t235 => (some t235)) else ((tally_TakeNum.f a0).bind fun bt236 => (if bt236.2.2 = true then ((tally_Num.f k bt236.1).bind fun t239 => (if t239.size + bt236.2.1.size ≤ 9223372036854775807 then (if (t239 ++ bt236.2.1).toList = a0.toList then (quittancelaw01_TallyOnce.j0 k a0 false) else (quittancelaw01_TallyOnce.j0 k a0 true)) else (none))) else (if bt236.1 = 0 then (quittancelaw01_TallyOnce.j0 k a0 (bt236.2.1.toList != ([] : List UInt8))) else (quittancelaw01_TallyOnce.j0 k a0 true))))
theorem quittancelaw01_TallyOnce.mono_l : ∀ k, (∀ y0 y1, LeO (quittancelaw01_TallyOnce.j0 k y0 y1) (quittancelaw01_TallyOnce.j0 (k + 1) y0 y1)) ∧ (∀ y0 y1, LeO (quittancelaw01_TallyOnce.j1 k y0 y1) (quittancelaw01_TallyOnce.j1 (k + 1) y0 y1)) ∧ (∀ y0 y1, LeO (quittancelaw01_TallyOnce.j2 k y0 y1) (quittancelaw01_TallyOnce.j2 (k + 1) y0 y1))
  | 0 => ⟨fun _ _ r h => by simp [quittancelaw01_TallyOnce.j0] at h, fun _ _ r h => by simp [quittancelaw01_TallyOnce.j1] at h, fun _ _ r h => by simp [quittancelaw01_TallyOnce.j2] at h⟩
  | k + 1 => by
    obtain ⟨ih0, ih1, ih2⟩ := quittancelaw01_TallyOnce.mono_l k
    refine ⟨?_, ?_, ?_⟩
    · intro y0 y1
      unfold quittancelaw01_TallyOnce.j0
      repeat' first
      | (with_reducible exact ih0 _ _)
      | (with_reducible exact ih1 _ _)
      | (with_reducible exact ih2 _ _)
      | (with_reducible exact quittancelaw01_head.mono _)
      | (with_reducible exact tally_Int.mono _ _)
      | (with_reducible exact tally_Num.mono _ _)
      | (with_reducible exact tally_Text.mono _ _)
      | (with_reducible exact LeO.refl _)
      | (with_reducible exact LeO.none _)
      | (with_reducible refine LeO.ite ?_ ?_)
      | (with_reducible refine LeO.bind ?_ (fun _ => ?_))
      | exact ih0 _ _
      | exact ih1 _ _
      | exact ih2 _ _
      | exact quittancelaw01_head.mono _
      | exact tally_Int.mono _ _
      | exact tally_Num.mono _ _
      | exact tally_Text.mono _ _
      | exact LeO.none _
      | refine LeO.ite ?_ ?_
      | refine LeO.bind ?_ (fun _ => ?_)
    · intro y0 y1
      unfold quittancelaw01_TallyOnce.j1
      repeat' first
      | (with_reducible exact ih0 _ _)
      | (with_reducible exact ih1 _ _)
      | (with_reducible exact ih2 _ _)
      | (with_reducible exact quittancelaw01_head.mono _)
      | (with_reducible exact tally_Int.mono _ _)
      | (with_reducible exact tally_Num.mono _ _)
      | (with_reducible exact tally_Text.mono _ _)
      | (with_reducible exact LeO.refl _)
      | (with_reducible exact LeO.none _)
      | (with_reducible refine LeO.ite ?_ ?_)
      | (with_reducible refine LeO.bind ?_ (fun _ => ?_))
      | exact ih0 _ _
      | exact ih1 _ _
      | exact ih2 _ _
      | exact quittancelaw01_head.mono _
      | exact tally_Int.mono _ _
      | exact tally_Num.mono _ _
      | exact tally_Text.mono _ _
      | exact LeO.none _
      | refine LeO.ite ?_ ?_
      | refine LeO.bind ?_ (fun _ => ?_)
    · intro y0 y1
      unfold quittancelaw01_TallyOnce.j2
      repeat' first
      | (with_reducible exact ih0 _ _)
      | (with_reducible exact ih1 _ _)
      | (with_reducible exact ih2 _ _)
      | (with_reducible exact quittancelaw01_head.mono _)
      | (with_reducible exact tally_Int.mono _ _)
      | (with_reducible exact tally_Num.mono _ _)
      | (with_reducible exact tally_Text.mono _ _)
      | (with_reducible exact LeO.refl _)
      | (with_reducible exact LeO.none _)
      | (with_reducible refine LeO.ite ?_ ?_)
      | (with_reducible refine LeO.bind ?_ (fun _ => ?_))
      | exact ih0 _ _
      | exact ih1 _ _
      | exact ih2 _ _
      | exact quittancelaw01_head.mono _
      | exact tally_Int.mono _ _
      | exact tally_Num.mono _ _
      | exact tally_Text.mono _ _
      | exact LeO.none _
      | refine LeO.ite ?_ ?_
      | refine LeO.bind ?_ (fun _ => ?_)
theorem quittancelaw01_TallyOnce.mono : ∀ a0 k, LeO (quittancelaw01_TallyOnce.f k a0) (quittancelaw01_TallyOnce.f (k + 1) a0) := by
  intro a0 k
  obtain ⟨ih0, ih1, ih2⟩ := quittancelaw01_TallyOnce.mono_l k
  unfold quittancelaw01_TallyOnce.f
  repeat' first
      | (with_reducible exact ih0 _ _)
      | (with_reducible exact ih1 _ _)
      | (with_reducible exact ih2 _ _)
      | (with_reducible exact quittancelaw01_head.mono _)
      | (with_reducible exact tally_Int.mono _ _)
      | (with_reducible exact tally_Num.mono _ _)
      | (with_reducible exact tally_Text.mono _ _)
      | (with_reducible exact LeO.refl _)
      | (with_reducible exact LeO.none _)
      | (with_reducible refine LeO.ite ?_ ?_)
      | (with_reducible refine LeO.bind ?_ (fun _ => ?_))
      | exact ih0 _ _
      | exact ih1 _ _
      | exact ih2 _ _
      | exact quittancelaw01_head.mono _
      | exact tally_Int.mono _ _
      | exact tally_Num.mono _ _
      | exact tally_Text.mono _ _
      | exact LeO.none _
      | refine LeO.ite ?_ ?_
      | refine LeO.bind ?_ (fun _ => ?_)
set_option maxHeartbeats 8000000 in
set_option maxRecDepth 100000 in
theorem quittancelaw01_TallyOnce.calls (k : Nat) (a0 : ByteArray) (r : Bool) (w : World) (h : quittancelaw01_TallyOnce.f k a0 = some r) :
    Calls Try.prog 6 #[.string a0] w fun e w' => e = .returned (.bool r) ∧ Below w.heap.size w w' := by
  have HB := Aside0.mk (Below.refl w.heap.size w)
  have H : (if (a0.size : Int) > 3000 then ((quittancelaw01_head.f k).bind fun t235 => (some t235)) else ((tally_TakeNum.f a0).bind fun bt236 => (if bt236.2.2 = true then ((tally_Num.f k bt236.1).bind fun t239 => (if t239.size + bt236.2.1.size ≤ 9223372036854775807 then (if (t239 ++ bt236.2.1).toList = a0.toList then (quittancelaw01_TallyOnce.j0 k a0 false) else (quittancelaw01_TallyOnce.j0 k a0 true)) else (none))) else (if bt236.1 = 0 then (quittancelaw01_TallyOnce.j0 k a0 (bt236.2.1.toList != ([] : List UInt8))) else (quittancelaw01_TallyOnce.j0 k a0 true))))) = some r := h
  clear h
  by_cases c2 : (a0.size : Int) > 3000
  · rw [if_pos c2] at H
    have c2b0 : decide (3000 < (a0.size : Int)) = true := decide_eq_true c2
    have c2b1 : decide (3000 < a0.size) = true := decide_eq_true (by omega)
    clear c2
    replace H := Option.bind_eq_some_iff.mp H
    obtain ⟨t235, A30, H⟩ := H
    replace H : (some t235) = some r := H
    have A3 := Aside0.mk A30
    clear A30
    obtain rfl := Option.some.inj H
    go_enter Try.func6, Try.ntmps6
    go_wp2_with (first | ((with_reducible refine gate_callee (f := 15) rfl ?_); refine goesL_ (some 12) rfl rfl Try.func15 (by kernel_rfl) rfl #[] rfl (by (try simp only [List.map_toArray, List.map_cons, List.map_nil]); first | done | rfl | (simp only [List.length_drop, List.length_take]; rfl)) ?_; (with_reducible refine (quittancelaw01_head.calls k  t235 _ A3.out).mono ?_); rintro e w4 ⟨rfl, hb⟩; refine ⟨_, rfl, ?_⟩; have n0_ := Aside0.mk (below_step (by repeat (first | (with_reducible first | exact HB.out | apply below_alloc | apply pw_below_drewN | apply below_drew1) | exact HB.out)) hb); clear HB; have HB := n0_; clear n0_; (try clear hb); (try clear hb2); (try clear hk); (try clear hi)))
    go_ret
    exact ⟨by first | rfl | (simp [errW_none, errW_some] <;> rfl) | (simp [*, errW_none, errW_some] <;> rfl), by repeat (first | (with_reducible first | exact HB.out | apply below_alloc | apply pw_below_drewN | apply below_drew1) | exact HB.out)⟩
  · rw [if_neg c2] at H
    have c2b0 : decide (3000 < (a0.size : Int)) = false := decide_eq_false c2
    have c2b1 : decide (3000 < a0.size) = false := decide_eq_false (by omega)
    clear c2
    replace H := Option.bind_eq_some_iff.mp H
    obtain ⟨⟨t236, t237, t238⟩, A50, H⟩ := H
    replace H : (if t238 = true then ((tally_Num.f k t236).bind fun t239 => (if t239.size + t237.size ≤ 9223372036854775807 then (if (t239 ++ t237).toList = a0.toList then (quittancelaw01_TallyOnce.j0 k a0 false) else (quittancelaw01_TallyOnce.j0 k a0 true)) else (none))) else (if t236 = 0 then (quittancelaw01_TallyOnce.j0 k a0 (t237.toList != ([] : List UInt8))) else (quittancelaw01_TallyOnce.j0 k a0 true))) = some r := H
    have A5 := Aside0.mk A50
    clear A50
    have HC6 := Aside0.mk H
    clear H
    go_enter Try.func6, Try.ntmps6
    go_upto_region 4 with (first | ((with_reducible refine gate_callee (f := 16) rfl ?_); refine goesL_ (some 15) rfl rfl Try.func16 (by kernel_rfl) rfl #[.string a0] rfl (by (try simp only [List.map_toArray, List.map_cons, List.map_nil]); first | done | rfl | (simp only [List.length_drop, List.length_take]; rfl)) ?_; (with_reducible refine (tally_TakeNum.calls a0 t236 t237 t238 _ A5.out).mono ?_); rintro e w' ⟨rfl, ⟨nd, rfl⟩⟩; refine ⟨_, rfl, ?_⟩))
    (try simp only [Act.put, List.setIfInBounds_toArray, List.set_cons_zero, List.set_cons_succ])
    go_cut [39] (fun v39 wc => ∃ (kq : Nat) (x39_5 : Bool), v39 = .bool x39_5 ∧ Aside0 (quittancelaw01_TallyOnce.j0 kq a0 x39_5 = some r) ∧ Aside0 (kq ≤ k) ∧ Aside0 (Below w.heap.size w wc))
    case first =>
      have H := HC6.out
      clear HC6
      by_cases c7 : t238 = true
      · subst c7
        have H1 : ((tally_Num.f k t236).bind fun t239 => (if t239.size + t237.size ≤ 9223372036854775807 then (if (t239 ++ t237).toList = a0.toList then (quittancelaw01_TallyOnce.j0 k a0 false) else (quittancelaw01_TallyOnce.j0 k a0 true)) else (none))) = some r := by rw [if_pos rfl] at H; exact H
        clear H
        have H := H1
        clear H1
        replace H := Option.bind_eq_some_iff.mp H
        obtain ⟨t239, A80, H⟩ := H
        replace H : (if t239.size + t237.size ≤ 9223372036854775807 then (if (t239 ++ t237).toList = a0.toList then (quittancelaw01_TallyOnce.j0 k a0 false) else (quittancelaw01_TallyOnce.j0 k a0 true)) else (none)) = some r := H
        have A8 := Aside0.mk A80
        clear A80
        by_cases c9 : t239.size + t237.size ≤ 9223372036854775807
        · rw [if_pos c9] at H
          have c9b0 := eq_true c9
          have c9b1 : decide (t239.size + t237.size ≤ 9223372036854775807) = true := decide_eq_true c9
          try have c9b2 : (9223372036854775807 < t239.size + t237.size) = False := eq_false (Nat.not_lt.2 c9)
          try (have c9b3 := Nat.not_lt.2 c9; simp only [ByteArray.size_append, ByteArray.size_extract, Nat.sub_zero, Nat.min_self] at c9b3; replace c9b3 := eq_false c9b3)
          try (have c9b4 := Nat.not_lt.2 c9; simp only [ByteArray.size_append, ByteArray.size_extract, Nat.sub_zero, Nat.min_self] at c9b4; rw [Nat.min_eq_left (by simp only [decide_eq_true_eq, eq_iff_iff, iff_true] at *; omega)] at c9b4; replace c9b4 := eq_false c9b4)
          by_cases c10 : (t239 ++ t237).toList = a0.toList
          · rw [if_pos c10] at H
            have c10b0 : ((t239 ++ t237).toList == a0.toList) = true := beq_iff_eq.mpr c10
            have c10b1 : ((t239 ++ t237).toList != a0.toList) = false := bne_eq_false_iff_eq.mpr c10
            clear c10
            (first | rw [c10b0] | (simp only [i64_w, i32_w]; rw [c10b0]) | skip)
            have H' := Aside0.mk H
            clear H
            go_wp2_with (first | (go_at_call 26; (with_reducible refine (tally_Num.calls k t236 t239 _ A8.out).mono ?_); rintro e w11 ⟨rfl, hb⟩; have n0_ := Aside0.mk (below_step (by repeat (first | (with_reducible first | exact HB.out | apply below_alloc | apply pw_below_drewN | apply below_drew1) | exact HB.out)) hb); clear HB; have HB := n0_; clear n0_; (try clear hb); (try clear hb2); (try clear hk); (try clear hi)))
            go_meet
            case rel => exact ⟨_, (false), (by first | rfl | (simp; done) | (simp [*]; done)), H', ⟨by first | omega | exact Nat.le_refl _⟩, ⟨by repeat (first | (with_reducible first | exact HB.out | apply below_alloc | apply pw_below_drewN | apply below_drew1) | exact HB.out)⟩⟩
          · rw [if_neg c10] at H
            have c10b0 : ((t239 ++ t237).toList == a0.toList) = false := beq_eq_false_iff_ne.mpr c10
            have c10b1 : ((t239 ++ t237).toList != a0.toList) = true := bne_iff_ne.mpr c10
            (first | rw [c10b0] | (simp only [i64_w, i32_w]; rw [c10b0]) | skip)
            have H' := Aside0.mk H
            clear H
            go_wp2_with (first | (go_at_call 26; (with_reducible refine (tally_Num.calls k t236 t239 _ A8.out).mono ?_); rintro e w12 ⟨rfl, hb⟩; have n0_ := Aside0.mk (below_step (by repeat (first | (with_reducible first | exact HB.out | apply below_alloc | apply pw_below_drewN | apply below_drew1) | exact HB.out)) hb); clear HB; have HB := n0_; clear n0_; (try clear hb); (try clear hb2); (try clear hk); (try clear hi)))
            go_meet
            case rel => exact ⟨_, (true), (by first | rfl | (simp; done) | (simp [*]; done)), H', ⟨by first | omega | exact Nat.le_refl _⟩, ⟨by repeat (first | (with_reducible first | exact HB.out | apply below_alloc | apply pw_below_drewN | apply below_drew1) | exact HB.out)⟩⟩
        · rw [if_neg c9] at H
          exact absurd H (by simp)
      · replace c7 := Bool.eq_false_iff.mpr c7
        subst c7
        have H1 : (if t236 = 0 then (quittancelaw01_TallyOnce.j0 k a0 (t237.toList != ([] : List UInt8))) else (quittancelaw01_TallyOnce.j0 k a0 true)) = some r := by rw [if_neg (show ¬ (false = true) by decide)] at H; exact H
        clear H
        have H := H1
        clear H1
        by_cases c13 : t236 = 0
        · rw [if_pos c13] at H
          have c13b0 : (t236 == 0) = true := beq_iff_eq.mpr c13
          have c13b1 : (t236 != 0) = false := bne_eq_false_iff_eq.mpr c13
          clear c13
          have H' := Aside0.mk H
          clear H
          go_wp2
          go_meet
          case rel => exact ⟨_, ((t237.toList != ([] : List UInt8))), (by first | rfl | (simp; done) | (simp [*]; done) | (simp; exact isEmpty_ne _)), H', ⟨by first | omega | exact Nat.le_refl _⟩, ⟨by repeat (first | (with_reducible first | exact HB.out | apply below_alloc | apply pw_below_drewN | apply below_drew1) | exact HB.out)⟩⟩
        · rw [if_neg c13] at H
          have c13b0 : (t236 == 0) = false := beq_eq_false_iff_ne.mpr c13
          have c13b1 : (t236 != 0) = true := bne_iff_ne.mpr c13
          have H' := Aside0.mk H
          clear H
          go_wp2
          go_meet
          case rel => exact ⟨_, (true), (by first | rfl | (simp; done) | (simp [*]; done)), H', ⟨by first | omega | exact Nat.le_refl _⟩, ⟨by repeat (first | (with_reducible first | exact HB.out | apply below_alloc | apply pw_below_drewN | apply below_drew1) | exact HB.out)⟩⟩
    case rest =>
      clear HC6
      try clear c1
      try clear c2
      try clear c2b0
      try clear c2b1
      try clear p2
      try clear c6
      try clear c7
      try clear c9
      try clear c9b0
      try clear c9b1
      try clear c9b2
      try clear c10
      try clear c10b0
      try clear c10b1
      try clear c13
      try clear c13b0
      try clear c13b1
      obtain ⟨kq, x39_5, rfl, HA, HJ5, HB⟩ := hcut
      cases kq with
      | zero => exact absurd HA.out (by simp [quittancelaw01_TallyOnce.j0])
      | succ kj5 =>
        have H := HA.out
        clear HA
        simp only [quittancelaw01_TallyOnce.j0] at H
        by_cases c14 : x39_5 = true
        · subst c14
          have H1 : (some false) = some r := by rw [if_pos rfl] at H; exact H
          clear H
          have H := H1
          clear H1
          obtain rfl := Option.some.inj H
          go_wp2
          go_ret
          exact ⟨by first | rfl | (simp [errW_none, errW_some] <;> rfl) | (simp [*, errW_none, errW_some] <;> rfl), by repeat (first | (with_reducible first | exact HB.out | apply below_alloc | apply pw_below_drewN | apply below_drew1) | exact HB.out)⟩
        · replace c14 := Bool.eq_false_iff.mpr c14
          subst c14
          have H1 : ((tally_TakeInt.f a0).bind fun bt240 => (if bt240.2.2 = true then ((tally_Int.f kj5 bt240.1).bind fun t243 => (if t243.size + bt240.2.1.size ≤ 9223372036854775807 then (if (t243 ++ bt240.2.1).toList = a0.toList then (quittancelaw01_TallyOnce.j1 kj5 a0 false) else (quittancelaw01_TallyOnce.j1 kj5 a0 true)) else (none))) else (if bt240.1 = 0 then (quittancelaw01_TallyOnce.j1 kj5 a0 (bt240.2.1.toList != ([] : List UInt8))) else (quittancelaw01_TallyOnce.j1 kj5 a0 true)))) = some r := by rw [if_neg (show ¬ (false = true) by decide)] at H; exact H
          clear H
          have H := H1
          clear H1
          replace H := Option.bind_eq_some_iff.mp H
          obtain ⟨⟨t240, t241, t242⟩, A150, H⟩ := H
          replace H : (if t242 = true then ((tally_Int.f kj5 t240).bind fun t243 => (if t243.size + t241.size ≤ 9223372036854775807 then (if (t243 ++ t241).toList = a0.toList then (quittancelaw01_TallyOnce.j1 kj5 a0 false) else (quittancelaw01_TallyOnce.j1 kj5 a0 true)) else (none))) else (if t240 = 0 then (quittancelaw01_TallyOnce.j1 kj5 a0 (t241.toList != ([] : List UInt8))) else (quittancelaw01_TallyOnce.j1 kj5 a0 true))) = some r := H
          have A15 := Aside0.mk A150
          clear A150
          have HC16 := Aside0.mk H
          clear H
          go_upto_region 7 with (first | ((with_reducible refine gate_callee (f := 18) rfl ?_); refine goesL_ (some 42) rfl rfl Try.func18 (by kernel_rfl) rfl #[.string a0] rfl (by (try simp only [List.map_toArray, List.map_cons, List.map_nil]); first | done | rfl | (simp only [List.length_drop, List.length_take]; rfl)) ?_; (with_reducible refine (tally_TakeInt.calls a0 t240 t241 t242 _ A15.out).mono ?_); rintro e w' ⟨rfl, ⟨nd, rfl⟩⟩; refine ⟨_, rfl, ?_⟩))
          (try simp only [Act.put, List.setIfInBounds_toArray, List.set_cons_zero, List.set_cons_succ])
          go_cut [66] (fun v66 wc => ∃ (kq : Nat) (x66_15 : Bool), v66 = .bool x66_15 ∧ Aside0 (quittancelaw01_TallyOnce.j1 kq a0 x66_15 = some r) ∧ Aside0 (kq ≤ kj5) ∧ Aside0 (Below w.heap.size w wc))
          case first =>
            have H := HC16.out
            clear HC16
            by_cases c17 : t242 = true
            · subst c17
              have H1 : ((tally_Int.f kj5 t240).bind fun t243 => (if t243.size + t241.size ≤ 9223372036854775807 then (if (t243 ++ t241).toList = a0.toList then (quittancelaw01_TallyOnce.j1 kj5 a0 false) else (quittancelaw01_TallyOnce.j1 kj5 a0 true)) else (none))) = some r := by rw [if_pos rfl] at H; exact H
              clear H
              have H := H1
              clear H1
              replace H := Option.bind_eq_some_iff.mp H
              obtain ⟨t243, A180, H⟩ := H
              replace H : (if t243.size + t241.size ≤ 9223372036854775807 then (if (t243 ++ t241).toList = a0.toList then (quittancelaw01_TallyOnce.j1 kj5 a0 false) else (quittancelaw01_TallyOnce.j1 kj5 a0 true)) else (none)) = some r := H
              have A18 := Aside0.mk A180
              clear A180
              by_cases c19 : t243.size + t241.size ≤ 9223372036854775807
              · rw [if_pos c19] at H
                have c19b0 := eq_true c19
                have c19b1 : decide (t243.size + t241.size ≤ 9223372036854775807) = true := decide_eq_true c19
                try have c19b2 : (9223372036854775807 < t243.size + t241.size) = False := eq_false (Nat.not_lt.2 c19)
                try (have c19b3 := Nat.not_lt.2 c19; simp only [ByteArray.size_append, ByteArray.size_extract, Nat.sub_zero, Nat.min_self] at c19b3; replace c19b3 := eq_false c19b3)
                try (have c19b4 := Nat.not_lt.2 c19; simp only [ByteArray.size_append, ByteArray.size_extract, Nat.sub_zero, Nat.min_self] at c19b4; rw [Nat.min_eq_left (by simp only [decide_eq_true_eq, eq_iff_iff, iff_true] at *; omega)] at c19b4; replace c19b4 := eq_false c19b4)
                by_cases c20 : (t243 ++ t241).toList = a0.toList
                · rw [if_pos c20] at H
                  have c20b0 : ((t243 ++ t241).toList == a0.toList) = true := beq_iff_eq.mpr c20
                  have c20b1 : ((t243 ++ t241).toList != a0.toList) = false := bne_eq_false_iff_eq.mpr c20
                  clear c20
                  (first | rw [c20b0] | (simp only [i64_w, i32_w]; rw [c20b0]) | skip)
                  have H' := Aside0.mk H
                  clear H
                  go_wp2_with (first | (go_at_call 27; (with_reducible refine (tally_Int.calls kj5 t240 t243 _ A18.out).mono ?_); rintro e w21 ⟨rfl, hb⟩; have n0_ := Aside0.mk (below_step (by repeat (first | (with_reducible first | exact HB.out | apply below_alloc | apply pw_below_drewN | apply below_drew1) | exact HB.out)) hb); clear HB; have HB := n0_; clear n0_; (try clear hb); (try clear hb2); (try clear hk); (try clear hi)))
                  go_meet
                  case rel => exact ⟨_, (false), (by first | rfl | (simp; done) | (simp [*]; done)), H', ⟨by have := HJ5.out; first | omega | exact Nat.le_refl _⟩, ⟨by repeat (first | (with_reducible first | exact HB.out | apply below_alloc | apply pw_below_drewN | apply below_drew1) | exact HB.out)⟩⟩
                · rw [if_neg c20] at H
                  have c20b0 : ((t243 ++ t241).toList == a0.toList) = false := beq_eq_false_iff_ne.mpr c20
                  have c20b1 : ((t243 ++ t241).toList != a0.toList) = true := bne_iff_ne.mpr c20
                  (first | rw [c20b0] | (simp only [i64_w, i32_w]; rw [c20b0]) | skip)
                  have H' := Aside0.mk H
                  clear H
                  go_wp2_with (first | (go_at_call 27; (with_reducible refine (tally_Int.calls kj5 t240 t243 _ A18.out).mono ?_); rintro e w22 ⟨rfl, hb⟩; have n0_ := Aside0.mk (below_step (by repeat (first | (with_reducible first | exact HB.out | apply below_alloc | apply pw_below_drewN | apply below_drew1) | exact HB.out)) hb); clear HB; have HB := n0_; clear n0_; (try clear hb); (try clear hb2); (try clear hk); (try clear hi)))
                  go_meet
                  case rel => exact ⟨_, (true), (by first | rfl | (simp; done) | (simp [*]; done)), H', ⟨by have := HJ5.out; first | omega | exact Nat.le_refl _⟩, ⟨by repeat (first | (with_reducible first | exact HB.out | apply below_alloc | apply pw_below_drewN | apply below_drew1) | exact HB.out)⟩⟩
              · rw [if_neg c19] at H
                exact absurd H (by simp)
            · replace c17 := Bool.eq_false_iff.mpr c17
              subst c17
              have H1 : (if t240 = 0 then (quittancelaw01_TallyOnce.j1 kj5 a0 (t241.toList != ([] : List UInt8))) else (quittancelaw01_TallyOnce.j1 kj5 a0 true)) = some r := by rw [if_neg (show ¬ (false = true) by decide)] at H; exact H
              clear H
              have H := H1
              clear H1
              by_cases c23 : t240 = 0
              · rw [if_pos c23] at H
                have c23b0 : (t240 == 0) = true := beq_iff_eq.mpr c23
                have c23b1 : (t240 != 0) = false := bne_eq_false_iff_eq.mpr c23
                clear c23
                have H' := Aside0.mk H
                clear H
                go_wp2
                go_meet
                case rel => exact ⟨_, ((t241.toList != ([] : List UInt8))), (by first | rfl | (simp; done) | (simp [*]; done) | (simp; exact isEmpty_ne _)), H', ⟨by have := HJ5.out; first | omega | exact Nat.le_refl _⟩, ⟨by repeat (first | (with_reducible first | exact HB.out | apply below_alloc | apply pw_below_drewN | apply below_drew1) | exact HB.out)⟩⟩
              · rw [if_neg c23] at H
                have c23b0 : (t240 == 0) = false := beq_eq_false_iff_ne.mpr c23
                have c23b1 : (t240 != 0) = true := bne_iff_ne.mpr c23
                have H' := Aside0.mk H
                clear H
                go_wp2
                go_meet
                case rel => exact ⟨_, (true), (by first | rfl | (simp; done) | (simp [*]; done)), H', ⟨by have := HJ5.out; first | omega | exact Nat.le_refl _⟩, ⟨by repeat (first | (with_reducible first | exact HB.out | apply below_alloc | apply pw_below_drewN | apply below_drew1) | exact HB.out)⟩⟩
          case rest =>
            clear HC16
            try clear c1
            try clear c2
            try clear c2b0
            try clear c2b1
            try clear p2
            try clear c6
            try clear c7
            try clear c9
            try clear c9b0
            try clear c9b1
            try clear c9b2
            try clear c10
            try clear c10b0
            try clear c10b1
            try clear c13
            try clear c13b0
            try clear c13b1
            try clear c14
            try clear c15
            try clear c16
            try clear c17
            try clear c18
            try clear c19
            try clear c19b0
            try clear c19b1
            try clear c19b2
            try clear c20
            try clear c20b0
            try clear c20b1
            try clear c23
            try clear c23b0
            try clear c23b1
            try clear p2
            obtain ⟨kq, x66_15, rfl, HA, HJ15, HB⟩ := hcut
            cases kq with
            | zero => exact absurd HA.out (by simp [quittancelaw01_TallyOnce.j1])
            | succ kj15 =>
              have H := HA.out
              clear HA
              simp only [quittancelaw01_TallyOnce.j1] at H
              by_cases c24 : x66_15 = true
              · subst c24
                have H1 : (some false) = some r := by rw [if_pos rfl] at H; exact H
                clear H
                have H := H1
                clear H1
                obtain rfl := Option.some.inj H
                go_wp2
                go_ret
                exact ⟨by first | rfl | (simp [errW_none, errW_some] <;> rfl) | (simp [*, errW_none, errW_some] <;> rfl), by repeat (first | (with_reducible first | exact HB.out | apply below_alloc | apply pw_below_drewN | apply below_drew1) | exact HB.out)⟩
              · replace c24 := Bool.eq_false_iff.mpr c24
                subst c24
                have H1 : ((tally_TakeText.f a0).bind fun bt244 => (if bt244.2.2 = true then ((tally_Text.f kj15 bt244.1).bind fun t247 => (if t247.size + bt244.2.1.size ≤ 9223372036854775807 then (if (t247 ++ bt244.2.1).toList = a0.toList then (quittancelaw01_TallyOnce.j2 kj15 a0 false) else (quittancelaw01_TallyOnce.j2 kj15 a0 true)) else (none))) else (if bt244.1.toList = ([] : List UInt8) then (quittancelaw01_TallyOnce.j2 kj15 a0 (bt244.2.1.toList != ([] : List UInt8))) else (quittancelaw01_TallyOnce.j2 kj15 a0 true)))) = some r := by rw [if_neg (show ¬ (false = true) by decide)] at H; exact H
                clear H
                have H := H1
                clear H1
                replace H := Option.bind_eq_some_iff.mp H
                obtain ⟨⟨t244, t245, t246⟩, A250, H⟩ := H
                replace H : (if t246 = true then ((tally_Text.f kj15 t244).bind fun t247 => (if t247.size + t245.size ≤ 9223372036854775807 then (if (t247 ++ t245).toList = a0.toList then (quittancelaw01_TallyOnce.j2 kj15 a0 false) else (quittancelaw01_TallyOnce.j2 kj15 a0 true)) else (none))) else (if t244.toList = ([] : List UInt8) then (quittancelaw01_TallyOnce.j2 kj15 a0 (t245.toList != ([] : List UInt8))) else (quittancelaw01_TallyOnce.j2 kj15 a0 true))) = some r := H
                have A25 := Aside0.mk A250
                clear A250
                have HC26 := Aside0.mk H
                clear H
                go_upto_region 10 with (first | ((with_reducible refine gate_callee (f := 20) rfl ?_); refine goesL_ (some 69) rfl rfl Try.func20 (by kernel_rfl) rfl #[.string a0] rfl (by (try simp only [List.map_toArray, List.map_cons, List.map_nil]); first | done | rfl | (simp only [List.length_drop, List.length_take]; rfl)) ?_; (with_reducible refine (tally_TakeText.calls a0 t244 t245 t246 _ A25.out).mono ?_); rintro e w' ⟨rfl, ⟨nd, rfl⟩⟩; refine ⟨_, rfl, ?_⟩))
                (try simp only [Act.put, List.setIfInBounds_toArray, List.set_cons_zero, List.set_cons_succ])
                go_cut [93] (fun v93 wc => ∃ (kq : Nat) (x93_25 : Bool), v93 = .bool x93_25 ∧ Aside0 (quittancelaw01_TallyOnce.j2 kq a0 x93_25 = some r) ∧ Aside0 (kq ≤ kj15) ∧ Aside0 (Below w.heap.size w wc))
                case first =>
                  have H := HC26.out
                  clear HC26
                  by_cases c27 : t246 = true
                  · subst c27
                    have H1 : ((tally_Text.f kj15 t244).bind fun t247 => (if t247.size + t245.size ≤ 9223372036854775807 then (if (t247 ++ t245).toList = a0.toList then (quittancelaw01_TallyOnce.j2 kj15 a0 false) else (quittancelaw01_TallyOnce.j2 kj15 a0 true)) else (none))) = some r := by rw [if_pos rfl] at H; exact H
                    clear H
                    have H := H1
                    clear H1
                    replace H := Option.bind_eq_some_iff.mp H
                    obtain ⟨t247, A280, H⟩ := H
                    replace H : (if t247.size + t245.size ≤ 9223372036854775807 then (if (t247 ++ t245).toList = a0.toList then (quittancelaw01_TallyOnce.j2 kj15 a0 false) else (quittancelaw01_TallyOnce.j2 kj15 a0 true)) else (none)) = some r := H
                    have A28 := Aside0.mk A280
                    clear A280
                    by_cases c29 : t247.size + t245.size ≤ 9223372036854775807
                    · rw [if_pos c29] at H
                      have c29b0 := eq_true c29
                      have c29b1 : decide (t247.size + t245.size ≤ 9223372036854775807) = true := decide_eq_true c29
                      try have c29b2 : (9223372036854775807 < t247.size + t245.size) = False := eq_false (Nat.not_lt.2 c29)
                      try (have c29b3 := Nat.not_lt.2 c29; simp only [ByteArray.size_append, ByteArray.size_extract, Nat.sub_zero, Nat.min_self] at c29b3; replace c29b3 := eq_false c29b3)
                      try (have c29b4 := Nat.not_lt.2 c29; simp only [ByteArray.size_append, ByteArray.size_extract, Nat.sub_zero, Nat.min_self] at c29b4; rw [Nat.min_eq_left (by simp only [decide_eq_true_eq, eq_iff_iff, iff_true] at *; omega)] at c29b4; replace c29b4 := eq_false c29b4)
                      by_cases c30 : (t247 ++ t245).toList = a0.toList
                      · rw [if_pos c30] at H
                        have c30b0 : ((t247 ++ t245).toList == a0.toList) = true := beq_iff_eq.mpr c30
                        have c30b1 : ((t247 ++ t245).toList != a0.toList) = false := bne_eq_false_iff_eq.mpr c30
                        clear c30
                        (first | rw [c30b0] | (simp only [i64_w, i32_w]; rw [c30b0]) | skip)
                        have H' := Aside0.mk H
                        clear H
                        go_wp2_with (first | (go_at_call 28; (with_reducible refine (tally_Text.calls kj15 t244 t247 _ A28.out).mono ?_); rintro e w31 ⟨rfl, hb⟩; have n0_ := Aside0.mk (below_step (by repeat (first | (with_reducible first | exact HB.out | apply below_alloc | apply pw_below_drewN | apply below_drew1) | exact HB.out)) hb); clear HB; have HB := n0_; clear n0_; (try clear hb); (try clear hb2); (try clear hk); (try clear hi)))
                        go_meet
                        case rel => exact ⟨_, (false), (by first | rfl | (simp; done) | (simp [*]; done)), H', ⟨by have := HJ5.out; have := HJ15.out; first | omega | exact Nat.le_refl _⟩, ⟨by repeat (first | (with_reducible first | exact HB.out | apply below_alloc | apply pw_below_drewN | apply below_drew1) | exact HB.out)⟩⟩
                      · rw [if_neg c30] at H
                        have c30b0 : ((t247 ++ t245).toList == a0.toList) = false := beq_eq_false_iff_ne.mpr c30
                        have c30b1 : ((t247 ++ t245).toList != a0.toList) = true := bne_iff_ne.mpr c30
                        (first | rw [c30b0] | (simp only [i64_w, i32_w]; rw [c30b0]) | skip)
                        have H' := Aside0.mk H
                        clear H
                        go_wp2_with (first | (go_at_call 28; (with_reducible refine (tally_Text.calls kj15 t244 t247 _ A28.out).mono ?_); rintro e w32 ⟨rfl, hb⟩; have n0_ := Aside0.mk (below_step (by repeat (first | (with_reducible first | exact HB.out | apply below_alloc | apply pw_below_drewN | apply below_drew1) | exact HB.out)) hb); clear HB; have HB := n0_; clear n0_; (try clear hb); (try clear hb2); (try clear hk); (try clear hi)))
                        go_meet
                        case rel => exact ⟨_, (true), (by first | rfl | (simp; done) | (simp [*]; done)), H', ⟨by have := HJ5.out; have := HJ15.out; first | omega | exact Nat.le_refl _⟩, ⟨by repeat (first | (with_reducible first | exact HB.out | apply below_alloc | apply pw_below_drewN | apply below_drew1) | exact HB.out)⟩⟩
                    · rw [if_neg c29] at H
                      exact absurd H (by simp)
                  · replace c27 := Bool.eq_false_iff.mpr c27
                    subst c27
                    have H1 : (if t244.toList = ([] : List UInt8) then (quittancelaw01_TallyOnce.j2 kj15 a0 (t245.toList != ([] : List UInt8))) else (quittancelaw01_TallyOnce.j2 kj15 a0 true)) = some r := by rw [if_neg (show ¬ (false = true) by decide)] at H; exact H
                    clear H
                    have H := H1
                    clear H1
                    by_cases c33 : t244.toList = ([] : List UInt8)
                    · rw [if_pos c33] at H
                      have c33b0 : (t244.toList == ([] : List UInt8)) = true := beq_iff_eq.mpr c33
                      have c33b1 : (t244.toList != ([] : List UInt8)) = false := bne_eq_false_iff_eq.mpr c33
                      clear c33
                      have H' := Aside0.mk H
                      clear H
                      go_wp2
                      go_meet
                      case rel => exact ⟨_, ((t245.toList != ([] : List UInt8))), (by first | rfl | (simp; done) | (simp [*]; done) | (simp; exact isEmpty_ne _)), H', ⟨by have := HJ5.out; have := HJ15.out; first | omega | exact Nat.le_refl _⟩, ⟨by repeat (first | (with_reducible first | exact HB.out | apply below_alloc | apply pw_below_drewN | apply below_drew1) | exact HB.out)⟩⟩
                    · rw [if_neg c33] at H
                      have c33b0 : (t244.toList == ([] : List UInt8)) = false := beq_eq_false_iff_ne.mpr c33
                      have c33b1 : (t244.toList != ([] : List UInt8)) = true := bne_iff_ne.mpr c33
                      have H' := Aside0.mk H
                      clear H
                      go_wp2
                      go_meet
                      case rel => exact ⟨_, (true), (by first | rfl | (simp; done) | (simp [*]; done)), H', ⟨by have := HJ5.out; have := HJ15.out; first | omega | exact Nat.le_refl _⟩, ⟨by repeat (first | (with_reducible first | exact HB.out | apply below_alloc | apply pw_below_drewN | apply below_drew1) | exact HB.out)⟩⟩
                case rest =>
                  clear HC26
                  try clear c1
                  try clear c2
                  try clear c2b0
                  try clear c2b1
                  try clear p2
                  try clear c3
                  try clear c6
                  try clear c7
                  try clear c9
                  try clear c9b0
                  try clear c9b1
                  try clear c9b2
                  try clear c10
                  try clear c10b0
                  try clear c10b1
                  try clear c13
                  try clear c13b0
                  try clear c13b1
                  try clear c14
                  try clear c15
                  try clear c16
                  try clear c17
                  try clear c18
                  try clear c19
                  try clear c19b0
                  try clear c19b1
                  try clear c19b2
                  try clear c20
                  try clear c20b0
                  try clear c20b1
                  try clear c23
                  try clear c23b0
                  try clear c23b1
                  try clear c24
                  try clear c27
                  try clear c29
                  try clear c29b0
                  try clear c29b1
                  try clear c29b2
                  try clear c30
                  try clear c30b0
                  try clear c30b1
                  try clear c33
                  try clear c33b0
                  try clear c33b1
                  try clear p2
                  obtain ⟨kq, x93_25, rfl, HA, HJ25, HB⟩ := hcut
                  cases kq with
                  | zero => exact absurd HA.out (by simp [quittancelaw01_TallyOnce.j2])
                  | succ kj25 =>
                    have H := HA.out
                    clear HA
                    simp only [quittancelaw01_TallyOnce.j2] at H
                    by_cases c34 : x93_25 = true
                    · subst c34
                      have H1 : (some false) = some r := by rw [if_pos rfl] at H; exact H
                      clear H
                      have H := H1
                      clear H1
                      obtain rfl := Option.some.inj H
                      go_wp2
                      go_ret
                      exact ⟨by first | rfl | (simp [errW_none, errW_some] <;> rfl) | (simp [*, errW_none, errW_some] <;> rfl), by repeat (first | (with_reducible first | exact HB.out | apply below_alloc | apply pw_below_drewN | apply below_drew1) | exact HB.out)⟩
                    · replace c34 := Bool.eq_false_iff.mpr c34
                      subst c34
                      have H1 : ((tally_TakeRow.f a0).bind fun bt248 => (if bt248.2.2 = true then ((tally_Row.f bt248.1).bind fun t253 => (if t253.size + bt248.2.1.size ≤ 9223372036854775807 then (if (t253 ++ bt248.2.1).toList = a0.toList then ((quittancelaw01_head.f kj25).bind fun t254 => (some t254)) else (some false)) else (none))) else (if (bt248.1.length : Int) = 0 then (if bt248.2.1.toList = ([] : List UInt8) then ((quittancelaw01_head.f kj25).bind fun t255 => (some t255)) else (some false)) else (some false)))) = some r := by rw [if_neg (show ¬ (false = true) by decide)] at H; exact H
                      clear H
                      have H := H1
                      clear H1
                      replace H := Option.bind_eq_some_iff.mp H
                      obtain ⟨⟨t248, t249, t250⟩, A350, H⟩ := H
                      replace H : (if t250 = true then ((tally_Row.f t248).bind fun t253 => (if t253.size + t249.size ≤ 9223372036854775807 then (if (t253 ++ t249).toList = a0.toList then ((quittancelaw01_head.f kj25).bind fun t254 => (some t254)) else (some false)) else (none))) else (if (t248.length : Int) = 0 then (if t249.toList = ([] : List UInt8) then ((quittancelaw01_head.f kj25).bind fun t255 => (some t255)) else (some false)) else (some false))) = some r := H
                      have A35 := Aside0.mk A350
                      clear A350
                      by_cases c36 : t250 = true
                      · subst c36
                        have H1 : ((tally_Row.f t248).bind fun t253 => (if t253.size + t249.size ≤ 9223372036854775807 then (if (t253 ++ t249).toList = a0.toList then ((quittancelaw01_head.f kj25).bind fun t254 => (some t254)) else (some false)) else (none))) = some r := by rw [if_pos rfl] at H; exact H
                        clear H
                        have H := H1
                        clear H1
                        replace H := Option.bind_eq_some_iff.mp H
                        obtain ⟨t253, A370, H⟩ := H
                        replace H : (if t253.size + t249.size ≤ 9223372036854775807 then (if (t253 ++ t249).toList = a0.toList then ((quittancelaw01_head.f kj25).bind fun t254 => (some t254)) else (some false)) else (none)) = some r := H
                        have A37 := Aside0.mk A370
                        clear A370
                        by_cases c38 : t253.size + t249.size ≤ 9223372036854775807
                        · rw [if_pos c38] at H
                          have c38b0 := eq_true c38
                          have c38b1 : decide (t253.size + t249.size ≤ 9223372036854775807) = true := decide_eq_true c38
                          try have c38b2 : (9223372036854775807 < t253.size + t249.size) = False := eq_false (Nat.not_lt.2 c38)
                          try (have c38b3 := Nat.not_lt.2 c38; simp only [ByteArray.size_append, ByteArray.size_extract, Nat.sub_zero, Nat.min_self] at c38b3; replace c38b3 := eq_false c38b3)
                          try (have c38b4 := Nat.not_lt.2 c38; simp only [ByteArray.size_append, ByteArray.size_extract, Nat.sub_zero, Nat.min_self] at c38b4; rw [Nat.min_eq_left (by simp only [decide_eq_true_eq, eq_iff_iff, iff_true] at *; omega)] at c38b4; replace c38b4 := eq_false c38b4)
                          by_cases c39 : (t253 ++ t249).toList = a0.toList
                          · rw [if_pos c39] at H
                            have c39b0 : ((t253 ++ t249).toList == a0.toList) = true := beq_iff_eq.mpr c39
                            have c39b1 : ((t253 ++ t249).toList != a0.toList) = false := bne_eq_false_iff_eq.mpr c39
                            clear c39
                            replace H := Option.bind_eq_some_iff.mp H
                            obtain ⟨t254, A400, H⟩ := H
                            replace H : (some t254) = some r := H
                            have A40 := Aside0.mk A400
                            clear A400
                            obtain rfl := Option.some.inj H
                            go_wp2_with (first | ((with_reducible refine gate_callee (f := 22) rfl ?_); refine goesL_ (some 96) rfl rfl Try.func22 (by kernel_rfl) rfl #[.string a0] rfl (by (try simp only [List.map_toArray, List.map_cons, List.map_nil]); first | done | rfl | (simp only [List.length_drop, List.length_take]; rfl)) ?_; (with_reducible refine (tally_TakeRow.calls a0 t248 t249 true _ A35.out).mono ?_); rintro e w41 ⟨v251, rfl, ho0, hb⟩; refine ⟨_, rfl, ?_⟩; have n0_ := Aside0.mk (Kc.R_lower ho0 (below_size (by repeat (first | (with_reducible first | exact HB.out | apply below_alloc | apply pw_below_drewN | apply below_drew1) | exact HB.out)))); have n1_ := Aside0.mk (below_step (by repeat (first | (with_reducible first | exact HB.out | apply below_alloc | apply pw_below_drewN | apply below_drew1) | exact HB.out)) hb); clear HB; have HO252 := n0_; have HB := n1_; clear n0_ n1_; (try clear hb); (try clear hb2); (try clear hk); (try clear hi); (try clear ho0); obtain ⟨Ao42, co42, eo42⟩ := Kc.R_slice HO252.out; subst eo42) | (go_at_call 29; (with_reducible refine (tally_Row.calls _ _ t248 t253 _ ?side1 ?side2 A37.out).mono ?_); (case side1 => repeat (first | exact (Kc.R_reads' HO252.out).2.2 | (with_reducible refine Kd.C_alloc ?_ _) | (with_reducible refine Kd.C_drewN ?_ _) | (with_reducible refine Kd.C_drew ?_))); (case side2 => exact (Kc.R_reads' HO252.out).2.1); rintro e w43 ⟨rfl, hb⟩; have n0_ := Aside0.mk (Kc.R_below (by (with_reducible repeat (first | apply Kc.R_alloc | apply Kc.R_drewN | apply Kc.R_drew)); exact HO252.out) hb); have n1_ := Aside0.mk (below_step (by repeat (first | (with_reducible first | exact HB.out | apply below_alloc | apply pw_below_drewN | apply below_drew1) | exact HB.out)) hb); clear HO252; clear HB; have HO252 := n0_; have HB := n1_; clear n0_ n1_; (try clear hb); (try clear hb2); (try clear hk); (try clear hi)) | (go_at_call 15; (with_reducible refine (quittancelaw01_head.calls kj25  t254 _ A40.out).mono ?_); rintro e w44 ⟨rfl, hb⟩; have n0_ := Aside0.mk (Kc.R_below (by (with_reducible repeat (first | apply Kc.R_alloc | apply Kc.R_drewN | apply Kc.R_drew)); exact HO252.out) hb); have n1_ := Aside0.mk (below_step (by repeat (first | (with_reducible first | exact HB.out | apply below_alloc | apply pw_below_drewN | apply below_drew1) | exact HB.out)) hb); clear HO252; clear HB; have HO252 := n0_; have HB := n1_; clear n0_ n1_; (try clear hb); (try clear hb2); (try clear hk); (try clear hi)))
                            go_ret
                            exact ⟨by first | rfl | (simp [errW_none, errW_some] <;> rfl) | (simp [*, errW_none, errW_some] <;> rfl), by repeat (first | (with_reducible first | exact HB.out | apply below_alloc | apply pw_below_drewN | apply below_drew1) | exact HB.out)⟩
                          · rw [if_neg c39] at H
                            have c39b0 : ((t253 ++ t249).toList == a0.toList) = false := beq_eq_false_iff_ne.mpr c39
                            have c39b1 : ((t253 ++ t249).toList != a0.toList) = true := bne_iff_ne.mpr c39
                            obtain rfl := Option.some.inj H
                            go_wp2_with (first | ((with_reducible refine gate_callee (f := 22) rfl ?_); refine goesL_ (some 96) rfl rfl Try.func22 (by kernel_rfl) rfl #[.string a0] rfl (by (try simp only [List.map_toArray, List.map_cons, List.map_nil]); first | done | rfl | (simp only [List.length_drop, List.length_take]; rfl)) ?_; (with_reducible refine (tally_TakeRow.calls a0 t248 t249 true _ A35.out).mono ?_); rintro e w45 ⟨v251, rfl, ho0, hb⟩; refine ⟨_, rfl, ?_⟩; have n0_ := Aside0.mk (Kc.R_lower ho0 (below_size (by repeat (first | (with_reducible first | exact HB.out | apply below_alloc | apply pw_below_drewN | apply below_drew1) | exact HB.out)))); have n1_ := Aside0.mk (below_step (by repeat (first | (with_reducible first | exact HB.out | apply below_alloc | apply pw_below_drewN | apply below_drew1) | exact HB.out)) hb); clear HB; have HO252 := n0_; have HB := n1_; clear n0_ n1_; (try clear hb); (try clear hb2); (try clear hk); (try clear hi); (try clear ho0); obtain ⟨Ao46, co46, eo46⟩ := Kc.R_slice HO252.out; subst eo46) | (go_at_call 29; (with_reducible refine (tally_Row.calls _ _ t248 t253 _ ?side1 ?side2 A37.out).mono ?_); (case side1 => repeat (first | exact (Kc.R_reads' HO252.out).2.2 | (with_reducible refine Kd.C_alloc ?_ _) | (with_reducible refine Kd.C_drewN ?_ _) | (with_reducible refine Kd.C_drew ?_))); (case side2 => exact (Kc.R_reads' HO252.out).2.1); rintro e w47 ⟨rfl, hb⟩; have n0_ := Aside0.mk (Kc.R_below (by (with_reducible repeat (first | apply Kc.R_alloc | apply Kc.R_drewN | apply Kc.R_drew)); exact HO252.out) hb); have n1_ := Aside0.mk (below_step (by repeat (first | (with_reducible first | exact HB.out | apply below_alloc | apply pw_below_drewN | apply below_drew1) | exact HB.out)) hb); clear HO252; clear HB; have HO252 := n0_; have HB := n1_; clear n0_ n1_; (try clear hb); (try clear hb2); (try clear hk); (try clear hi)))
                            go_ret
                            exact ⟨by first | rfl | (simp [errW_none, errW_some] <;> rfl) | (simp [*, errW_none, errW_some] <;> rfl), by repeat (first | (with_reducible first | exact HB.out | apply below_alloc | apply pw_below_drewN | apply below_drew1) | exact HB.out)⟩
                        · rw [if_neg c38] at H
                          exact absurd H (by simp)
                      · replace c36 := Bool.eq_false_iff.mpr c36
                        subst c36
                        have H1 : (if (t248.length : Int) = 0 then (if t249.toList = ([] : List UInt8) then ((quittancelaw01_head.f kj25).bind fun t255 => (some t255)) else (some false)) else (some false)) = some r := by rw [if_neg (show ¬ (false = true) by decide)] at H; exact H
                        clear H
                        have H := H1
                        clear H1
                        by_cases c48 : (t248.length : Int) = 0
                        · rw [if_pos c48] at H
                          have c48b0 : ((t248.length : Int) == 0) = true := beq_iff_eq.mpr c48
                          have c48b1 : ((t248.length : Int) != 0) = false := bne_eq_false_iff_eq.mpr c48
                          clear c48
                          by_cases c49 : t249.toList = ([] : List UInt8)
                          · rw [if_pos c49] at H
                            have c49b0 : (t249.toList == ([] : List UInt8)) = true := beq_iff_eq.mpr c49
                            have c49b1 : (t249.toList != ([] : List UInt8)) = false := bne_eq_false_iff_eq.mpr c49
                            clear c49
                            replace H := Option.bind_eq_some_iff.mp H
                            obtain ⟨t255, A500, H⟩ := H
                            replace H : (some t255) = some r := H
                            have A50 := Aside0.mk A500
                            clear A500
                            obtain rfl := Option.some.inj H
                            go_wp2_with (first | ((with_reducible refine gate_callee (f := 22) rfl ?_); refine goesL_ (some 96) rfl rfl Try.func22 (by kernel_rfl) rfl #[.string a0] rfl (by (try simp only [List.map_toArray, List.map_cons, List.map_nil]); first | done | rfl | (simp only [List.length_drop, List.length_take]; rfl)) ?_; (with_reducible refine (tally_TakeRow.calls a0 t248 t249 false _ A35.out).mono ?_); rintro e w51 ⟨v251, rfl, ho0, hb⟩; refine ⟨_, rfl, ?_⟩; have n0_ := Aside0.mk (Kc.R_lower ho0 (below_size (by repeat (first | (with_reducible first | exact HB.out | apply below_alloc | apply pw_below_drewN | apply below_drew1) | exact HB.out)))); have n1_ := Aside0.mk (below_step (by repeat (first | (with_reducible first | exact HB.out | apply below_alloc | apply pw_below_drewN | apply below_drew1) | exact HB.out)) hb); clear HB; have HO252 := n0_; have HB := n1_; clear n0_ n1_; (try clear hb); (try clear hb2); (try clear hk); (try clear hi); (try clear ho0); obtain ⟨Ao52, co52, eo52⟩ := Kc.R_slice HO252.out; subst eo52) | (go_at_call 15; (with_reducible refine (quittancelaw01_head.calls kj25  t255 _ A50.out).mono ?_); rintro e w53 ⟨rfl, hb⟩; have n0_ := Aside0.mk (Kc.R_below (by (with_reducible repeat (first | apply Kc.R_alloc | apply Kc.R_drewN | apply Kc.R_drew)); exact HO252.out) hb); have n1_ := Aside0.mk (below_step (by repeat (first | (with_reducible first | exact HB.out | apply below_alloc | apply pw_below_drewN | apply below_drew1) | exact HB.out)) hb); clear HO252; clear HB; have HO252 := n0_; have HB := n1_; clear n0_ n1_; (try clear hb); (try clear hb2); (try clear hk); (try clear hi)))
                            go_ret
                            exact ⟨by first | rfl | (simp [errW_none, errW_some] <;> rfl) | (simp [*, errW_none, errW_some] <;> rfl), by repeat (first | (with_reducible first | exact HB.out | apply below_alloc | apply pw_below_drewN | apply below_drew1) | exact HB.out)⟩
                          · rw [if_neg c49] at H
                            have c49b0 : (t249.toList == ([] : List UInt8)) = false := beq_eq_false_iff_ne.mpr c49
                            have c49b1 : (t249.toList != ([] : List UInt8)) = true := bne_iff_ne.mpr c49
                            obtain rfl := Option.some.inj H
                            go_wp2_with (first | ((with_reducible refine gate_callee (f := 22) rfl ?_); refine goesL_ (some 96) rfl rfl Try.func22 (by kernel_rfl) rfl #[.string a0] rfl (by (try simp only [List.map_toArray, List.map_cons, List.map_nil]); first | done | rfl | (simp only [List.length_drop, List.length_take]; rfl)) ?_; (with_reducible refine (tally_TakeRow.calls a0 t248 t249 false _ A35.out).mono ?_); rintro e w54 ⟨v251, rfl, ho0, hb⟩; refine ⟨_, rfl, ?_⟩; have n0_ := Aside0.mk (Kc.R_lower ho0 (below_size (by repeat (first | (with_reducible first | exact HB.out | apply below_alloc | apply pw_below_drewN | apply below_drew1) | exact HB.out)))); have n1_ := Aside0.mk (below_step (by repeat (first | (with_reducible first | exact HB.out | apply below_alloc | apply pw_below_drewN | apply below_drew1) | exact HB.out)) hb); clear HB; have HO252 := n0_; have HB := n1_; clear n0_ n1_; (try clear hb); (try clear hb2); (try clear hk); (try clear hi); (try clear ho0); obtain ⟨Ao55, co55, eo55⟩ := Kc.R_slice HO252.out; subst eo55))
                            go_ret
                            exact ⟨by first | rfl | (simp [errW_none, errW_some] <;> rfl) | (simp [*, errW_none, errW_some] <;> rfl), by repeat (first | (with_reducible first | exact HB.out | apply below_alloc | apply pw_below_drewN | apply below_drew1) | exact HB.out)⟩
                        · rw [if_neg c48] at H
                          have c48b0 : ((t248.length : Int) == 0) = false := beq_eq_false_iff_ne.mpr c48
                          have c48b1 : ((t248.length : Int) != 0) = true := bne_iff_ne.mpr c48
                          have c48b2 : ¬ (t248 = []) := fun h_ => c48 (by rw [h_]; rfl)
                          obtain rfl := Option.some.inj H
                          go_wp2_with (first | ((with_reducible refine gate_callee (f := 22) rfl ?_); refine goesL_ (some 96) rfl rfl Try.func22 (by kernel_rfl) rfl #[.string a0] rfl (by (try simp only [List.map_toArray, List.map_cons, List.map_nil]); first | done | rfl | (simp only [List.length_drop, List.length_take]; rfl)) ?_; (with_reducible refine (tally_TakeRow.calls a0 t248 t249 false _ A35.out).mono ?_); rintro e w56 ⟨v251, rfl, ho0, hb⟩; refine ⟨_, rfl, ?_⟩; have n0_ := Aside0.mk (Kc.R_lower ho0 (below_size (by repeat (first | (with_reducible first | exact HB.out | apply below_alloc | apply pw_below_drewN | apply below_drew1) | exact HB.out)))); have n1_ := Aside0.mk (below_step (by repeat (first | (with_reducible first | exact HB.out | apply below_alloc | apply pw_below_drewN | apply below_drew1) | exact HB.out)) hb); clear HB; have HO252 := n0_; have HB := n1_; clear n0_ n1_; (try clear hb); (try clear hb2); (try clear hk); (try clear hi); (try clear ho0); obtain ⟨Ao57, co57, eo57⟩ := Kc.R_slice HO252.out; subst eo57))
                          go_ret
                          exact ⟨by first | rfl | (simp [errW_none, errW_some] <;> rfl) | (simp [*, errW_none, errW_some] <;> rfl), by repeat (first | (with_reducible first | exact HB.out | apply below_alloc | apply pw_below_drewN | apply below_drew1) | exact HB.out)⟩

/-- THE ONE PURE STATEMENT of quittancelaw01_TallyOnce: yours. -/
def quittancelaw01_TallyOnce.Pure : Prop := ∀ (a0 : ByteArray), a0.size ≤ 140737488351232 → ∃ k, quittancelaw01_TallyOnce.f k a0 = some true
theorem quittancelaw01_TallyOnce.walk (P : quittancelaw01_TallyOnce.Pure) (a0 : ByteArray) (w : World) (w0 : a0.size ≤ 140737488351232) :
    Calls Try.prog 6 #[.string a0] w fun e w' => e = .returned (.bool true) ∧ Below w.heap.size w w' := by
  obtain ⟨k, h⟩ := P a0 w0
  refine (quittancelaw01_TallyOnce.calls k a0 true w h).mono ?_
  rintro e w' ⟨rfl, hd⟩
  exact ⟨rfl, hd⟩

end Go.Proofs.Ytfjjngipjabfpaa.Q
