-- MADE BY xrun.sh, a turned copy of the kit's print: not typed by hand
import Derived.Test.YtfjjngipjabfpaaQ0
import Derived.Test.YtfjjngipjabfpaaQ1
import Derived.Test.YtfjjngipjabfpaaQ2
import Derived.Test.YtfjjngipjabfpaaQ3
import Derived.Test.YtfjjngipjabfpaaH1
import Derived.Test.YtfjjngipjabfpaaH4
namespace Go.Proofs.Ytfjjngipjabfpaa.Q
open Go.RowKit Go.Proofs.YtfjjngipjabfpaaW.PrintWords Go.Proofs.YtfjjngipjabfpaaW.PrintLast Go.Proofs.YtfjjngipjabfpaaW.PrintMore
attribute [local go_sem] max2_int min2_int max_two min_two max_three min_three max_four min_four   -- for this text's walks alone
set_option linter.unusedVariables false
set_option linter.unusedSimpArgs false

/-! ### quittancelaw01_TallyTakes: function 4 -/
mutual
def quittancelaw01_TallyTakes.j0 : Nat → ByteArray → Bool → Option (Bool)
  | 0, _, _ => none
  | k + 1, x0, x43 => if x43 = true then (some false) else ((tally_TakeInt.f x0).bind fun bt186 => ((quittanceref01_TakeInt.f k x0).bind fun bt189 => (if bt186.1 = bt189.1 then (if bt186.2.1.toList = bt189.2.1.toList then (quittancelaw01_TallyTakes.j1 k x0 (bt186.2.2 != bt189.2.2)) else (quittancelaw01_TallyTakes.j1 k x0 true)) else (quittancelaw01_TallyTakes.j1 k x0 true))))
def quittancelaw01_TallyTakes.j1 : Nat → ByteArray → Bool → Option (Bool)
  | 0, _, _ => none
  | k + 1, x0, x68 => if x68 = true then (some false) else ((tally_TakeText.f x0).bind fun bt192 => ((quittanceref01_TakeText.f k x0).bind fun bt195 => (if bt192.1.toList = bt195.1.toList then (if bt192.2.1.toList = bt195.2.1.toList then (quittancelaw01_TallyTakes.j2 k x0 (bt192.2.2 != bt195.2.2)) else (quittancelaw01_TallyTakes.j2 k x0 true)) else (quittancelaw01_TallyTakes.j2 k x0 true))))
def quittancelaw01_TallyTakes.j2 : Nat → ByteArray → Bool → Option (Bool)
  | 0, _, _ => none
  | k + 1, x0, x93 => if x93 = true then (some false) else ((tally_TakeRow.f x0).bind fun bt198 => ((quittanceref01_TakeRow.f k x0).bind fun bt203 => ((quittanceref01_Same.f k bt198.1 bt203.1).bind fun t208 => (if t208 = true then (if bt198.2.1.toList = bt203.2.1.toList then (if (bt198.2.2 == bt203.2.2) = true then ((quittancelaw01_head.f k).bind fun t209 => (some t209)) else (some false)) else (some false)) else (some false)))))
end
def quittancelaw01_TallyTakes.f (k : Nat) (a0 : ByteArray) : Option (Bool) := if (a0.size : Int) > 3000 then ((quittancelaw01_head.f k).bind fun t179 => (some t179)) else ((tally_TakeNum.f a0).bind fun bt180 => ((quittanceref01_TakeNum.f k a0).bind fun bt183 => (if bt180.1 = bt183.1 then (if bt180.2.1.toList = bt183.2.1.toList then (quittancelaw01_TallyTakes.j0 k a0 (bt180.2.2 != bt183.2.2)) else (quittancelaw01_TallyTakes.j0 k a0 true)) else (quittancelaw01_TallyTakes.j0 k a0 true))))
theorem quittancelaw01_TallyTakes.mono_l : ∀ k, (∀ y0 y1, LeO (quittancelaw01_TallyTakes.j0 k y0 y1) (quittancelaw01_TallyTakes.j0 (k + 1) y0 y1)) ∧ (∀ y0 y1, LeO (quittancelaw01_TallyTakes.j1 k y0 y1) (quittancelaw01_TallyTakes.j1 (k + 1) y0 y1)) ∧ (∀ y0 y1, LeO (quittancelaw01_TallyTakes.j2 k y0 y1) (quittancelaw01_TallyTakes.j2 (k + 1) y0 y1))
  | 0 => ⟨fun _ _ r h => by simp [quittancelaw01_TallyTakes.j0] at h, fun _ _ r h => by simp [quittancelaw01_TallyTakes.j1] at h, fun _ _ r h => by simp [quittancelaw01_TallyTakes.j2] at h⟩
  | k + 1 => by
    obtain ⟨ih0, ih1, ih2⟩ := quittancelaw01_TallyTakes.mono_l k
    refine ⟨?_, ?_, ?_⟩
    · intro y0 y1
      unfold quittancelaw01_TallyTakes.j0
      repeat' first
      | (with_reducible exact ih0 _ _)
      | (with_reducible exact ih1 _ _)
      | (with_reducible exact ih2 _ _)
      | (with_reducible exact quittancelaw01_head.mono _)
      | (with_reducible exact quittanceref01_Same.mono _ _ _)
      | (with_reducible exact quittanceref01_TakeInt.mono _ _)
      | (with_reducible exact quittanceref01_TakeNum.mono _ _)
      | (with_reducible exact quittanceref01_TakeRow.mono _ _)
      | (with_reducible exact quittanceref01_TakeText.mono _ _)
      | (with_reducible exact LeO.refl _)
      | (with_reducible exact LeO.none _)
      | (with_reducible refine LeO.ite ?_ ?_)
      | (with_reducible refine LeO.bind ?_ (fun _ => ?_))
      | exact ih0 _ _
      | exact ih1 _ _
      | exact ih2 _ _
      | exact quittancelaw01_head.mono _
      | exact quittanceref01_Same.mono _ _ _
      | exact quittanceref01_TakeInt.mono _ _
      | exact quittanceref01_TakeNum.mono _ _
      | exact quittanceref01_TakeRow.mono _ _
      | exact quittanceref01_TakeText.mono _ _
      | exact LeO.none _
      | refine LeO.ite ?_ ?_
      | refine LeO.bind ?_ (fun _ => ?_)
    · intro y0 y1
      unfold quittancelaw01_TallyTakes.j1
      repeat' first
      | (with_reducible exact ih0 _ _)
      | (with_reducible exact ih1 _ _)
      | (with_reducible exact ih2 _ _)
      | (with_reducible exact quittancelaw01_head.mono _)
      | (with_reducible exact quittanceref01_Same.mono _ _ _)
      | (with_reducible exact quittanceref01_TakeInt.mono _ _)
      | (with_reducible exact quittanceref01_TakeNum.mono _ _)
      | (with_reducible exact quittanceref01_TakeRow.mono _ _)
      | (with_reducible exact quittanceref01_TakeText.mono _ _)
      | (with_reducible exact LeO.refl _)
      | (with_reducible exact LeO.none _)
      | (with_reducible refine LeO.ite ?_ ?_)
      | (with_reducible refine LeO.bind ?_ (fun _ => ?_))
      | exact ih0 _ _
      | exact ih1 _ _
      | exact ih2 _ _
      | exact quittancelaw01_head.mono _
      | exact quittanceref01_Same.mono _ _ _
      | exact quittanceref01_TakeInt.mono _ _
      | exact quittanceref01_TakeNum.mono _ _
      | exact quittanceref01_TakeRow.mono _ _
      | exact quittanceref01_TakeText.mono _ _
      | exact LeO.none _
      | refine LeO.ite ?_ ?_
      | refine LeO.bind ?_ (fun _ => ?_)
    · intro y0 y1
      unfold quittancelaw01_TallyTakes.j2
      repeat' first
      | (with_reducible exact ih0 _ _)
      | (with_reducible exact ih1 _ _)
      | (with_reducible exact ih2 _ _)
      | (with_reducible exact quittancelaw01_head.mono _)
      | (with_reducible exact quittanceref01_Same.mono _ _ _)
      | (with_reducible exact quittanceref01_TakeInt.mono _ _)
      | (with_reducible exact quittanceref01_TakeNum.mono _ _)
      | (with_reducible exact quittanceref01_TakeRow.mono _ _)
      | (with_reducible exact quittanceref01_TakeText.mono _ _)
      | (with_reducible exact LeO.refl _)
      | (with_reducible exact LeO.none _)
      | (with_reducible refine LeO.ite ?_ ?_)
      | (with_reducible refine LeO.bind ?_ (fun _ => ?_))
      | exact ih0 _ _
      | exact ih1 _ _
      | exact ih2 _ _
      | exact quittancelaw01_head.mono _
      | exact quittanceref01_Same.mono _ _ _
      | exact quittanceref01_TakeInt.mono _ _
      | exact quittanceref01_TakeNum.mono _ _
      | exact quittanceref01_TakeRow.mono _ _
      | exact quittanceref01_TakeText.mono _ _
      | exact LeO.none _
      | refine LeO.ite ?_ ?_
      | refine LeO.bind ?_ (fun _ => ?_)
theorem quittancelaw01_TallyTakes.mono : ∀ a0 k, LeO (quittancelaw01_TallyTakes.f k a0) (quittancelaw01_TallyTakes.f (k + 1) a0) := by
  intro a0 k
  obtain ⟨ih0, ih1, ih2⟩ := quittancelaw01_TallyTakes.mono_l k
  unfold quittancelaw01_TallyTakes.f
  repeat' first
      | (with_reducible exact ih0 _ _)
      | (with_reducible exact ih1 _ _)
      | (with_reducible exact ih2 _ _)
      | (with_reducible exact quittancelaw01_head.mono _)
      | (with_reducible exact quittanceref01_Same.mono _ _ _)
      | (with_reducible exact quittanceref01_TakeInt.mono _ _)
      | (with_reducible exact quittanceref01_TakeNum.mono _ _)
      | (with_reducible exact quittanceref01_TakeRow.mono _ _)
      | (with_reducible exact quittanceref01_TakeText.mono _ _)
      | (with_reducible exact LeO.refl _)
      | (with_reducible exact LeO.none _)
      | (with_reducible refine LeO.ite ?_ ?_)
      | (with_reducible refine LeO.bind ?_ (fun _ => ?_))
      | exact ih0 _ _
      | exact ih1 _ _
      | exact ih2 _ _
      | exact quittancelaw01_head.mono _
      | exact quittanceref01_Same.mono _ _ _
      | exact quittanceref01_TakeInt.mono _ _
      | exact quittanceref01_TakeNum.mono _ _
      | exact quittanceref01_TakeRow.mono _ _
      | exact quittanceref01_TakeText.mono _ _
      | exact LeO.none _
      | refine LeO.ite ?_ ?_
      | refine LeO.bind ?_ (fun _ => ?_)
set_option maxHeartbeats 8000000 in
set_option maxRecDepth 100000 in
theorem quittancelaw01_TallyTakes.calls (k : Nat) (a0 : ByteArray) (r : Bool) (w : World) (h : quittancelaw01_TallyTakes.f k a0 = some r) :
    Calls Try.prog 4 #[.string a0] w fun e w' => e = .returned (.bool r) ∧ Below w.heap.size w w' := by
  have HB := Aside0.mk (Below.refl w.heap.size w)
  have H : (if (a0.size : Int) > 3000 then ((quittancelaw01_head.f k).bind fun t179 => (some t179)) else ((tally_TakeNum.f a0).bind fun bt180 => ((quittanceref01_TakeNum.f k a0).bind fun bt183 => (if bt180.1 = bt183.1 then (if bt180.2.1.toList = bt183.2.1.toList then (quittancelaw01_TallyTakes.j0 k a0 (bt180.2.2 != bt183.2.2)) else (quittancelaw01_TallyTakes.j0 k a0 true)) else (quittancelaw01_TallyTakes.j0 k a0 true))))) = some r := h
  clear h
  by_cases c2 : (a0.size : Int) > 3000
  · rw [if_pos c2] at H
    have c2b0 : decide (3000 < (a0.size : Int)) = true := decide_eq_true c2
    have c2b1 : decide (3000 < a0.size) = true := decide_eq_true (by omega)
    clear c2
    replace H := Option.bind_eq_some_iff.mp H
    obtain ⟨t179, A30, H⟩ := H
    replace H : (some t179) = some r := H
    have A3 := Aside0.mk A30
    clear A30
    obtain rfl := Option.some.inj H
    go_enter Try.func4, Try.ntmps4
    go_wp2_with (first | ((with_reducible refine gate_callee (f := 15) rfl ?_); refine goesL_ (some 18) rfl rfl Try.func15 (by kernel_rfl) rfl #[] rfl (by (try simp only [List.map_toArray, List.map_cons, List.map_nil]); first | done | rfl | (simp only [List.length_drop, List.length_take]; rfl)) ?_; (with_reducible refine (quittancelaw01_head.calls k  t179 _ A3.out).mono ?_); rintro e w4 ⟨rfl, hb⟩; refine ⟨_, rfl, ?_⟩; have n0_ := Aside0.mk (below_step (by repeat (first | (with_reducible first | exact HB.out | apply below_alloc | apply pw_below_drewN | apply below_drew1) | exact HB.out)) hb); clear HB; have HB := n0_; clear n0_; (try clear hb); (try clear hb2); (try clear hk); (try clear hi)))
    go_ret
    exact ⟨by first | rfl | (simp [errW_none, errW_some] <;> rfl) | (simp [*, errW_none, errW_some] <;> rfl), by repeat (first | (with_reducible first | exact HB.out | apply below_alloc | apply pw_below_drewN | apply below_drew1) | exact HB.out)⟩
  · rw [if_neg c2] at H
    have c2b0 : decide (3000 < (a0.size : Int)) = false := decide_eq_false c2
    have c2b1 : decide (3000 < a0.size) = false := decide_eq_false (by omega)
    clear c2
    replace H := Option.bind_eq_some_iff.mp H
    obtain ⟨⟨t180, t181, t182⟩, A50, H⟩ := H
    replace H : ((quittanceref01_TakeNum.f k a0).bind fun bt183 => (if t180 = bt183.1 then (if t181.toList = bt183.2.1.toList then (quittancelaw01_TallyTakes.j0 k a0 (t182 != bt183.2.2)) else (quittancelaw01_TallyTakes.j0 k a0 true)) else (quittancelaw01_TallyTakes.j0 k a0 true))) = some r := H
    have A5 := Aside0.mk A50
    clear A50
    replace H := Option.bind_eq_some_iff.mp H
    obtain ⟨⟨t183, t184, t185⟩, A60, H⟩ := H
    replace H : (if t180 = t183 then (if t181.toList = t184.toList then (quittancelaw01_TallyTakes.j0 k a0 (t182 != t185)) else (quittancelaw01_TallyTakes.j0 k a0 true)) else (quittancelaw01_TallyTakes.j0 k a0 true)) = some r := H
    have A6 := Aside0.mk A60
    clear A60
    have HC7 := Aside0.mk H
    clear H
    go_enter Try.func4, Try.ntmps4
    go_upto_region 5 with (first | ((with_reducible refine gate_callee (f := 16) rfl ?_); refine goesL_ (some 21) rfl rfl Try.func16 (by kernel_rfl) rfl #[.string a0] rfl (by (try simp only [List.map_toArray, List.map_cons, List.map_nil]); first | done | rfl | (simp only [List.length_drop, List.length_take]; rfl)) ?_; (with_reducible refine (tally_TakeNum.calls a0 t180 t181 t182 _ A5.out).mono ?_); rintro e w' ⟨rfl, ⟨nd, rfl⟩⟩; refine ⟨_, rfl, ?_⟩) | ((with_reducible refine gate_callee (f := 17) rfl ?_); refine goesL_ (some 27) rfl rfl Try.func17 (by kernel_rfl) rfl #[.string a0] rfl (by (try simp only [List.map_toArray, List.map_cons, List.map_nil]); first | done | rfl | (simp only [List.length_drop, List.length_take]; rfl)) ?_; (with_reducible refine (quittanceref01_TakeNum.calls k a0 t183 t184 t185 _ A6.out).mono ?_); rintro e w8 ⟨rfl, hb⟩; refine ⟨_, rfl, ?_⟩; have n0_ := Aside0.mk (below_step (by repeat (first | (with_reducible first | exact HB.out | apply below_alloc | apply pw_below_drewN | apply below_drew1) | exact HB.out)) hb); clear HB; have HB := n0_; clear n0_; (try clear hb); (try clear hb2); (try clear hk); (try clear hi)))
    (try simp only [Act.put, List.setIfInBounds_toArray, List.set_cons_zero, List.set_cons_succ])
    go_cut [43] (fun v43 wc => ∃ (kq : Nat) (x43_6 : Bool), v43 = .bool x43_6 ∧ Aside0 (quittancelaw01_TallyTakes.j0 kq a0 x43_6 = some r) ∧ Aside0 (kq ≤ k) ∧ Aside0 (Below w.heap.size w wc))
    case first =>
      have H := HC7.out
      clear HC7
      by_cases c9 : t180 = t183
      · rw [if_pos c9] at H
        have c9b0 : (t180 == t183) = true := beq_iff_eq.mpr c9
        have c9b1 : (t180 != t183) = false := bne_eq_false_iff_eq.mpr c9
        clear c9
        (first | rw [c9b0] | (simp only [i64_w, i32_w]; rw [c9b0]) | skip)
        by_cases c10 : t181.toList = t184.toList
        · rw [if_pos c10] at H
          have c10b0 : (t181.toList == t184.toList) = true := beq_iff_eq.mpr c10
          have c10b1 : (t181.toList != t184.toList) = false := bne_eq_false_iff_eq.mpr c10
          clear c10
          have H' := Aside0.mk H
          clear H
          go_wp2
          go_meet
          case rel => exact ⟨_, ((t182 != t185)), (by first | rfl | (simp; done) | (simp [*]; done)), H', ⟨by first | omega | exact Nat.le_refl _⟩, ⟨by repeat (first | (with_reducible first | exact HB.out | apply below_alloc | apply pw_below_drewN | apply below_drew1) | exact HB.out)⟩⟩
        · rw [if_neg c10] at H
          have c10b0 : (t181.toList == t184.toList) = false := beq_eq_false_iff_ne.mpr c10
          have c10b1 : (t181.toList != t184.toList) = true := bne_iff_ne.mpr c10
          have H' := Aside0.mk H
          clear H
          go_wp2
          go_meet
          case rel => exact ⟨_, (true), (by first | rfl | (simp; done) | (simp [*]; done)), H', ⟨by first | omega | exact Nat.le_refl _⟩, ⟨by repeat (first | (with_reducible first | exact HB.out | apply below_alloc | apply pw_below_drewN | apply below_drew1) | exact HB.out)⟩⟩
      · rw [if_neg c9] at H
        have c9b0 : (t180 == t183) = false := beq_eq_false_iff_ne.mpr c9
        have c9b1 : (t180 != t183) = true := bne_iff_ne.mpr c9
        (first | rw [c9b0] | (simp only [i64_w, i32_w]; rw [c9b0]) | skip)
        have H' := Aside0.mk H
        clear H
        go_wp2
        go_meet
        case rel => exact ⟨_, (true), (by first | rfl | (simp; done) | (simp [*]; done)), H', ⟨by first | omega | exact Nat.le_refl _⟩, ⟨by repeat (first | (with_reducible first | exact HB.out | apply below_alloc | apply pw_below_drewN | apply below_drew1) | exact HB.out)⟩⟩
    case rest =>
      clear HC7
      try clear c1
      try clear c2
      try clear c2b0
      try clear c2b1
      try clear p2
      try clear c4
      try clear c9
      try clear c9b0
      try clear c9b1
      try clear c10
      try clear c10b0
      try clear c10b1
      obtain ⟨kq, x43_6, rfl, HA, HJ6, HB⟩ := hcut
      cases kq with
      | zero => exact absurd HA.out (by simp [quittancelaw01_TallyTakes.j0])
      | succ kj6 =>
        have H := HA.out
        clear HA
        simp only [quittancelaw01_TallyTakes.j0] at H
        by_cases c11 : x43_6 = true
        · subst c11
          have H1 : (some false) = some r := by rw [if_pos rfl] at H; exact H
          clear H
          have H := H1
          clear H1
          obtain rfl := Option.some.inj H
          go_wp2
          go_ret
          exact ⟨by first | rfl | (simp [errW_none, errW_some] <;> rfl) | (simp [*, errW_none, errW_some] <;> rfl), by repeat (first | (with_reducible first | exact HB.out | apply below_alloc | apply pw_below_drewN | apply below_drew1) | exact HB.out)⟩
        · replace c11 := Bool.eq_false_iff.mpr c11
          subst c11
          have H1 : ((tally_TakeInt.f a0).bind fun bt186 => ((quittanceref01_TakeInt.f kj6 a0).bind fun bt189 => (if bt186.1 = bt189.1 then (if bt186.2.1.toList = bt189.2.1.toList then (quittancelaw01_TallyTakes.j1 kj6 a0 (bt186.2.2 != bt189.2.2)) else (quittancelaw01_TallyTakes.j1 kj6 a0 true)) else (quittancelaw01_TallyTakes.j1 kj6 a0 true)))) = some r := by rw [if_neg (show ¬ (false = true) by decide)] at H; exact H
          clear H
          have H := H1
          clear H1
          replace H := Option.bind_eq_some_iff.mp H
          obtain ⟨⟨t186, t187, t188⟩, A120, H⟩ := H
          replace H : ((quittanceref01_TakeInt.f kj6 a0).bind fun bt189 => (if t186 = bt189.1 then (if t187.toList = bt189.2.1.toList then (quittancelaw01_TallyTakes.j1 kj6 a0 (t188 != bt189.2.2)) else (quittancelaw01_TallyTakes.j1 kj6 a0 true)) else (quittancelaw01_TallyTakes.j1 kj6 a0 true))) = some r := H
          have A12 := Aside0.mk A120
          clear A120
          replace H := Option.bind_eq_some_iff.mp H
          obtain ⟨⟨t189, t190, t191⟩, A130, H⟩ := H
          replace H : (if t186 = t189 then (if t187.toList = t190.toList then (quittancelaw01_TallyTakes.j1 kj6 a0 (t188 != t191)) else (quittancelaw01_TallyTakes.j1 kj6 a0 true)) else (quittancelaw01_TallyTakes.j1 kj6 a0 true)) = some r := H
          have A13 := Aside0.mk A130
          clear A130
          have HC14 := Aside0.mk H
          clear H
          go_upto_region 9 with (first | ((with_reducible refine gate_callee (f := 18) rfl ?_); refine goesL_ (some 46) rfl rfl Try.func18 (by kernel_rfl) rfl #[.string a0] rfl (by (try simp only [List.map_toArray, List.map_cons, List.map_nil]); first | done | rfl | (simp only [List.length_drop, List.length_take]; rfl)) ?_; (with_reducible refine (tally_TakeInt.calls a0 t186 t187 t188 _ A12.out).mono ?_); rintro e w' ⟨rfl, ⟨nd, rfl⟩⟩; refine ⟨_, rfl, ?_⟩) | ((with_reducible refine gate_callee (f := 19) rfl ?_); refine goesL_ (some 52) rfl rfl Try.func19 (by kernel_rfl) rfl #[.string a0] rfl (by (try simp only [List.map_toArray, List.map_cons, List.map_nil]); first | done | rfl | (simp only [List.length_drop, List.length_take]; rfl)) ?_; (with_reducible refine (quittanceref01_TakeInt.calls kj6 a0 t189 t190 t191 _ A13.out).mono ?_); rintro e w15 ⟨rfl, hb⟩; refine ⟨_, rfl, ?_⟩; have n0_ := Aside0.mk (below_step (by repeat (first | (with_reducible first | exact HB.out | apply below_alloc | apply pw_below_drewN | apply below_drew1) | exact HB.out)) hb); clear HB; have HB := n0_; clear n0_; (try clear hb); (try clear hb2); (try clear hk); (try clear hi)))
          (try simp only [Act.put, List.setIfInBounds_toArray, List.set_cons_zero, List.set_cons_succ])
          go_cut [68] (fun v68 wc => ∃ (kq : Nat) (x68_13 : Bool), v68 = .bool x68_13 ∧ Aside0 (quittancelaw01_TallyTakes.j1 kq a0 x68_13 = some r) ∧ Aside0 (kq ≤ kj6) ∧ Aside0 (Below w.heap.size w wc))
          case first =>
            have H := HC14.out
            clear HC14
            by_cases c16 : t186 = t189
            · rw [if_pos c16] at H
              have c16b0 : (t186 == t189) = true := beq_iff_eq.mpr c16
              have c16b1 : (t186 != t189) = false := bne_eq_false_iff_eq.mpr c16
              clear c16
              (first | rw [c16b0] | (simp only [i64_w, i32_w]; rw [c16b0]) | skip)
              by_cases c17 : t187.toList = t190.toList
              · rw [if_pos c17] at H
                have c17b0 : (t187.toList == t190.toList) = true := beq_iff_eq.mpr c17
                have c17b1 : (t187.toList != t190.toList) = false := bne_eq_false_iff_eq.mpr c17
                clear c17
                have H' := Aside0.mk H
                clear H
                go_wp2
                go_meet
                case rel => exact ⟨_, ((t188 != t191)), (by first | rfl | (simp; done) | (simp [*]; done)), H', ⟨by have := HJ6.out; first | omega | exact Nat.le_refl _⟩, ⟨by repeat (first | (with_reducible first | exact HB.out | apply below_alloc | apply pw_below_drewN | apply below_drew1) | exact HB.out)⟩⟩
              · rw [if_neg c17] at H
                have c17b0 : (t187.toList == t190.toList) = false := beq_eq_false_iff_ne.mpr c17
                have c17b1 : (t187.toList != t190.toList) = true := bne_iff_ne.mpr c17
                have H' := Aside0.mk H
                clear H
                go_wp2
                go_meet
                case rel => exact ⟨_, (true), (by first | rfl | (simp; done) | (simp [*]; done)), H', ⟨by have := HJ6.out; first | omega | exact Nat.le_refl _⟩, ⟨by repeat (first | (with_reducible first | exact HB.out | apply below_alloc | apply pw_below_drewN | apply below_drew1) | exact HB.out)⟩⟩
            · rw [if_neg c16] at H
              have c16b0 : (t186 == t189) = false := beq_eq_false_iff_ne.mpr c16
              have c16b1 : (t186 != t189) = true := bne_iff_ne.mpr c16
              (first | rw [c16b0] | (simp only [i64_w, i32_w]; rw [c16b0]) | skip)
              have H' := Aside0.mk H
              clear H
              go_wp2
              go_meet
              case rel => exact ⟨_, (true), (by first | rfl | (simp; done) | (simp [*]; done)), H', ⟨by have := HJ6.out; first | omega | exact Nat.le_refl _⟩, ⟨by repeat (first | (with_reducible first | exact HB.out | apply below_alloc | apply pw_below_drewN | apply below_drew1) | exact HB.out)⟩⟩
          case rest =>
            clear HC14
            try clear c1
            try clear c2
            try clear c2b0
            try clear c2b1
            try clear p2
            try clear c4
            try clear c9
            try clear c9b0
            try clear c9b1
            try clear c10
            try clear c10b0
            try clear c10b1
            try clear c11
            try clear c15
            try clear c16
            try clear c16b0
            try clear c16b1
            try clear c17
            try clear c17b0
            try clear c17b1
            try clear p2
            obtain ⟨kq, x68_13, rfl, HA, HJ13, HB⟩ := hcut
            cases kq with
            | zero => exact absurd HA.out (by simp [quittancelaw01_TallyTakes.j1])
            | succ kj13 =>
              have H := HA.out
              clear HA
              simp only [quittancelaw01_TallyTakes.j1] at H
              by_cases c18 : x68_13 = true
              · subst c18
                have H1 : (some false) = some r := by rw [if_pos rfl] at H; exact H
                clear H
                have H := H1
                clear H1
                obtain rfl := Option.some.inj H
                go_wp2
                go_ret
                exact ⟨by first | rfl | (simp [errW_none, errW_some] <;> rfl) | (simp [*, errW_none, errW_some] <;> rfl), by repeat (first | (with_reducible first | exact HB.out | apply below_alloc | apply pw_below_drewN | apply below_drew1) | exact HB.out)⟩
              · replace c18 := Bool.eq_false_iff.mpr c18
                subst c18
                have H1 : ((tally_TakeText.f a0).bind fun bt192 => ((quittanceref01_TakeText.f kj13 a0).bind fun bt195 => (if bt192.1.toList = bt195.1.toList then (if bt192.2.1.toList = bt195.2.1.toList then (quittancelaw01_TallyTakes.j2 kj13 a0 (bt192.2.2 != bt195.2.2)) else (quittancelaw01_TallyTakes.j2 kj13 a0 true)) else (quittancelaw01_TallyTakes.j2 kj13 a0 true)))) = some r := by rw [if_neg (show ¬ (false = true) by decide)] at H; exact H
                clear H
                have H := H1
                clear H1
                replace H := Option.bind_eq_some_iff.mp H
                obtain ⟨⟨t192, t193, t194⟩, A190, H⟩ := H
                replace H : ((quittanceref01_TakeText.f kj13 a0).bind fun bt195 => (if t192.toList = bt195.1.toList then (if t193.toList = bt195.2.1.toList then (quittancelaw01_TallyTakes.j2 kj13 a0 (t194 != bt195.2.2)) else (quittancelaw01_TallyTakes.j2 kj13 a0 true)) else (quittancelaw01_TallyTakes.j2 kj13 a0 true))) = some r := H
                have A19 := Aside0.mk A190
                clear A190
                replace H := Option.bind_eq_some_iff.mp H
                obtain ⟨⟨t195, t196, t197⟩, A200, H⟩ := H
                replace H : (if t192.toList = t195.toList then (if t193.toList = t196.toList then (quittancelaw01_TallyTakes.j2 kj13 a0 (t194 != t197)) else (quittancelaw01_TallyTakes.j2 kj13 a0 true)) else (quittancelaw01_TallyTakes.j2 kj13 a0 true)) = some r := H
                have A20 := Aside0.mk A200
                clear A200
                have HC21 := Aside0.mk H
                clear H
                go_upto_region 13 with (first | ((with_reducible refine gate_callee (f := 20) rfl ?_); refine goesL_ (some 71) rfl rfl Try.func20 (by kernel_rfl) rfl #[.string a0] rfl (by (try simp only [List.map_toArray, List.map_cons, List.map_nil]); first | done | rfl | (simp only [List.length_drop, List.length_take]; rfl)) ?_; (with_reducible refine (tally_TakeText.calls a0 t192 t193 t194 _ A19.out).mono ?_); rintro e w' ⟨rfl, ⟨nd, rfl⟩⟩; refine ⟨_, rfl, ?_⟩) | ((with_reducible refine gate_callee (f := 21) rfl ?_); refine goesL_ (some 77) rfl rfl Try.func21 (by kernel_rfl) rfl #[.string a0] rfl (by (try simp only [List.map_toArray, List.map_cons, List.map_nil]); first | done | rfl | (simp only [List.length_drop, List.length_take]; rfl)) ?_; (with_reducible refine (quittanceref01_TakeText.calls kj13 a0 t195 t196 t197 _ A20.out).mono ?_); rintro e w22 ⟨rfl, hb⟩; refine ⟨_, rfl, ?_⟩; have n0_ := Aside0.mk (below_step (by repeat (first | (with_reducible first | exact HB.out | apply below_alloc | apply pw_below_drewN | apply below_drew1) | exact HB.out)) hb); clear HB; have HB := n0_; clear n0_; (try clear hb); (try clear hb2); (try clear hk); (try clear hi)))
                (try simp only [Act.put, List.setIfInBounds_toArray, List.set_cons_zero, List.set_cons_succ])
                go_cut [93] (fun v93 wc => ∃ (kq : Nat) (x93_20 : Bool), v93 = .bool x93_20 ∧ Aside0 (quittancelaw01_TallyTakes.j2 kq a0 x93_20 = some r) ∧ Aside0 (kq ≤ kj13) ∧ Aside0 (Below w.heap.size w wc))
                case first =>
                  have H := HC21.out
                  clear HC21
                  by_cases c23 : t192.toList = t195.toList
                  · rw [if_pos c23] at H
                    have c23b0 : (t192.toList == t195.toList) = true := beq_iff_eq.mpr c23
                    have c23b1 : (t192.toList != t195.toList) = false := bne_eq_false_iff_eq.mpr c23
                    clear c23
                    (first | rw [c23b0] | (simp only [i64_w, i32_w]; rw [c23b0]) | skip)
                    by_cases c24 : t193.toList = t196.toList
                    · rw [if_pos c24] at H
                      have c24b0 : (t193.toList == t196.toList) = true := beq_iff_eq.mpr c24
                      have c24b1 : (t193.toList != t196.toList) = false := bne_eq_false_iff_eq.mpr c24
                      clear c24
                      have H' := Aside0.mk H
                      clear H
                      go_wp2
                      go_meet
                      case rel => exact ⟨_, ((t194 != t197)), (by first | rfl | (simp; done) | (simp [*]; done)), H', ⟨by have := HJ6.out; have := HJ13.out; first | omega | exact Nat.le_refl _⟩, ⟨by repeat (first | (with_reducible first | exact HB.out | apply below_alloc | apply pw_below_drewN | apply below_drew1) | exact HB.out)⟩⟩
                    · rw [if_neg c24] at H
                      have c24b0 : (t193.toList == t196.toList) = false := beq_eq_false_iff_ne.mpr c24
                      have c24b1 : (t193.toList != t196.toList) = true := bne_iff_ne.mpr c24
                      have H' := Aside0.mk H
                      clear H
                      go_wp2
                      go_meet
                      case rel => exact ⟨_, (true), (by first | rfl | (simp; done) | (simp [*]; done)), H', ⟨by have := HJ6.out; have := HJ13.out; first | omega | exact Nat.le_refl _⟩, ⟨by repeat (first | (with_reducible first | exact HB.out | apply below_alloc | apply pw_below_drewN | apply below_drew1) | exact HB.out)⟩⟩
                  · rw [if_neg c23] at H
                    have c23b0 : (t192.toList == t195.toList) = false := beq_eq_false_iff_ne.mpr c23
                    have c23b1 : (t192.toList != t195.toList) = true := bne_iff_ne.mpr c23
                    (first | rw [c23b0] | (simp only [i64_w, i32_w]; rw [c23b0]) | skip)
                    have H' := Aside0.mk H
                    clear H
                    go_wp2
                    go_meet
                    case rel => exact ⟨_, (true), (by first | rfl | (simp; done) | (simp [*]; done)), H', ⟨by have := HJ6.out; have := HJ13.out; first | omega | exact Nat.le_refl _⟩, ⟨by repeat (first | (with_reducible first | exact HB.out | apply below_alloc | apply pw_below_drewN | apply below_drew1) | exact HB.out)⟩⟩
                case rest =>
                  clear HC21
                  try clear c1
                  try clear c2
                  try clear c2b0
                  try clear c2b1
                  try clear p2
                  try clear c4
                  try clear c9
                  try clear c9b0
                  try clear c9b1
                  try clear c10
                  try clear c10b0
                  try clear c10b1
                  try clear c11
                  try clear c15
                  try clear c16
                  try clear c16b0
                  try clear c16b1
                  try clear c17
                  try clear c17b0
                  try clear c17b1
                  try clear c18
                  try clear c19
                  try clear c20
                  try clear c21
                  try clear c23
                  try clear c23b0
                  try clear c23b1
                  try clear c24
                  try clear c24b0
                  try clear c24b1
                  try clear p2
                  obtain ⟨kq, x93_20, rfl, HA, HJ20, HB⟩ := hcut
                  cases kq with
                  | zero => exact absurd HA.out (by simp [quittancelaw01_TallyTakes.j2])
                  | succ kj20 =>
                    have H := HA.out
                    clear HA
                    simp only [quittancelaw01_TallyTakes.j2] at H
                    by_cases c25 : x93_20 = true
                    · subst c25
                      have H1 : (some false) = some r := by rw [if_pos rfl] at H; exact H
                      clear H
                      have H := H1
                      clear H1
                      obtain rfl := Option.some.inj H
                      go_wp2
                      go_ret
                      exact ⟨by first | rfl | (simp [errW_none, errW_some] <;> rfl) | (simp [*, errW_none, errW_some] <;> rfl), by repeat (first | (with_reducible first | exact HB.out | apply below_alloc | apply pw_below_drewN | apply below_drew1) | exact HB.out)⟩
                    · replace c25 := Bool.eq_false_iff.mpr c25
                      subst c25
                      have H1 : ((tally_TakeRow.f a0).bind fun bt198 => ((quittanceref01_TakeRow.f kj20 a0).bind fun bt203 => ((quittanceref01_Same.f kj20 bt198.1 bt203.1).bind fun t208 => (if t208 = true then (if bt198.2.1.toList = bt203.2.1.toList then (if (bt198.2.2 == bt203.2.2) = true then ((quittancelaw01_head.f kj20).bind fun t209 => (some t209)) else (some false)) else (some false)) else (some false))))) = some r := by rw [if_neg (show ¬ (false = true) by decide)] at H; exact H
                      clear H
                      have H := H1
                      clear H1
                      replace H := Option.bind_eq_some_iff.mp H
                      obtain ⟨⟨t198, t199, t200⟩, A260, H⟩ := H
                      replace H : ((quittanceref01_TakeRow.f kj20 a0).bind fun bt203 => ((quittanceref01_Same.f kj20 t198 bt203.1).bind fun t208 => (if t208 = true then (if t199.toList = bt203.2.1.toList then (if (t200 == bt203.2.2) = true then ((quittancelaw01_head.f kj20).bind fun t209 => (some t209)) else (some false)) else (some false)) else (some false)))) = some r := H
                      have A26 := Aside0.mk A260
                      clear A260
                      replace H := Option.bind_eq_some_iff.mp H
                      obtain ⟨⟨t203, t204, t205⟩, A270, H⟩ := H
                      replace H : ((quittanceref01_Same.f kj20 t198 t203).bind fun t208 => (if t208 = true then (if t199.toList = t204.toList then (if (t200 == t205) = true then ((quittancelaw01_head.f kj20).bind fun t209 => (some t209)) else (some false)) else (some false)) else (some false))) = some r := H
                      have A27 := Aside0.mk A270
                      clear A270
                      replace H := Option.bind_eq_some_iff.mp H
                      obtain ⟨t208, A280, H⟩ := H
                      replace H : (if t208 = true then (if t199.toList = t204.toList then (if (t200 == t205) = true then ((quittancelaw01_head.f kj20).bind fun t209 => (some t209)) else (some false)) else (some false)) else (some false)) = some r := H
                      have A28 := Aside0.mk A280
                      clear A280
                      by_cases c29 : t208 = true
                      · subst c29
                        have H1 : (if t199.toList = t204.toList then (if (t200 == t205) = true then ((quittancelaw01_head.f kj20).bind fun t209 => (some t209)) else (some false)) else (some false)) = some r := by rw [if_pos rfl] at H; exact H
                        clear H
                        have H := H1
                        clear H1
                        by_cases c30 : t199.toList = t204.toList
                        · rw [if_pos c30] at H
                          have c30b0 : (t199.toList == t204.toList) = true := beq_iff_eq.mpr c30
                          have c30b1 : (t199.toList != t204.toList) = false := bne_eq_false_iff_eq.mpr c30
                          clear c30
                          by_cases c31 : (t200 == t205) = true
                          · rw [if_pos c31] at H
                            have c31b0 : (t200 == t205) = true := c31
                            (try (have c31b1 : decide (t200 = t205) = true := by simpa using c31))
                            (try (have c31b2 : (t200 == t205) = true := by simpa using c31))
                            clear c31
                            replace H := Option.bind_eq_some_iff.mp H
                            obtain ⟨t209, A320, H⟩ := H
                            replace H : (some t209) = some r := H
                            have A32 := Aside0.mk A320
                            clear A320
                            obtain rfl := Option.some.inj H
                            go_wp2_with (first | ((with_reducible refine gate_callee (f := 22) rfl ?_); refine goesL_ (some 96) rfl rfl Try.func22 (by kernel_rfl) rfl #[.string a0] rfl (by (try simp only [List.map_toArray, List.map_cons, List.map_nil]); first | done | rfl | (simp only [List.length_drop, List.length_take]; rfl)) ?_; (with_reducible refine (tally_TakeRow.calls a0 t198 t199 t200 _ A26.out).mono ?_); rintro e w33 ⟨v201, rfl, ho0, hb⟩; refine ⟨_, rfl, ?_⟩; have n0_ := Aside0.mk (Kc.R_lower ho0 (below_size (by repeat (first | (with_reducible first | exact HB.out | apply below_alloc | apply pw_below_drewN | apply below_drew1) | exact HB.out)))); have n1_ := Aside0.mk (below_step (by repeat (first | (with_reducible first | exact HB.out | apply below_alloc | apply pw_below_drewN | apply below_drew1) | exact HB.out)) hb); clear HB; have HO202 := n0_; have HB := n1_; clear n0_ n1_; (try clear hb); (try clear hb2); (try clear hk); (try clear hi); (try clear ho0)) | ((with_reducible refine gate_callee (f := 23) rfl ?_); refine goesL_ (some 102) rfl rfl Try.func23 (by kernel_rfl) rfl #[.string a0] rfl (by (try simp only [List.map_toArray, List.map_cons, List.map_nil]); first | done | rfl | (simp only [List.length_drop, List.length_take]; rfl)) ?_; (with_reducible refine (quittanceref01_TakeRow.calls kj20 a0 t203 t204 t205 _ A27.out).mono ?_); rintro e w34 ⟨v206, rfl, ho0, hb⟩; refine ⟨_, rfl, ?_⟩; have n0_ := Aside0.mk (Kc.R_elder' (by (with_reducible repeat (first | apply Kc.R_alloc | apply Kc.R_drewN | apply Kc.R_drew)); exact HO202.out) (Kd.R_base ho0) hb); have n1_ := Aside0.mk (Kd.R_lower (Kd.R_new' ho0 (Kc.R_lt (by (with_reducible repeat (first | apply Kc.R_alloc | apply Kc.R_drewN | apply Kc.R_drew)); exact HO202.out))) (below_size (by repeat (first | (with_reducible first | exact HB.out | apply below_alloc | apply pw_below_drewN | apply below_drew1) | exact HB.out)))); have n2_ := Aside0.mk (below_step (by repeat (first | (with_reducible first | exact HB.out | apply below_alloc | apply pw_below_drewN | apply below_drew1) | exact HB.out)) hb); clear HO202; clear HB; have HO202 := n0_; have HO207 := n1_; have HB := n2_; clear n0_ n1_ n2_; (try clear hb); (try clear hb2); (try clear hk); (try clear hi); (try clear ho0); obtain ⟨Ao35, co35, eo35⟩ := Kc.R_slice HO202.out; subst eo35; obtain ⟨Ao36, co36, eo36⟩ := Kd.R_slice HO207.out; subst eo36) | ((with_reducible refine gate_callee (f := 24) rfl ?_); refine goesL_ (some 108) rfl rfl Try.func24 (by kernel_rfl) rfl #[.slice Ao35 t198.length co35, .slice Ao36 t203.length co36] rfl (by (try simp only [List.map_toArray, List.map_cons, List.map_nil]); first | done | rfl | (simp only [List.length_drop, List.length_take]; rfl)) ?_; (with_reducible refine (quittanceref01_Same.calls kj20 _ _ t198 _ _ t203 true _ ?side1 ?side2 ?side3 ?side4 A28.out).mono ?_); (case side1 => repeat (first | exact (Kc.R_reads' HO202.out).2.2 | (with_reducible refine Kd.C_alloc ?_ _) | (with_reducible refine Kd.C_drewN ?_ _) | (with_reducible refine Kd.C_drew ?_))); (case side2 => exact (Kc.R_reads' HO202.out).2.1); (case side3 => repeat (first | exact (Kd.R_reads' HO207.out).2.2 | (with_reducible refine Kd.C_alloc ?_ _) | (with_reducible refine Kd.C_drewN ?_ _) | (with_reducible refine Kd.C_drew ?_))); (case side4 => exact (Kd.R_reads' HO207.out).2.1); rintro e w' ⟨rfl, ⟨nd, rfl⟩⟩; refine ⟨_, rfl, ?_⟩) | (go_at_call 15; (with_reducible refine (quittancelaw01_head.calls kj20  t209 _ A32.out).mono ?_); rintro e w37 ⟨rfl, hb⟩; have n0_ := Aside0.mk (Kc.R_below (by (with_reducible repeat (first | apply Kc.R_alloc | apply Kc.R_drewN | apply Kc.R_drew)); exact HO202.out) hb); have n1_ := Aside0.mk (Kd.R_below (by (with_reducible repeat (first | apply Kd.R_alloc | apply Kd.R_drewN | apply Kd.R_drew)); exact HO207.out) hb); have n2_ := Aside0.mk (below_step (by repeat (first | (with_reducible first | exact HB.out | apply below_alloc | apply pw_below_drewN | apply below_drew1) | exact HB.out)) hb); clear HO202; clear HO207; clear HB; have HO202 := n0_; have HO207 := n1_; have HB := n2_; clear n0_ n1_ n2_; (try clear hb); (try clear hb2); (try clear hk); (try clear hi)))
                            go_ret
                            exact ⟨by first | rfl | (simp [errW_none, errW_some] <;> rfl) | (simp [*, errW_none, errW_some] <;> rfl), by repeat (first | (with_reducible first | exact HB.out | apply below_alloc | apply pw_below_drewN | apply below_drew1) | exact HB.out)⟩
                          · rw [if_neg c31] at H
                            have c31b0 : (t200 == t205) = false := by simpa using c31
                            (try (have c31b1 : decide (t200 = t205) = false := by simpa using c31))
                            (try (have c31b2 : (t200 == t205) = false := by simpa using c31))
                            (try (have c31b3 : ¬ (t200 = t205) := by simpa using c31))
                            clear c31
                            obtain rfl := Option.some.inj H
                            go_wp2_with (first | ((with_reducible refine gate_callee (f := 22) rfl ?_); refine goesL_ (some 96) rfl rfl Try.func22 (by kernel_rfl) rfl #[.string a0] rfl (by (try simp only [List.map_toArray, List.map_cons, List.map_nil]); first | done | rfl | (simp only [List.length_drop, List.length_take]; rfl)) ?_; (with_reducible refine (tally_TakeRow.calls a0 t198 t199 t200 _ A26.out).mono ?_); rintro e w38 ⟨v201, rfl, ho0, hb⟩; refine ⟨_, rfl, ?_⟩; have n0_ := Aside0.mk (Kc.R_lower ho0 (below_size (by repeat (first | (with_reducible first | exact HB.out | apply below_alloc | apply pw_below_drewN | apply below_drew1) | exact HB.out)))); have n1_ := Aside0.mk (below_step (by repeat (first | (with_reducible first | exact HB.out | apply below_alloc | apply pw_below_drewN | apply below_drew1) | exact HB.out)) hb); clear HB; have HO202 := n0_; have HB := n1_; clear n0_ n1_; (try clear hb); (try clear hb2); (try clear hk); (try clear hi); (try clear ho0)) | ((with_reducible refine gate_callee (f := 23) rfl ?_); refine goesL_ (some 102) rfl rfl Try.func23 (by kernel_rfl) rfl #[.string a0] rfl (by (try simp only [List.map_toArray, List.map_cons, List.map_nil]); first | done | rfl | (simp only [List.length_drop, List.length_take]; rfl)) ?_; (with_reducible refine (quittanceref01_TakeRow.calls kj20 a0 t203 t204 t205 _ A27.out).mono ?_); rintro e w39 ⟨v206, rfl, ho0, hb⟩; refine ⟨_, rfl, ?_⟩; have n0_ := Aside0.mk (Kc.R_elder' (by (with_reducible repeat (first | apply Kc.R_alloc | apply Kc.R_drewN | apply Kc.R_drew)); exact HO202.out) (Kd.R_base ho0) hb); have n1_ := Aside0.mk (Kd.R_lower (Kd.R_new' ho0 (Kc.R_lt (by (with_reducible repeat (first | apply Kc.R_alloc | apply Kc.R_drewN | apply Kc.R_drew)); exact HO202.out))) (below_size (by repeat (first | (with_reducible first | exact HB.out | apply below_alloc | apply pw_below_drewN | apply below_drew1) | exact HB.out)))); have n2_ := Aside0.mk (below_step (by repeat (first | (with_reducible first | exact HB.out | apply below_alloc | apply pw_below_drewN | apply below_drew1) | exact HB.out)) hb); clear HO202; clear HB; have HO202 := n0_; have HO207 := n1_; have HB := n2_; clear n0_ n1_ n2_; (try clear hb); (try clear hb2); (try clear hk); (try clear hi); (try clear ho0); obtain ⟨Ao40, co40, eo40⟩ := Kc.R_slice HO202.out; subst eo40; obtain ⟨Ao41, co41, eo41⟩ := Kd.R_slice HO207.out; subst eo41) | ((with_reducible refine gate_callee (f := 24) rfl ?_); refine goesL_ (some 108) rfl rfl Try.func24 (by kernel_rfl) rfl #[.slice Ao40 t198.length co40, .slice Ao41 t203.length co41] rfl (by (try simp only [List.map_toArray, List.map_cons, List.map_nil]); first | done | rfl | (simp only [List.length_drop, List.length_take]; rfl)) ?_; (with_reducible refine (quittanceref01_Same.calls kj20 _ _ t198 _ _ t203 true _ ?side1 ?side2 ?side3 ?side4 A28.out).mono ?_); (case side1 => repeat (first | exact (Kc.R_reads' HO202.out).2.2 | (with_reducible refine Kd.C_alloc ?_ _) | (with_reducible refine Kd.C_drewN ?_ _) | (with_reducible refine Kd.C_drew ?_))); (case side2 => exact (Kc.R_reads' HO202.out).2.1); (case side3 => repeat (first | exact (Kd.R_reads' HO207.out).2.2 | (with_reducible refine Kd.C_alloc ?_ _) | (with_reducible refine Kd.C_drewN ?_ _) | (with_reducible refine Kd.C_drew ?_))); (case side4 => exact (Kd.R_reads' HO207.out).2.1); rintro e w' ⟨rfl, ⟨nd, rfl⟩⟩; refine ⟨_, rfl, ?_⟩))
                            go_ret
                            exact ⟨by first | rfl | (simp [errW_none, errW_some] <;> rfl) | (simp [*, errW_none, errW_some] <;> rfl), by repeat (first | (with_reducible first | exact HB.out | apply below_alloc | apply pw_below_drewN | apply below_drew1) | exact HB.out)⟩
                        · rw [if_neg c30] at H
                          have c30b0 : (t199.toList == t204.toList) = false := beq_eq_false_iff_ne.mpr c30
                          have c30b1 : (t199.toList != t204.toList) = true := bne_iff_ne.mpr c30
                          obtain rfl := Option.some.inj H
                          go_wp2_with (first | ((with_reducible refine gate_callee (f := 22) rfl ?_); refine goesL_ (some 96) rfl rfl Try.func22 (by kernel_rfl) rfl #[.string a0] rfl (by (try simp only [List.map_toArray, List.map_cons, List.map_nil]); first | done | rfl | (simp only [List.length_drop, List.length_take]; rfl)) ?_; (with_reducible refine (tally_TakeRow.calls a0 t198 t199 t200 _ A26.out).mono ?_); rintro e w42 ⟨v201, rfl, ho0, hb⟩; refine ⟨_, rfl, ?_⟩; have n0_ := Aside0.mk (Kc.R_lower ho0 (below_size (by repeat (first | (with_reducible first | exact HB.out | apply below_alloc | apply pw_below_drewN | apply below_drew1) | exact HB.out)))); have n1_ := Aside0.mk (below_step (by repeat (first | (with_reducible first | exact HB.out | apply below_alloc | apply pw_below_drewN | apply below_drew1) | exact HB.out)) hb); clear HB; have HO202 := n0_; have HB := n1_; clear n0_ n1_; (try clear hb); (try clear hb2); (try clear hk); (try clear hi); (try clear ho0)) | ((with_reducible refine gate_callee (f := 23) rfl ?_); refine goesL_ (some 102) rfl rfl Try.func23 (by kernel_rfl) rfl #[.string a0] rfl (by (try simp only [List.map_toArray, List.map_cons, List.map_nil]); first | done | rfl | (simp only [List.length_drop, List.length_take]; rfl)) ?_; (with_reducible refine (quittanceref01_TakeRow.calls kj20 a0 t203 t204 t205 _ A27.out).mono ?_); rintro e w43 ⟨v206, rfl, ho0, hb⟩; refine ⟨_, rfl, ?_⟩; have n0_ := Aside0.mk (Kc.R_elder' (by (with_reducible repeat (first | apply Kc.R_alloc | apply Kc.R_drewN | apply Kc.R_drew)); exact HO202.out) (Kd.R_base ho0) hb); have n1_ := Aside0.mk (Kd.R_lower (Kd.R_new' ho0 (Kc.R_lt (by (with_reducible repeat (first | apply Kc.R_alloc | apply Kc.R_drewN | apply Kc.R_drew)); exact HO202.out))) (below_size (by repeat (first | (with_reducible first | exact HB.out | apply below_alloc | apply pw_below_drewN | apply below_drew1) | exact HB.out)))); have n2_ := Aside0.mk (below_step (by repeat (first | (with_reducible first | exact HB.out | apply below_alloc | apply pw_below_drewN | apply below_drew1) | exact HB.out)) hb); clear HO202; clear HB; have HO202 := n0_; have HO207 := n1_; have HB := n2_; clear n0_ n1_ n2_; (try clear hb); (try clear hb2); (try clear hk); (try clear hi); (try clear ho0); obtain ⟨Ao44, co44, eo44⟩ := Kc.R_slice HO202.out; subst eo44; obtain ⟨Ao45, co45, eo45⟩ := Kd.R_slice HO207.out; subst eo45) | ((with_reducible refine gate_callee (f := 24) rfl ?_); refine goesL_ (some 108) rfl rfl Try.func24 (by kernel_rfl) rfl #[.slice Ao44 t198.length co44, .slice Ao45 t203.length co45] rfl (by (try simp only [List.map_toArray, List.map_cons, List.map_nil]); first | done | rfl | (simp only [List.length_drop, List.length_take]; rfl)) ?_; (with_reducible refine (quittanceref01_Same.calls kj20 _ _ t198 _ _ t203 true _ ?side1 ?side2 ?side3 ?side4 A28.out).mono ?_); (case side1 => repeat (first | exact (Kc.R_reads' HO202.out).2.2 | (with_reducible refine Kd.C_alloc ?_ _) | (with_reducible refine Kd.C_drewN ?_ _) | (with_reducible refine Kd.C_drew ?_))); (case side2 => exact (Kc.R_reads' HO202.out).2.1); (case side3 => repeat (first | exact (Kd.R_reads' HO207.out).2.2 | (with_reducible refine Kd.C_alloc ?_ _) | (with_reducible refine Kd.C_drewN ?_ _) | (with_reducible refine Kd.C_drew ?_))); (case side4 => exact (Kd.R_reads' HO207.out).2.1); rintro e w' ⟨rfl, ⟨nd, rfl⟩⟩; refine ⟨_, rfl, ?_⟩))
                          go_ret
                          exact ⟨by first | rfl | (simp [errW_none, errW_some] <;> rfl) | (simp [*, errW_none, errW_some] <;> rfl), by repeat (first | (with_reducible first | exact HB.out | apply below_alloc | apply pw_below_drewN | apply below_drew1) | exact HB.out)⟩
                      · replace c29 := Bool.eq_false_iff.mpr c29
                        subst c29
                        have H1 : (some false) = some r := by rw [if_neg (show ¬ (false = true) by decide)] at H; exact H
                        clear H
                        have H := H1
                        clear H1
                        obtain rfl := Option.some.inj H
                        go_wp2_with (first | ((with_reducible refine gate_callee (f := 22) rfl ?_); refine goesL_ (some 96) rfl rfl Try.func22 (by kernel_rfl) rfl #[.string a0] rfl (by (try simp only [List.map_toArray, List.map_cons, List.map_nil]); first | done | rfl | (simp only [List.length_drop, List.length_take]; rfl)) ?_; (with_reducible refine (tally_TakeRow.calls a0 t198 t199 t200 _ A26.out).mono ?_); rintro e w46 ⟨v201, rfl, ho0, hb⟩; refine ⟨_, rfl, ?_⟩; have n0_ := Aside0.mk (Kc.R_lower ho0 (below_size (by repeat (first | (with_reducible first | exact HB.out | apply below_alloc | apply pw_below_drewN | apply below_drew1) | exact HB.out)))); have n1_ := Aside0.mk (below_step (by repeat (first | (with_reducible first | exact HB.out | apply below_alloc | apply pw_below_drewN | apply below_drew1) | exact HB.out)) hb); clear HB; have HO202 := n0_; have HB := n1_; clear n0_ n1_; (try clear hb); (try clear hb2); (try clear hk); (try clear hi); (try clear ho0)) | ((with_reducible refine gate_callee (f := 23) rfl ?_); refine goesL_ (some 102) rfl rfl Try.func23 (by kernel_rfl) rfl #[.string a0] rfl (by (try simp only [List.map_toArray, List.map_cons, List.map_nil]); first | done | rfl | (simp only [List.length_drop, List.length_take]; rfl)) ?_; (with_reducible refine (quittanceref01_TakeRow.calls kj20 a0 t203 t204 t205 _ A27.out).mono ?_); rintro e w47 ⟨v206, rfl, ho0, hb⟩; refine ⟨_, rfl, ?_⟩; have n0_ := Aside0.mk (Kc.R_elder' (by (with_reducible repeat (first | apply Kc.R_alloc | apply Kc.R_drewN | apply Kc.R_drew)); exact HO202.out) (Kd.R_base ho0) hb); have n1_ := Aside0.mk (Kd.R_lower (Kd.R_new' ho0 (Kc.R_lt (by (with_reducible repeat (first | apply Kc.R_alloc | apply Kc.R_drewN | apply Kc.R_drew)); exact HO202.out))) (below_size (by repeat (first | (with_reducible first | exact HB.out | apply below_alloc | apply pw_below_drewN | apply below_drew1) | exact HB.out)))); have n2_ := Aside0.mk (below_step (by repeat (first | (with_reducible first | exact HB.out | apply below_alloc | apply pw_below_drewN | apply below_drew1) | exact HB.out)) hb); clear HO202; clear HB; have HO202 := n0_; have HO207 := n1_; have HB := n2_; clear n0_ n1_ n2_; (try clear hb); (try clear hb2); (try clear hk); (try clear hi); (try clear ho0); obtain ⟨Ao48, co48, eo48⟩ := Kc.R_slice HO202.out; subst eo48; obtain ⟨Ao49, co49, eo49⟩ := Kd.R_slice HO207.out; subst eo49) | ((with_reducible refine gate_callee (f := 24) rfl ?_); refine goesL_ (some 108) rfl rfl Try.func24 (by kernel_rfl) rfl #[.slice Ao48 t198.length co48, .slice Ao49 t203.length co49] rfl (by (try simp only [List.map_toArray, List.map_cons, List.map_nil]); first | done | rfl | (simp only [List.length_drop, List.length_take]; rfl)) ?_; (with_reducible refine (quittanceref01_Same.calls kj20 _ _ t198 _ _ t203 false _ ?side1 ?side2 ?side3 ?side4 A28.out).mono ?_); (case side1 => repeat (first | exact (Kc.R_reads' HO202.out).2.2 | (with_reducible refine Kd.C_alloc ?_ _) | (with_reducible refine Kd.C_drewN ?_ _) | (with_reducible refine Kd.C_drew ?_))); (case side2 => exact (Kc.R_reads' HO202.out).2.1); (case side3 => repeat (first | exact (Kd.R_reads' HO207.out).2.2 | (with_reducible refine Kd.C_alloc ?_ _) | (with_reducible refine Kd.C_drewN ?_ _) | (with_reducible refine Kd.C_drew ?_))); (case side4 => exact (Kd.R_reads' HO207.out).2.1); rintro e w' ⟨rfl, ⟨nd, rfl⟩⟩; refine ⟨_, rfl, ?_⟩))
                        go_ret
                        exact ⟨by first | rfl | (simp [errW_none, errW_some] <;> rfl) | (simp [*, errW_none, errW_some] <;> rfl), by repeat (first | (with_reducible first | exact HB.out | apply below_alloc | apply pw_below_drewN | apply below_drew1) | exact HB.out)⟩

/-- THE ONE PURE STATEMENT of quittancelaw01_TallyTakes: yours. -/
def quittancelaw01_TallyTakes.Pure : Prop := ∀ (a0 : ByteArray), a0.size ≤ 140737488351232 → ∃ k, quittancelaw01_TallyTakes.f k a0 = some true
theorem quittancelaw01_TallyTakes.walk (P : quittancelaw01_TallyTakes.Pure) (a0 : ByteArray) (w : World) (w0 : a0.size ≤ 140737488351232) :
    Calls Try.prog 4 #[.string a0] w fun e w' => e = .returned (.bool true) ∧ Below w.heap.size w w' := by
  obtain ⟨k, h⟩ := P a0 w0
  refine (quittancelaw01_TallyTakes.calls k a0 true w h).mono ?_
  rintro e w' ⟨rfl, hd⟩
  exact ⟨rfl, hd⟩

end Go.Proofs.Ytfjjngipjabfpaa.Q
