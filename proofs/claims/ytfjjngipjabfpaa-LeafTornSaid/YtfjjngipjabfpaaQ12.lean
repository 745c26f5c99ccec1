-- MADE BY xrun.sh, a turned copy of the kit's print: not typed by hand
import Derived.Test.YtfjjngipjabfpaaQ0
import Derived.Test.YtfjjngipjabfpaaQ10
import Derived.Test.YtfjjngipjabfpaaQ11
import Derived.Test.YtfjjngipjabfpaaL2
import Derived.Test.YtfjjngipjabfpaaL3
namespace Go.Proofs.Ytfjjngipjabfpaa.Q
open Go.RowKit Go.Proofs.YtfjjngipjabfpaaW.PrintWords Go.Proofs.YtfjjngipjabfpaaW.PrintLast Go.Proofs.YtfjjngipjabfpaaW.PrintMore
attribute [local go_sem] max2_int min2_int max_two min_two max_three min_three max_four min_four   -- for this text's walks alone
set_option linter.unusedVariables false
set_option linter.unusedSimpArgs false

/-! ### quittancelaw02_LeafTorn: function 3 -/
mutual
def quittancelaw02_LeafTorn.l0 : Nat → List (S30) → ByteArray → Int → ByteArray → Int → Option (Bool)
  | 0, _, _, _, _, _ => none
  | k + 1, x0, x3, x4, x5, x6 => if x6 < (x0.length : Int) then ((leaf_Ends.f x3).bind fun bt323 => (if bt323.1 ≥ 9223372036854775808 then (quittancelaw02_LeafTorn.j1 k x0 x3 x4 x5 x6 bt323.1 true) else (if 0 ≤ x6 then (quittancelaw02_LeafTorn.j1 k x0 x3 x4 x5 x6 bt323.1 (decide ((((rd_T30 x0 x6).f1).size : Int) > 48))) else (none)))) else ((quittancelaw02_head.f k).bind fun t322 => (some t322))
def quittancelaw02_LeafTorn.j1 : Nat → List (S30) → ByteArray → Int → ByteArray → Int → Int → Bool → Option (Bool)
  | 0, _, _, _, _, _, _, _ => none
  | k + 1, x0, x3, x4, x5, x6, x7, x45 => if x45 = true then ((quittancelaw02_head.f k).bind fun t326 => (some t326)) else (if 0 ≤ x6 then (if x6 < (x0.length : Int) then ((leaf_Put.f (IntKind.u64.wrap ((IntKind.u64.wrap (x7 + 1)) + (IntKind.u64.wrap ((rd_T30 x0 x6).f0)))) ((rd_T30 x0 x6).f1)).bind fun bt329 => (if bt329.2 = 0 then (quittancelaw02_LeafTorn.j2 k x0 x3 x4 x5 x6 x7 (IntKind.u64.wrap ((IntKind.u64.wrap (x7 + 1)) + (IntKind.u64.wrap ((rd_T30 x0 x6).f0)))) bt329.1 (mn (mx ((rd_T30 x0 x6).f2) 0) 64) ((bt329.1.size : Int) != 64)) else (quittancelaw02_LeafTorn.j2 k x0 x3 x4 x5 x6 x7 (IntKind.u64.wrap ((IntKind.u64.wrap (x7 + 1)) + (IntKind.u64.wrap ((rd_T30 x0 x6).f0)))) bt329.1 (mn (mx ((rd_T30 x0 x6).f2) 0) 64) true))) else (none)) else (none))
def quittancelaw02_LeafTorn.j2 : Nat → List (S30) → ByteArray → Int → ByteArray → Int → Int → Int → ByteArray → Int → Bool → Option (Bool)
  | 0, _, _, _, _, _, _, _, _, _, _ => none
  | k + 1, x0, x3, x4, x5, x6, x7, x9, x10, x12, x79 => if x79 = true then (some false) else (if 0 ≤ x12 then (if x12 ≤ (x10.size : Int) then (if x12 ≤ (x3.size : Int) then (if (x10.extract 0 (x12 : Int).toNat).size + (x3.extract (x12 : Int).toNat x3.size).size ≤ 9223372036854775807 then (if x12 ≥ 8 then (if 0 ≤ x6 then (if x6 < (x0.length : Int) then ((quittanceref02_Full.f k ((rd_T30 x0 x6).f1)).bind fun t333 => (quittancelaw02_LeafTorn.j3 k x0 ((x10.extract 0 (x12 : Int).toNat) ++ (x3.extract (x12 : Int).toNat x3.size)) x9 t333 x6 x7 x12)) else (none)) else (none)) else (quittancelaw02_LeafTorn.j3 k x0 ((x10.extract 0 (x12 : Int).toNat) ++ (x3.extract (x12 : Int).toNat x3.size)) x4 x5 x6 x7 x12)) else (none)) else (none)) else (none)) else (none))
def quittancelaw02_LeafTorn.j3 : Nat → List (S30) → ByteArray → Int → ByteArray → Int → Int → Int → Option (Bool)
  | 0, _, _, _, _, _, _, _ => none
  | k + 1, x0, x3, x4, x5, x6, x7, x12 => (leaf_Ends.f x3).bind fun bt334 => ((leaf_Get.f x3).bind fun bt336 => (if bt334.1 < x7 then (some false) else (if bt334.1 < bt334.2 then (some false) else (if bt336.2.2 = true then (if bt336.1 = x4 then (if bt336.2.1.toList = x5.toList then (if x12 = 64 then (quittancelaw02_LeafTorn.l0 k x0 x3 x4 x5 (wrap64 (x6 + 1))) else (quittancelaw02_LeafTorn.l0 k x0 x3 x4 x5 (wrap64 (x6 + 1)))) else (some false)) else (some false)) else (if x12 = 64 then (some false) else (quittancelaw02_LeafTorn.l0 k x0 x3 x4 x5 (wrap64 (x6 + 1))))))))
end
def quittancelaw02_LeafTorn.f (k : Nat) (l0 : List (S30)) : Option (Bool) := if (l0.length : Int) > 100 then ((quittancelaw02_head.f k).bind fun t318 => (some t318)) else (if 64 ≤ 281474976710656 then (quittancelaw02_LeafTorn.l0 k l0 (strOfNums (List.replicate 64 0)) 0 (⟨#[]⟩ : ByteArray) 0) else (none))
theorem quittancelaw02_LeafTorn.mono_l : ∀ k, (∀ y0 y1 y2 y3 y4, LeO (quittancelaw02_LeafTorn.l0 k y0 y1 y2 y3 y4) (quittancelaw02_LeafTorn.l0 (k + 1) y0 y1 y2 y3 y4)) ∧ (∀ y0 y1 y2 y3 y4 y5 y6, LeO (quittancelaw02_LeafTorn.j1 k y0 y1 y2 y3 y4 y5 y6) (quittancelaw02_LeafTorn.j1 (k + 1) y0 y1 y2 y3 y4 y5 y6)) ∧ (∀ y0 y1 y2 y3 y4 y5 y6 y7 y8 y9, LeO (quittancelaw02_LeafTorn.j2 k y0 y1 y2 y3 y4 y5 y6 y7 y8 y9) (quittancelaw02_LeafTorn.j2 (k + 1) y0 y1 y2 y3 y4 y5 y6 y7 y8 y9)) ∧ (∀ y0 y1 y2 y3 y4 y5 y6, LeO (quittancelaw02_LeafTorn.j3 k y0 y1 y2 y3 y4 y5 y6) (quittancelaw02_LeafTorn.j3 (k + 1) y0 y1 y2 y3 y4 y5 y6))
  | 0 => ⟨fun _ _ _ _ _ r h => by simp [quittancelaw02_LeafTorn.l0] at h, fun _ _ _ _ _ _ _ r h => by simp [quittancelaw02_LeafTorn.j1] at h, fun _ _ _ _ _ _ _ _ _ _ r h => by simp [quittancelaw02_LeafTorn.j2] at h, fun _ _ _ _ _ _ _ r h => by simp [quittancelaw02_LeafTorn.j3] at h⟩
  | k + 1 => by
    obtain ⟨ih0, ih1, ih2, ih3⟩ := quittancelaw02_LeafTorn.mono_l k
    refine ⟨?_, ?_, ?_, ?_⟩
    · intro y0 y1 y2 y3 y4
      unfold quittancelaw02_LeafTorn.l0
      repeat' first
      | (with_reducible exact ih0 _ _ _ _ _)
      | (with_reducible exact ih1 _ _ _ _ _ _ _)
      | (with_reducible exact ih2 _ _ _ _ _ _ _ _ _ _)
      | (with_reducible exact ih3 _ _ _ _ _ _ _)
      | (with_reducible exact quittancelaw02_head.mono _)
      | (with_reducible exact quittanceref02_Full.mono _ _)
      | (with_reducible exact LeO.refl _)
      | (with_reducible exact LeO.none _)
      | (with_reducible refine LeO.ite ?_ ?_)
      | (with_reducible refine LeO.bind ?_ (fun _ => ?_))
      | exact ih0 _ _ _ _ _
      | exact ih1 _ _ _ _ _ _ _
      | exact ih2 _ _ _ _ _ _ _ _ _ _
      | exact ih3 _ _ _ _ _ _ _
      | exact quittancelaw02_head.mono _
      | exact quittanceref02_Full.mono _ _
      | exact LeO.none _
      | refine LeO.ite ?_ ?_
      | refine LeO.bind ?_ (fun _ => ?_)
    · intro y0 y1 y2 y3 y4 y5 y6
      unfold quittancelaw02_LeafTorn.j1
      repeat' first
      | (with_reducible exact ih0 _ _ _ _ _)
      | (with_reducible exact ih1 _ _ _ _ _ _ _)
      | (with_reducible exact ih2 _ _ _ _ _ _ _ _ _ _)
      | (with_reducible exact ih3 _ _ _ _ _ _ _)
      | (with_reducible exact quittancelaw02_head.mono _)
      | (with_reducible exact quittanceref02_Full.mono _ _)
      | (with_reducible exact LeO.refl _)
      | (with_reducible exact LeO.none _)
      | (with_reducible refine LeO.ite ?_ ?_)
      | (with_reducible refine LeO.bind ?_ (fun _ => ?_))
      | exact ih0 _ _ _ _ _
      | exact ih1 _ _ _ _ _ _ _
      | exact ih2 _ _ _ _ _ _ _ _ _ _
      | exact ih3 _ _ _ _ _ _ _
      | exact quittancelaw02_head.mono _
      | exact quittanceref02_Full.mono _ _
      | exact LeO.none _
      | refine LeO.ite ?_ ?_
      | refine LeO.bind ?_ (fun _ => ?_)
    · intro y0 y1 y2 y3 y4 y5 y6 y7 y8 y9
      unfold quittancelaw02_LeafTorn.j2
      repeat' first
      | (with_reducible exact ih0 _ _ _ _ _)
      | (with_reducible exact ih1 _ _ _ _ _ _ _)
      | (with_reducible exact ih2 _ _ _ _ _ _ _ _ _ _)
      | (with_reducible exact ih3 _ _ _ _ _ _ _)
      | (with_reducible exact quittancelaw02_head.mono _)
      | (with_reducible exact quittanceref02_Full.mono _ _)
      | (with_reducible exact LeO.refl _)
      | (with_reducible exact LeO.none _)
      | (with_reducible refine LeO.ite ?_ ?_)
      | (with_reducible refine LeO.bind ?_ (fun _ => ?_))
      | exact ih0 _ _ _ _ _
      | exact ih1 _ _ _ _ _ _ _
      | exact ih2 _ _ _ _ _ _ _ _ _ _
      | exact ih3 _ _ _ _ _ _ _
      | exact quittancelaw02_head.mono _
      | exact quittanceref02_Full.mono _ _
      | exact LeO.none _
      | refine LeO.ite ?_ ?_
      | refine LeO.bind ?_ (fun _ => ?_)
    · intro y0 y1 y2 y3 y4 y5 y6
      unfold quittancelaw02_LeafTorn.j3
      repeat' first
      | (with_reducible exact ih0 _ _ _ _ _)
      | (with_reducible exact ih1 _ _ _ _ _ _ _)
      | (with_reducible exact ih2 _ _ _ _ _ _ _ _ _ _)
      | (with_reducible exact ih3 _ _ _ _ _ _ _)
      | (with_reducible exact quittancelaw02_head.mono _)
      | (with_reducible exact quittanceref02_Full.mono _ _)
      | (with_reducible exact LeO.refl _)
      | (with_reducible exact LeO.none _)
      | (with_reducible refine LeO.ite ?_ ?_)
      | (with_reducible refine LeO.bind ?_ (fun _ => ?_))
      | exact ih0 _ _ _ _ _
      | exact ih1 _ _ _ _ _ _ _
      | exact ih2 _ _ _ _ _ _ _ _ _ _
      | exact ih3 _ _ _ _ _ _ _
      | exact quittancelaw02_head.mono _
      | exact quittanceref02_Full.mono _ _
      | exact LeO.none _
      | refine LeO.ite ?_ ?_
      | refine LeO.bind ?_ (fun _ => ?_)
theorem quittancelaw02_LeafTorn.mono : ∀ a0 k, LeO (quittancelaw02_LeafTorn.f k a0) (quittancelaw02_LeafTorn.f (k + 1) a0) := by
  intro a0 k
  obtain ⟨ih0, ih1, ih2, ih3⟩ := quittancelaw02_LeafTorn.mono_l k
  unfold quittancelaw02_LeafTorn.f
  repeat' first
      | (with_reducible exact ih0 _ _ _ _ _)
      | (with_reducible exact ih1 _ _ _ _ _ _ _)
      | (with_reducible exact ih2 _ _ _ _ _ _ _ _ _ _)
      | (with_reducible exact ih3 _ _ _ _ _ _ _)
      | (with_reducible exact quittancelaw02_head.mono _)
      | (with_reducible exact quittanceref02_Full.mono _ _)
      | (with_reducible exact LeO.refl _)
      | (with_reducible exact LeO.none _)
      | (with_reducible refine LeO.ite ?_ ?_)
      | (with_reducible refine LeO.bind ?_ (fun _ => ?_))
      | exact ih0 _ _ _ _ _
      | exact ih1 _ _ _ _ _ _ _
      | exact ih2 _ _ _ _ _ _ _ _ _ _
      | exact ih3 _ _ _ _ _ _ _
      | exact quittancelaw02_head.mono _
      | exact quittanceref02_Full.mono _ _
      | exact LeO.none _
      | refine LeO.ite ?_ ?_
      | refine LeO.bind ?_ (fun _ => ?_)
set_option maxHeartbeats 8000000 in
set_option maxRecDepth 100000 in
theorem quittancelaw02_LeafTorn.calls (k : Nat) (A0 : Option Addr) (c0 : Nat) (l0 : List (S30)) (r : Bool) (w : World) (hr0 : Kd.C k30 w A0 l0.length l0) (hc0 : l0.length ≤ c0) (h : quittancelaw02_LeafTorn.f k l0 = some r) :
    Calls Try.prog 3 #[.slice A0 l0.length c0] w fun e w' => e = .returned (.bool r) ∧ Below w.heap.size w w' := by
  have HR0 := Aside0.mk hr0
  have HC0 := Aside0.mk hc0
  clear hr0 hc0
  have HB := Aside0.mk (Below.refl w.heap.size w)
  have H : (if (l0.length : Int) > 100 then ((quittancelaw02_head.f k).bind fun t318 => (some t318)) else (if 64 ≤ 281474976710656 then (quittancelaw02_LeafTorn.l0 k l0 (strOfNums (List.replicate 64 0)) 0 (⟨#[]⟩ : ByteArray) 0) else (none))) = some r := h
  clear h
  by_cases c2 : (l0.length : Int) > 100
  · rw [if_pos c2] at H
    have c2b0 : decide (100 < (l0.length : Int)) = true := decide_eq_true c2
    have c2b1 : decide (100 < l0.length) = true := decide_eq_true (by omega)
    clear c2
    replace H := Option.bind_eq_some_iff.mp H
    obtain ⟨t318, A30, H⟩ := H
    replace H : (some t318) = some r := H
    have A3 := Aside0.mk A30
    clear A30
    obtain rfl := Option.some.inj H
    go_enter Try.func3, Try.ntmps3
    go_wp2_with (first | (go_at_call 10; (with_reducible refine (quittancelaw02_head.calls k  t318 _ A3.out).mono ?_); rintro e w4 ⟨rfl, hb⟩; have n0_ := Aside0.mk (below_step (by repeat (first | (with_reducible first | exact HB.out | apply below_alloc | apply pw_below_drewN | apply below_drew1) | exact HB.out)) hb); clear HB; have HB := n0_; clear n0_; (try clear hb); (try clear hb2); (try clear hk); (try clear hi)))
    repeat (go_quiet (first | (go_at_call 10; (with_reducible refine (quittancelaw02_head.calls k  t318 _ A3.out).mono ?_); rintro e w4 ⟨rfl, hb⟩; have n0_ := Aside0.mk (below_step (by repeat (first | (with_reducible first | exact HB.out | apply below_alloc | apply pw_below_drewN | apply below_drew1) | exact HB.out)) hb); clear HB; have HB := n0_; clear n0_; (try clear hb); (try clear hb2); (try clear hk); (try clear hi))); try go_wp2_with (first | (go_at_call 10; (with_reducible refine (quittancelaw02_head.calls k  t318 _ A3.out).mono ?_); rintro e w4 ⟨rfl, hb⟩; have n0_ := Aside0.mk (below_step (by repeat (first | (with_reducible first | exact HB.out | apply below_alloc | apply pw_below_drewN | apply below_drew1) | exact HB.out)) hb); clear HB; have HB := n0_; clear n0_; (try clear hb); (try clear hb2); (try clear hk); (try clear hi))))
    go_ret
    exact ⟨by first | rfl | (simp [errW_none, errW_some] <;> rfl) | (simp [*, errW_none, errW_some] <;> rfl), by repeat (first | (with_reducible first | exact HB.out | apply below_alloc | apply pw_below_drewN | apply below_drew1) | exact HB.out)⟩
  · rw [if_neg c2] at H
    have c2b0 : decide (100 < (l0.length : Int)) = false := decide_eq_false c2
    have c2b1 : decide (100 < l0.length) = false := decide_eq_false (by omega)
    clear c2
    by_cases c5 : 64 ≤ 281474976710656
    · rw [if_pos c5] at H
      have c5b0 := eq_true c5
      have c5b1 : decide (64 ≤ 281474976710656) = true := decide_eq_true c5
      clear c5
      obtain ⟨y319, hy319⟩ : ∃ y_ : List Int, y_ = (List.replicate 64 0) := ⟨_, rfl⟩
      replace H : (quittancelaw02_LeafTorn.l0 k l0 (strOfNums y319) 0 (⟨#[]⟩ : ByteArray) 0) = some r := by first | (rw [hy319]; with_reducible exact H) | (have H2_ := (Option.bind_some _ _).symm.trans H; rw [hy319]; with_reducible exact H2_) | (have H2_ := (Option.bind_some _ _).symm.trans H; with_reducible exact H2_) | with_reducible exact H | (rw [hy319]; exact H) | exact H
      have Ny319 := Aside0.mk hy319
      clear hy319
      have H' := Aside0.mk H
      clear H
      go_enter Try.func3, Try.ntmps3
      go_wp2_with (first | ((with_reducible refine gate_dst (N := 22) rfl ?_); (try (refine gate_guard (by rfl) ?_; dsimp only)); refine Kd.R_make (Kd.int .u8) _ 5 rfl (N := 22) rfl 24 _ _ rfl 64 rfl rfl Try.underlying24 (.int .u8 0) 1 info5 rfl (by decide) (by omega) 0 (ok := fun _ => True) (okp := fun _ => True) rfl (fun _ hk => hk) trivial (by omega) (by omega) (Below.refl _ _) (Nat.le_refl _) ?_; intro v320 w6 ho7 hb hg_ hnew_; clear hg_ hnew_; (first | rw [← Ny319.out] at ho7 | (simp only [Int.reduceToNat] at ho7; rw [← Ny319.out] at ho7)); have n0_ := Aside0.mk (Kd.R_lower ho7 (below_size (by repeat (first | (with_reducible first | exact HB.out | apply below_alloc | apply pw_below_drewN | apply below_drew1) | exact HB.out)))); have n1_ := Aside0.mk (below_step (by repeat (first | (with_reducible first | exact HB.out | apply below_alloc | apply pw_below_drewN | apply below_drew1) | exact HB.out)) hb); clear HB; have HO321 := n0_; have HB := n1_; clear n0_ n1_; clear hb ho7; have hcv8 := own_string (P := Try.prog) Try.underlying24 Try.underlying5 Try.underlying9 (Kd.own_of_R HO321.out)))
      repeat (go_quiet (first | ((with_reducible refine gate_dst (N := 22) rfl ?_); (try (refine gate_guard (by rfl) ?_; dsimp only)); refine Kd.R_make (Kd.int .u8) _ 5 rfl (N := 22) rfl 24 _ _ rfl 64 rfl rfl Try.underlying24 (.int .u8 0) 1 info5 rfl (by decide) (by omega) 0 (ok := fun _ => True) (okp := fun _ => True) rfl (fun _ hk => hk) trivial (by omega) (by omega) (Below.refl _ _) (Nat.le_refl _) ?_; intro v320 w6 ho7 hb hg_ hnew_; clear hg_ hnew_; (first | rw [← Ny319.out] at ho7 | (simp only [Int.reduceToNat] at ho7; rw [← Ny319.out] at ho7)); have n0_ := Aside0.mk (Kd.R_lower ho7 (below_size (by repeat (first | (with_reducible first | exact HB.out | apply below_alloc | apply pw_below_drewN | apply below_drew1) | exact HB.out)))); have n1_ := Aside0.mk (below_step (by repeat (first | (with_reducible first | exact HB.out | apply below_alloc | apply pw_below_drewN | apply below_drew1) | exact HB.out)) hb); clear HB; have HO321 := n0_; have HB := n1_; clear n0_ n1_; clear hb ho7; have hcv8 := own_string (P := Try.prog) Try.underlying24 Try.underlying5 Try.underlying9 (Kd.own_of_R HO321.out))); try go_wp2_with (first | ((with_reducible refine gate_dst (N := 22) rfl ?_); (try (refine gate_guard (by rfl) ?_; dsimp only)); refine Kd.R_make (Kd.int .u8) _ 5 rfl (N := 22) rfl 24 _ _ rfl 64 rfl rfl Try.underlying24 (.int .u8 0) 1 info5 rfl (by decide) (by omega) 0 (ok := fun _ => True) (okp := fun _ => True) rfl (fun _ hk => hk) trivial (by omega) (by omega) (Below.refl _ _) (Nat.le_refl _) ?_; intro v320 w6 ho7 hb hg_ hnew_; clear hg_ hnew_; (first | rw [← Ny319.out] at ho7 | (simp only [Int.reduceToNat] at ho7; rw [← Ny319.out] at ho7)); have n0_ := Aside0.mk (Kd.R_lower ho7 (below_size (by repeat (first | (with_reducible first | exact HB.out | apply below_alloc | apply pw_below_drewN | apply below_drew1) | exact HB.out)))); have n1_ := Aside0.mk (below_step (by repeat (first | (with_reducible first | exact HB.out | apply below_alloc | apply pw_below_drewN | apply below_drew1) | exact HB.out)) hb); clear HB; have HO321 := n0_; have HB := n1_; clear n0_ n1_; clear hb ho7; have hcv8 := own_string (P := Try.prog) Try.underlying24 Try.underlying5 Try.underlying9 (Kd.own_of_R HO321.out))))
      go_loopg [3, 4, 5, 6] k (fun kq v3 v4 v5 v6 w' => ∃ (x3_1 : ByteArray) (x4_1 : Int) (x5_1 : ByteArray) (x6_1 : Int), v3 = .string x3_1 ∧ v4 = .int .u64 x4_1 ∧ v5 = .string x5_1 ∧ v6 = .int .i64 x6_1 ∧ Aside0 (quittancelaw02_LeafTorn.l0 kq l0 x3_1 x4_1 x5_1 x6_1 = some r) ∧ Aside0 (kq ≤ k) ∧ Aside0 (Below w.heap.size w w'))
      case atStart => exact ⟨(strOfNums y319), (0), ((⟨#[]⟩ : ByteArray)), (0), (by first | rfl | (simp; done) | (simp [*]; done)), (by first | rfl | (simp; done) | (simp [*]; done)), (by first | rfl | (simp; done) | (simp [*]; done)), (by first | rfl | (simp; done) | (simp [*]; done)), H', ⟨Nat.le_refl _⟩, ⟨by repeat (first | (with_reducible first | exact HB.out | apply below_alloc | apply pw_below_drewN | apply below_drew1) | exact HB.out)⟩⟩
      case round =>
        clear H'
        try clear c2
        try clear c2b0
        try clear c2b1
        try clear p2
        try clear c3
        try clear c5
        try clear c5b0
        try clear c5b1
        try clear hcv8
        obtain ⟨x3_1, x4_1, x5_1, x6_1, rfl, rfl, rfl, rfl, HA, HK1, HB⟩ := hrel
        cases gk with
        | zero => exact absurd HA.out (by simp [quittancelaw02_LeafTorn.l0])
        | succ k1 =>
          have H := HA.out
          clear HA
          simp only [quittancelaw02_LeafTorn.l0] at H
          by_cases c9 : x6_1 < (l0.length : Int)
          · rw [if_pos c9] at H
            have c9b0 : decide (x6_1 < (l0.length : Int)) = true := decide_eq_true c9
            clear c9
            replace H := Option.bind_eq_some_iff.mp H
            obtain ⟨⟨t323, t324⟩, A100, H⟩ := H
            replace H : (if t323 ≥ 9223372036854775808 then (quittancelaw02_LeafTorn.j1 k1 l0 x3_1 x4_1 x5_1 x6_1 t323 true) else (if 0 ≤ x6_1 then (quittancelaw02_LeafTorn.j1 k1 l0 x3_1 x4_1 x5_1 x6_1 t323 (decide ((((rd_T30 l0 x6_1).f1).size : Int) > 48))) else (none))) = some r := H
            have A10 := Aside0.mk A100
            clear A100
            have HC11 := Aside0.mk H
            clear H
            go_upto_region 9 with (first | (go_at_call 11; (with_reducible refine (leaf_Ends.calls x3_1 t323 t324 _ A10.out).mono ?_); rintro e w12 ⟨rfl, hb⟩; have n0_ := Aside0.mk (below_step (by repeat (first | (with_reducible first | exact HB.out | apply below_alloc | apply pw_below_drewN | apply below_drew1) | exact HB.out)) hb); clear HB; have HB := n0_; clear n0_; (try clear hb); (try clear hb2); (try clear hk); (try clear hi)))
            repeat (go_quiet (first | (go_at_call 11; (with_reducible refine (leaf_Ends.calls x3_1 t323 t324 _ A10.out).mono ?_); rintro e w12 ⟨rfl, hb⟩; have n0_ := Aside0.mk (below_step (by repeat (first | (with_reducible first | exact HB.out | apply below_alloc | apply pw_below_drewN | apply below_drew1) | exact HB.out)) hb); clear HB; have HB := n0_; clear n0_; (try clear hb); (try clear hb2); (try clear hk); (try clear hi))); go_upto_region 9 with (first | (go_at_call 11; (with_reducible refine (leaf_Ends.calls x3_1 t323 t324 _ A10.out).mono ?_); rintro e w12 ⟨rfl, hb⟩; have n0_ := Aside0.mk (below_step (by repeat (first | (with_reducible first | exact HB.out | apply below_alloc | apply pw_below_drewN | apply below_drew1) | exact HB.out)) hb); clear HB; have HB := n0_; clear n0_; (try clear hb); (try clear hb2); (try clear hk); (try clear hi))))
            (try simp only [Act.put, List.setIfInBounds_toArray, List.set_cons_zero, List.set_cons_succ])
            go_cut [45] (fun v45 wc => ∃ (kq : Nat) (x45_10 : Bool), v45 = .bool x45_10 ∧ Aside0 (quittancelaw02_LeafTorn.j1 kq l0 x3_1 x4_1 x5_1 x6_1 t323 x45_10 = some r) ∧ Aside0 (kq ≤ k1) ∧ Aside0 (Below w.heap.size w wc))
            case first =>
              have H := HC11.out
              clear HC11
              by_cases c13 : t323 ≥ 9223372036854775808
              · rw [if_pos c13] at H
                have c13b0 : decide (9223372036854775808 ≤ t323) = true := decide_eq_true c13
                clear c13
                (first | rw [c13b0] | (simp only [i64_w, i32_w]; rw [c13b0]) | skip)
                have H' := Aside0.mk H
                clear H
                go_wp2
                repeat (go_quiet (fail); try go_wp2)
                go_meet
                case rel => exact ⟨_, (true), (by first | rfl | (simp; done) | (simp [*]; done)), H', ⟨by have := HK1.out; first | omega | exact Nat.le_refl _⟩, ⟨by repeat (first | (with_reducible first | exact HB.out | apply below_alloc | apply pw_below_drewN | apply below_drew1) | exact HB.out)⟩⟩
              · rw [if_neg c13] at H
                have c13b0 : decide (9223372036854775808 ≤ t323) = false := decide_eq_false c13
                clear c13
                (first | rw [c13b0] | (simp only [i64_w, i32_w]; rw [c13b0]) | skip)
                by_cases c14 : 0 ≤ x6_1
                · rw [if_pos c14] at H
                  have c14b0 : decide (0 ≤ x6_1) = true := decide_eq_true c14
                  clear c14
                  have H' := Aside0.mk H
                  clear H
                  have p325 : 0 ≤ (x6_1 : Int) := of_decide_eq_true (by first | (with_reducible assumption) | assumption)
                  have q325 : x6_1 < (l0.length : Int) := of_decide_eq_true (by first | (with_reducible assumption) | assumption)
                  obtain ⟨ad325, e325, hx325_0, hx325_1, hx325_2⟩ := at_T30 HR0.out x6_1 p325 q325
                  cases e325
                  replace hx325_0 := (HB.out.cell (World.block_lt_of_cell? w _ hx325_0)).trans hx325_0
                  replace hx325_1 := (HB.out.cell (World.block_lt_of_cell? w _ hx325_1)).trans hx325_1
                  replace hx325_2 := (HB.out.cell (World.block_lt_of_cell? w _ hx325_2)).trans hx325_2
                  replace p325 := eq_true p325
                  replace q325 := eq_true q325
                  go_wp2
                  repeat (go_quiet (fail); try go_wp2)
                  go_meet
                  case rel => exact ⟨_, (decide ((((rd_T30 l0 x6_1).f1).size : Int) > 48)), (by first | rfl | (simp; done) | (simp [*]; done)), H', ⟨by have := HK1.out; first | omega | exact Nat.le_refl _⟩, ⟨by repeat (first | (with_reducible first | exact HB.out | apply below_alloc | apply pw_below_drewN | apply below_drew1) | exact HB.out)⟩⟩
                · rw [if_neg c14] at H
                  exact absurd H (by simp)
            case rest =>
              clear HC11
              try clear c1
              try clear c2
              try clear c2b0
              try clear c2b1
              try clear p2
              try clear c3
              try clear p3
              try clear q3
              try clear hx3
              try clear c5
              try clear c5b0
              try clear c5b1
              try clear hcv8
              try clear c9
              try clear c9b0
              try clear c13
              try clear c13b0
              try clear c14
              try clear c14b0
              try clear hx325_0
              try clear hx325_1
              try clear hx325_2
              try clear p2
              try clear p325
              try clear q325
              obtain ⟨kq, x45_10, rfl, HA, HJ10, HB⟩ := hcut
              cases kq with
              | zero => exact absurd HA.out (by simp [quittancelaw02_LeafTorn.j1])
              | succ kj10 =>
                have H := HA.out
                clear HA
                simp only [quittancelaw02_LeafTorn.j1] at H
                by_cases c15 : x45_10 = true
                · subst c15
                  have H1 : ((quittancelaw02_head.f kj10).bind fun t326 => (some t326)) = some r := by rw [if_pos rfl] at H; exact H
                  clear H
                  have H := H1
                  clear H1
                  replace H := Option.bind_eq_some_iff.mp H
                  obtain ⟨t326, A160, H⟩ := H
                  replace H : (some t326) = some r := H
                  have A16 := Aside0.mk A160
                  clear A160
                  obtain rfl := Option.some.inj H
                  go_wp2_with (first | (go_at_call 10; (with_reducible refine (quittancelaw02_head.calls kj10  t326 _ A16.out).mono ?_); rintro e w17 ⟨rfl, hb⟩; have n0_ := Aside0.mk (below_step (by repeat (first | (with_reducible first | exact HB.out | apply below_alloc | apply pw_below_drewN | apply below_drew1) | exact HB.out)) hb); clear HB; have HB := n0_; clear n0_; (try clear hb); (try clear hb2); (try clear hk); (try clear hi)))
                  repeat (go_quiet (first | (go_at_call 10; (with_reducible refine (quittancelaw02_head.calls kj10  t326 _ A16.out).mono ?_); rintro e w17 ⟨rfl, hb⟩; have n0_ := Aside0.mk (below_step (by repeat (first | (with_reducible first | exact HB.out | apply below_alloc | apply pw_below_drewN | apply below_drew1) | exact HB.out)) hb); clear HB; have HB := n0_; clear n0_; (try clear hb); (try clear hb2); (try clear hk); (try clear hi))); try go_wp2_with (first | (go_at_call 10; (with_reducible refine (quittancelaw02_head.calls kj10  t326 _ A16.out).mono ?_); rintro e w17 ⟨rfl, hb⟩; have n0_ := Aside0.mk (below_step (by repeat (first | (with_reducible first | exact HB.out | apply below_alloc | apply pw_below_drewN | apply below_drew1) | exact HB.out)) hb); clear HB; have HB := n0_; clear n0_; (try clear hb); (try clear hb2); (try clear hk); (try clear hi))))
                  go_ret
                  exact ⟨by first | rfl | (simp [errW_none, errW_some] <;> rfl) | (simp [*, errW_none, errW_some] <;> rfl), by repeat (first | (with_reducible first | exact HB.out | apply below_alloc | apply pw_below_drewN | apply below_drew1) | exact HB.out)⟩
                · replace c15 := Bool.eq_false_iff.mpr c15
                  subst c15
                  have H1 : (if 0 ≤ x6_1 then (if x6_1 < (l0.length : Int) then ((leaf_Put.f (IntKind.u64.wrap ((IntKind.u64.wrap (t323 + 1)) + (IntKind.u64.wrap ((rd_T30 l0 x6_1).f0)))) ((rd_T30 l0 x6_1).f1)).bind fun bt329 => (if bt329.2 = 0 then (quittancelaw02_LeafTorn.j2 kj10 l0 x3_1 x4_1 x5_1 x6_1 t323 (IntKind.u64.wrap ((IntKind.u64.wrap (t323 + 1)) + (IntKind.u64.wrap ((rd_T30 l0 x6_1).f0)))) bt329.1 (mn (mx ((rd_T30 l0 x6_1).f2) 0) 64) ((bt329.1.size : Int) != 64)) else (quittancelaw02_LeafTorn.j2 kj10 l0 x3_1 x4_1 x5_1 x6_1 t323 (IntKind.u64.wrap ((IntKind.u64.wrap (t323 + 1)) + (IntKind.u64.wrap ((rd_T30 l0 x6_1).f0)))) bt329.1 (mn (mx ((rd_T30 l0 x6_1).f2) 0) 64) true))) else (none)) else (none)) = some r := by rw [if_neg (show ¬ (false = true) by decide)] at H; exact H
                  clear H
                  have H := H1
                  clear H1
                  by_cases c18 : 0 ≤ x6_1
                  · rw [if_pos c18] at H
                    have c18b0 : decide (0 ≤ x6_1) = true := decide_eq_true c18
                    clear c18
                    by_cases c19 : x6_1 < (l0.length : Int)
                    · rw [if_pos c19] at H
                      have c19b0 : decide (x6_1 < (l0.length : Int)) = true := decide_eq_true c19
                      clear c19
                      replace H := Option.bind_eq_some_iff.mp H
                      obtain ⟨⟨t329, t330⟩, A200, H⟩ := H
                      replace H : (if t330 = 0 then (quittancelaw02_LeafTorn.j2 kj10 l0 x3_1 x4_1 x5_1 x6_1 t323 (IntKind.u64.wrap ((IntKind.u64.wrap (t323 + 1)) + (IntKind.u64.wrap ((rd_T30 l0 x6_1).f0)))) t329 (mn (mx ((rd_T30 l0 x6_1).f2) 0) 64) ((t329.size : Int) != 64)) else (quittancelaw02_LeafTorn.j2 kj10 l0 x3_1 x4_1 x5_1 x6_1 t323 (IntKind.u64.wrap ((IntKind.u64.wrap (t323 + 1)) + (IntKind.u64.wrap ((rd_T30 l0 x6_1).f0)))) t329 (mn (mx ((rd_T30 l0 x6_1).f2) 0) 64) true)) = some r := H
                      have A20 := Aside0.mk A200
                      clear A200
                      obtain ⟨ji21, hji21⟩ : ∃ j_ : Int, (mx ((rd_T30 l0 x6_1).f2) 0) = j_ := ⟨_, rfl⟩
                      replace H : (if t330 = 0 then (quittancelaw02_LeafTorn.j2 kj10 l0 x3_1 x4_1 x5_1 x6_1 t323 (IntKind.u64.wrap ((IntKind.u64.wrap (t323 + 1)) + (IntKind.u64.wrap ((rd_T30 l0 x6_1).f0)))) t329 (mn (ji21) 64) ((t329.size : Int) != 64)) else (quittancelaw02_LeafTorn.j2 kj10 l0 x3_1 x4_1 x5_1 x6_1 t323 (IntKind.u64.wrap ((IntKind.u64.wrap (t323 + 1)) + (IntKind.u64.wrap ((rd_T30 l0 x6_1).f0)))) t329 (mn (ji21) 64) true)) = some r := by first | (rw [hji21] at H; exact H) | (simp only [hji21] at H ⊢; exact H)
                      (try rw [hji21] at A20)
                      have hji21_ : (if ((rd_T30 l0 x6_1).f2) < 0 then 0 else ((rd_T30 l0 x6_1).f2)) = ji21 := hji21
                      obtain ⟨ji22, hji22⟩ : ∃ j_ : Int, (mn (ji21) 64) = j_ := ⟨_, rfl⟩
                      replace H : (if t330 = 0 then (quittancelaw02_LeafTorn.j2 kj10 l0 x3_1 x4_1 x5_1 x6_1 t323 (IntKind.u64.wrap ((IntKind.u64.wrap (t323 + 1)) + (IntKind.u64.wrap ((rd_T30 l0 x6_1).f0)))) t329 ji22 ((t329.size : Int) != 64)) else (quittancelaw02_LeafTorn.j2 kj10 l0 x3_1 x4_1 x5_1 x6_1 t323 (IntKind.u64.wrap ((IntKind.u64.wrap (t323 + 1)) + (IntKind.u64.wrap ((rd_T30 l0 x6_1).f0)))) t329 ji22 true)) = some r := by first | (rw [hji22] at H; exact H) | (simp only [hji22] at H ⊢; exact H)
                      (try rw [hji22] at A20)
                      have hji22_ : (if 64 < (ji21) then 64 else (ji21)) = ji22 := hji22
                      have HC23 := Aside0.mk H
                      clear H
                      have p327 : 0 ≤ (x6_1 : Int) := of_decide_eq_true (by first | (with_reducible assumption) | assumption)
                      have q327 : x6_1 < (l0.length : Int) := of_decide_eq_true (by first | (with_reducible assumption) | assumption)
                      obtain ⟨ad327, e327, hx327_0, hx327_1, hx327_2⟩ := at_T30 HR0.out x6_1 p327 q327
                      cases e327
                      replace hx327_0 := (HB.out.cell (World.block_lt_of_cell? w _ hx327_0)).trans hx327_0
                      replace hx327_1 := (HB.out.cell (World.block_lt_of_cell? w _ hx327_1)).trans hx327_1
                      replace hx327_2 := (HB.out.cell (World.block_lt_of_cell? w _ hx327_2)).trans hx327_2
                      replace p327 := eq_true p327
                      replace q327 := eq_true q327
                      have p328 : 0 ≤ (x6_1 : Int) := of_decide_eq_true (by first | (with_reducible assumption) | assumption)
                      have q328 : x6_1 < (l0.length : Int) := of_decide_eq_true (by first | (with_reducible assumption) | assumption)
                      obtain ⟨ad328, e328, hx328_0, hx328_1, hx328_2⟩ := at_T30 HR0.out x6_1 p328 q328
                      obtain rfl : ad327 = ad328 := (by injection e328)
                      replace hx328_0 := (HB.out.cell (World.block_lt_of_cell? w _ hx328_0)).trans hx328_0
                      replace hx328_1 := (HB.out.cell (World.block_lt_of_cell? w _ hx328_1)).trans hx328_1
                      replace hx328_2 := (HB.out.cell (World.block_lt_of_cell? w _ hx328_2)).trans hx328_2
                      replace p328 := eq_true p328
                      replace q328 := eq_true q328
                      go_upto_region 14 with (first | (go_at_call 12; (with_reducible refine (leaf_Put.calls (IntKind.u64.wrap ((IntKind.u64.wrap (t323 + 1)) + (IntKind.u64.wrap ((rd_T30 l0 x6_1).f0)))) ((rd_T30 l0 x6_1).f1) t329 t330 _ A20.out).mono ?_); rintro e w24 ⟨rfl, hb⟩; have n0_ := Aside0.mk (below_step (by repeat (first | (with_reducible first | exact HB.out | apply below_alloc | apply pw_below_drewN | apply below_drew1) | exact HB.out)) hb); clear HB; have HB := n0_; clear n0_; (try clear hb); (try clear hb2); (try clear hk); (try clear hi); have p331 : 0 ≤ (x6_1 : Int) := of_decide_eq_true (by first | (with_reducible assumption) | assumption); have q331 : x6_1 < (l0.length : Int) := of_decide_eq_true (by first | (with_reducible assumption) | assumption); obtain ⟨ad331, e331, hx331_0, hx331_1, hx331_2⟩ := at_T30 HR0.out x6_1 p331 q331; obtain rfl : ad327 = ad331 := (by injection e331); replace hx331_0 := (HB.out.cell (World.block_lt_of_cell? w _ hx331_0)).trans hx331_0; replace hx331_1 := (HB.out.cell (World.block_lt_of_cell? w _ hx331_1)).trans hx331_1; replace hx331_2 := (HB.out.cell (World.block_lt_of_cell? w _ hx331_2)).trans hx331_2; replace p331 := eq_true p331; replace q331 := eq_true q331))
                      repeat (go_quiet (first | (go_at_call 12; (with_reducible refine (leaf_Put.calls (IntKind.u64.wrap ((IntKind.u64.wrap (t323 + 1)) + (IntKind.u64.wrap ((rd_T30 l0 x6_1).f0)))) ((rd_T30 l0 x6_1).f1) t329 t330 _ A20.out).mono ?_); rintro e w24 ⟨rfl, hb⟩; have n0_ := Aside0.mk (below_step (by repeat (first | (with_reducible first | exact HB.out | apply below_alloc | apply pw_below_drewN | apply below_drew1) | exact HB.out)) hb); clear HB; have HB := n0_; clear n0_; (try clear hb); (try clear hb2); (try clear hk); (try clear hi); have p331 : 0 ≤ (x6_1 : Int) := of_decide_eq_true (by first | (with_reducible assumption) | assumption); have q331 : x6_1 < (l0.length : Int) := of_decide_eq_true (by first | (with_reducible assumption) | assumption); obtain ⟨ad331, e331, hx331_0, hx331_1, hx331_2⟩ := at_T30 HR0.out x6_1 p331 q331; obtain rfl : ad327 = ad331 := (by injection e331); replace hx331_0 := (HB.out.cell (World.block_lt_of_cell? w _ hx331_0)).trans hx331_0; replace hx331_1 := (HB.out.cell (World.block_lt_of_cell? w _ hx331_1)).trans hx331_1; replace hx331_2 := (HB.out.cell (World.block_lt_of_cell? w _ hx331_2)).trans hx331_2; replace p331 := eq_true p331; replace q331 := eq_true q331)); go_upto_region 14 with (first | (go_at_call 12; (with_reducible refine (leaf_Put.calls (IntKind.u64.wrap ((IntKind.u64.wrap (t323 + 1)) + (IntKind.u64.wrap ((rd_T30 l0 x6_1).f0)))) ((rd_T30 l0 x6_1).f1) t329 t330 _ A20.out).mono ?_); rintro e w24 ⟨rfl, hb⟩; have n0_ := Aside0.mk (below_step (by repeat (first | (with_reducible first | exact HB.out | apply below_alloc | apply pw_below_drewN | apply below_drew1) | exact HB.out)) hb); clear HB; have HB := n0_; clear n0_; (try clear hb); (try clear hb2); (try clear hk); (try clear hi); have p331 : 0 ≤ (x6_1 : Int) := of_decide_eq_true (by first | (with_reducible assumption) | assumption); have q331 : x6_1 < (l0.length : Int) := of_decide_eq_true (by first | (with_reducible assumption) | assumption); obtain ⟨ad331, e331, hx331_0, hx331_1, hx331_2⟩ := at_T30 HR0.out x6_1 p331 q331; obtain rfl : ad327 = ad331 := (by injection e331); replace hx331_0 := (HB.out.cell (World.block_lt_of_cell? w _ hx331_0)).trans hx331_0; replace hx331_1 := (HB.out.cell (World.block_lt_of_cell? w _ hx331_1)).trans hx331_1; replace hx331_2 := (HB.out.cell (World.block_lt_of_cell? w _ hx331_2)).trans hx331_2; replace p331 := eq_true p331; replace q331 := eq_true q331)))
                      (try simp only [Act.put, List.setIfInBounds_toArray, List.set_cons_zero, List.set_cons_succ])
                      go_cut [79] (fun v79 wc => ∃ (kq : Nat) (x79_22 : Bool), v79 = .bool x79_22 ∧ Aside0 (quittancelaw02_LeafTorn.j2 kq l0 x3_1 x4_1 x5_1 x6_1 t323 (IntKind.u64.wrap ((IntKind.u64.wrap (t323 + 1)) + (IntKind.u64.wrap ((rd_T30 l0 x6_1).f0)))) t329 ji22 x79_22 = some r) ∧ Aside0 (kq ≤ kj10) ∧ Aside0 (Below w.heap.size w wc))
                      case first =>
                        have H := HC23.out
                        clear HC23
                        by_cases c25 : t330 = 0
                        · rw [if_pos c25] at H
                          have c25b0 : (t330 == 0) = true := beq_iff_eq.mpr c25
                          have c25b1 : (t330 != 0) = false := bne_eq_false_iff_eq.mpr c25
                          clear c25
                          (first | rw [c25b0] | (simp only [i64_w, i32_w]; rw [c25b0]) | skip)
                          have H' := Aside0.mk H
                          clear H
                          go_wp2
                          repeat (go_quiet (fail); try go_wp2)
                          go_meet
                          case rel => exact ⟨_, (((t329.size : Int) != 64)), (by first | rfl | (simp; done) | (simp [*]; done)), H', ⟨by have := HK1.out; have := HJ10.out; first | omega | exact Nat.le_refl _⟩, ⟨by repeat (first | (with_reducible first | exact HB.out | apply below_alloc | apply pw_below_drewN | apply below_drew1) | exact HB.out)⟩⟩
                        · rw [if_neg c25] at H
                          have c25b0 : (t330 == 0) = false := beq_eq_false_iff_ne.mpr c25
                          have c25b1 : (t330 != 0) = true := bne_iff_ne.mpr c25
                          (first | rw [c25b0] | (simp only [i64_w, i32_w]; rw [c25b0]) | skip)
                          have H' := Aside0.mk H
                          clear H
                          go_wp2
                          repeat (go_quiet (fail); try go_wp2)
                          go_meet
                          case rel => exact ⟨_, (true), (by first | rfl | (simp; done) | (simp [*]; done)), H', ⟨by have := HK1.out; have := HJ10.out; first | omega | exact Nat.le_refl _⟩, ⟨by repeat (first | (with_reducible first | exact HB.out | apply below_alloc | apply pw_below_drewN | apply below_drew1) | exact HB.out)⟩⟩
                      case rest =>
                        clear HC23
                        try clear c1
                        try clear c2
                        try clear c2b0
                        try clear c2b1
                        try clear p2
                        try clear c3
                        try clear p3
                        try clear q3
                        try clear hx3
                        try clear c5
                        try clear c5b0
                        try clear c5b1
                        try clear hcv8
                        try clear c9
                        try clear c9b0
                        try clear c13
                        try clear c13b0
                        try clear c14
                        try clear c14b0
                        try clear c15
                        try clear c18
                        try clear c18b0
                        try clear c19
                        try clear c19b0
                        try clear c25
                        try clear c25b0
                        try clear c25b1
                        try clear hx325_0
                        try clear hx325_1
                        try clear hx325_2
                        try clear hx327_0
                        try clear hx327_1
                        try clear hx327_2
                        try clear hx328_0
                        try clear hx328_1
                        try clear hx328_2
                        try clear hx331_0
                        try clear hx331_1
                        try clear hx331_2
                        try clear p2
                        try clear p3
                        try clear p325
                        try clear p327
                        try clear p328
                        try clear p331
                        try clear q3
                        try clear q325
                        try clear q327
                        try clear q328
                        try clear q331
                        obtain ⟨kq, x79_22, rfl, HA, HJ22, HB⟩ := hcut
                        cases kq with
                        | zero => exact absurd HA.out (by simp [quittancelaw02_LeafTorn.j2])
                        | succ kj22 =>
                          have H := HA.out
                          clear HA
                          simp only [quittancelaw02_LeafTorn.j2] at H
                          by_cases c26 : x79_22 = true
                          · subst c26
                            have H1 : (some false) = some r := by rw [if_pos rfl] at H; exact H
                            clear H
                            have H := H1
                            clear H1
                            obtain rfl := Option.some.inj H
                            go_wp2
                            repeat (go_quiet (fail); try go_wp2)
                            go_ret
                            exact ⟨by first | rfl | (simp [errW_none, errW_some] <;> rfl) | (simp only [← hji21, ← hji22]; first | rfl | (simp [errW_none, errW_some] <;> rfl)) | (simp [*, errW_none, errW_some] <;> rfl), by repeat (first | (with_reducible first | exact HB.out | apply below_alloc | apply pw_below_drewN | apply below_drew1) | exact HB.out)⟩
                          · replace c26 := Bool.eq_false_iff.mpr c26
                            subst c26
                            have H1 : (if 0 ≤ ji22 then (if ji22 ≤ (t329.size : Int) then (if ji22 ≤ (x3_1.size : Int) then (if (t329.extract 0 (ji22 : Int).toNat).size + (x3_1.extract (ji22 : Int).toNat x3_1.size).size ≤ 9223372036854775807 then (if ji22 ≥ 8 then (if 0 ≤ x6_1 then (if x6_1 < (l0.length : Int) then ((quittanceref02_Full.f kj22 ((rd_T30 l0 x6_1).f1)).bind fun t333 => (quittancelaw02_LeafTorn.j3 kj22 l0 ((t329.extract 0 (ji22 : Int).toNat) ++ (x3_1.extract (ji22 : Int).toNat x3_1.size)) (IntKind.u64.wrap ((IntKind.u64.wrap (t323 + 1)) + (IntKind.u64.wrap ((rd_T30 l0 x6_1).f0)))) t333 x6_1 t323 ji22)) else (none)) else (none)) else (quittancelaw02_LeafTorn.j3 kj22 l0 ((t329.extract 0 (ji22 : Int).toNat) ++ (x3_1.extract (ji22 : Int).toNat x3_1.size)) x4_1 x5_1 x6_1 t323 ji22)) else (none)) else (none)) else (none)) else (none)) = some r := by rw [if_neg (show ¬ (false = true) by decide)] at H; exact H
                            clear H
                            have H := H1
                            clear H1
                            by_cases c27 : 0 ≤ ji22
                            · rw [if_pos c27] at H
                              have c27b0 := eq_true c27
                              have c27b1 : decide (0 ≤ ji22) = true := decide_eq_true c27
                              clear c27
                              by_cases c28 : ji22 ≤ (t329.size : Int)
                              · rw [if_pos c28] at H
                                have c28b0 := eq_true c28
                                have c28b1 : decide (ji22 ≤ (t329.size : Int)) = true := decide_eq_true c28
                                clear c28
                                have c29b0 := eq_true (of_decide_eq_true (by first | (with_reducible assumption) | assumption) : 0 ≤ ji22)
                                by_cases c30 : ji22 ≤ (x3_1.size : Int)
                                · rw [if_pos c30] at H
                                  have c30b0 := eq_true c30
                                  have c30b1 : decide (ji22 ≤ (x3_1.size : Int)) = true := decide_eq_true c30
                                  clear c30
                                  by_cases c31 : (t329.extract 0 (ji22 : Int).toNat).size + (x3_1.extract (ji22 : Int).toNat x3_1.size).size ≤ 9223372036854775807
                                  · rw [if_pos c31] at H
                                    have c31b0 := eq_true c31
                                    have c31b1 : decide ((t329.extract 0 (ji22 : Int).toNat).size + (x3_1.extract (ji22 : Int).toNat x3_1.size).size ≤ 9223372036854775807) = true := decide_eq_true c31
                                    try have c31b2 : (9223372036854775807 < (t329.extract 0 (ji22 : Int).toNat).size + (x3_1.extract (ji22 : Int).toNat x3_1.size).size) = False := eq_false (Nat.not_lt.2 c31)
                                    try (have c31b3 := Nat.not_lt.2 c31; simp only [ByteArray.size_append, ByteArray.size_extract, Nat.sub_zero, Nat.min_self] at c31b3; replace c31b3 := eq_false c31b3)
                                    try (have c31b4 := Nat.not_lt.2 c31; simp only [ByteArray.size_append, ByteArray.size_extract, Nat.sub_zero, Nat.min_self] at c31b4; rw [Nat.min_eq_left (by simp only [decide_eq_true_eq, eq_iff_iff, iff_true] at *; omega)] at c31b4; replace c31b4 := eq_false c31b4)
                                    have HC32 := Aside0.mk H
                                    clear H
                                    go_upto_if 88 with (fail)
                                    repeat (go_quiet (fail); go_upto_if 88 with (fail))
                                    go_cut [4, 5] (fun v4 v5 wc => ∃ (kq : Nat) (x4_31 : Int) (x5_31 : ByteArray), v4 = .int .u64 x4_31 ∧ v5 = .string x5_31 ∧ Aside0 (quittancelaw02_LeafTorn.j3 kq l0 ((t329.extract 0 (ji22 : Int).toNat) ++ (x3_1.extract (ji22 : Int).toNat x3_1.size)) x4_31 x5_31 x6_1 t323 ji22 = some r) ∧ Aside0 (kq ≤ kj22) ∧ Aside0 (Below w.heap.size w wc))
                                    case first =>
                                      have H := HC32.out
                                      clear HC32
                                      by_cases c33 : ji22 ≥ 8
                                      · rw [if_pos c33] at H
                                        have c33b0 : decide (8 ≤ ji22) = true := decide_eq_true c33
                                        clear c33
                                        (first | rw [c33b0] | (simp only [i64_w, i32_w]; rw [c33b0]) | skip)
                                        by_cases c34 : 0 ≤ x6_1
                                        · rw [if_pos c34] at H
                                          have c34b0 : decide (0 ≤ x6_1) = true := decide_eq_true c34
                                          clear c34
                                          by_cases c35 : x6_1 < (l0.length : Int)
                                          · rw [if_pos c35] at H
                                            have c35b0 : decide (x6_1 < (l0.length : Int)) = true := decide_eq_true c35
                                            clear c35
                                            replace H := Option.bind_eq_some_iff.mp H
                                            obtain ⟨t333, A360, H⟩ := H
                                            replace H : (quittancelaw02_LeafTorn.j3 kj22 l0 ((t329.extract 0 (ji22 : Int).toNat) ++ (x3_1.extract (ji22 : Int).toNat x3_1.size)) (IntKind.u64.wrap ((IntKind.u64.wrap (t323 + 1)) + (IntKind.u64.wrap ((rd_T30 l0 x6_1).f0)))) t333 x6_1 t323 ji22) = some r := H
                                            have A36 := Aside0.mk A360
                                            clear A360
                                            have H' := Aside0.mk H
                                            clear H
                                            have p332 : 0 ≤ (x6_1 : Int) := of_decide_eq_true (by first | (with_reducible assumption) | assumption)
                                            have q332 : x6_1 < (l0.length : Int) := of_decide_eq_true (by first | (with_reducible assumption) | assumption)
                                            obtain ⟨ad332, e332, hx332_0, hx332_1, hx332_2⟩ := at_T30 HR0.out x6_1 p332 q332
                                            obtain rfl : ad327 = ad332 := (by injection e332)
                                            replace hx332_0 := (HB.out.cell (World.block_lt_of_cell? w _ hx332_0)).trans hx332_0
                                            replace hx332_1 := (HB.out.cell (World.block_lt_of_cell? w _ hx332_1)).trans hx332_1
                                            replace hx332_2 := (HB.out.cell (World.block_lt_of_cell? w _ hx332_2)).trans hx332_2
                                            replace p332 := eq_true p332
                                            replace q332 := eq_true q332
                                            go_wp2_with (first | (go_at_call 13; (with_reducible refine (quittanceref02_Full.calls kj22 ((rd_T30 l0 x6_1).f1) t333 _ A36.out).mono ?_); rintro e w' ⟨rfl, ⟨nd, rfl⟩⟩; (try first | exact ⟨rfl, _, World.drewN_drewN _ _ _⟩ | exact ⟨rfl, _, Eq.trans (World.drewN_drewN _ _ _) (congrArg (World.drewN _) (Nat.add_assoc _ _ _))⟩)))
                                            repeat (go_quiet (first | (go_at_call 13; (with_reducible refine (quittanceref02_Full.calls kj22 ((rd_T30 l0 x6_1).f1) t333 _ A36.out).mono ?_); rintro e w' ⟨rfl, ⟨nd, rfl⟩⟩; (try first | exact ⟨rfl, _, World.drewN_drewN _ _ _⟩ | exact ⟨rfl, _, Eq.trans (World.drewN_drewN _ _ _) (congrArg (World.drewN _) (Nat.add_assoc _ _ _))⟩))); try go_wp2_with (first | (go_at_call 13; (with_reducible refine (quittanceref02_Full.calls kj22 ((rd_T30 l0 x6_1).f1) t333 _ A36.out).mono ?_); rintro e w' ⟨rfl, ⟨nd, rfl⟩⟩; (try first | exact ⟨rfl, _, World.drewN_drewN _ _ _⟩ | exact ⟨rfl, _, Eq.trans (World.drewN_drewN _ _ _) (congrArg (World.drewN _) (Nat.add_assoc _ _ _))⟩))))
                                            go_meet
                                            case rel => exact ⟨_, ((IntKind.u64.wrap ((IntKind.u64.wrap (t323 + 1)) + (IntKind.u64.wrap ((rd_T30 l0 x6_1).f0))))), (t333), (by first | rfl | (simp; done) | (simp [*]; done)), (by first | rfl | (simp; done) | (simp [*]; done)), H', ⟨by have := HK1.out; have := HJ10.out; have := HJ22.out; first | omega | exact Nat.le_refl _⟩, ⟨by repeat (first | (with_reducible first | exact HB.out | apply below_alloc | apply pw_below_drewN | apply below_drew1) | exact HB.out)⟩⟩
                                          · rw [if_neg c35] at H
                                            exact absurd H (by simp)
                                        · rw [if_neg c34] at H
                                          exact absurd H (by simp)
                                      · rw [if_neg c33] at H
                                        have c33b0 : decide (8 ≤ ji22) = false := decide_eq_false c33
                                        clear c33
                                        (first | rw [c33b0] | (simp only [i64_w, i32_w]; rw [c33b0]) | skip)
                                        have H' := Aside0.mk H
                                        clear H
                                        go_wp2
                                        repeat (go_quiet (fail); try go_wp2)
                                        go_meet
                                        case rel => exact ⟨_, (x4_1), (x5_1), (by first | rfl | (simp; done) | (simp [*]; done)), (by first | rfl | (simp; done) | (simp [*]; done)), H', ⟨by have := HK1.out; have := HJ10.out; have := HJ22.out; first | omega | exact Nat.le_refl _⟩, ⟨by repeat (first | (with_reducible first | exact HB.out | apply below_alloc | apply pw_below_drewN | apply below_drew1) | exact HB.out)⟩⟩
                                    case rest =>
                                      clear HC32
                                      try clear c1
                                      try clear c2
                                      try clear c2b0
                                      try clear c2b1
                                      try clear p2
                                      try clear c3
                                      try clear p3
                                      try clear q3
                                      try clear hx3
                                      try clear c5
                                      try clear c5b0
                                      try clear c5b1
                                      try clear hcv8
                                      try clear c9
                                      try clear c9b0
                                      try clear c13
                                      try clear c13b0
                                      try clear c14
                                      try clear c14b0
                                      try clear c15
                                      try clear c18
                                      try clear c18b0
                                      try clear c19
                                      try clear c19b0
                                      try clear c25
                                      try clear c25b0
                                      try clear c25b1
                                      try clear c26
                                      try clear c27
                                      try clear c27b0
                                      try clear c27b1
                                      try clear c28
                                      try clear c28b0
                                      try clear c28b1
                                      try clear c29
                                      try clear c29b0
                                      try clear c30
                                      try clear c30b0
                                      try clear c30b1
                                      try clear c31
                                      try clear c31b0
                                      try clear c31b1
                                      try clear c31b2
                                      try clear p32
                                      try clear q32
                                      try clear hx32
                                      try clear c33
                                      try clear c33b0
                                      try clear p33
                                      try clear q33
                                      try clear hx33
                                      try clear c34
                                      try clear c34b0
                                      try clear c35
                                      try clear c35b0
                                      try clear hx325_0
                                      try clear hx325_1
                                      try clear hx325_2
                                      try clear hx327_0
                                      try clear hx327_1
                                      try clear hx327_2
                                      try clear hx328_0
                                      try clear hx328_1
                                      try clear hx328_2
                                      try clear hx331_0
                                      try clear hx331_1
                                      try clear hx331_2
                                      try clear hx332_0
                                      try clear hx332_1
                                      try clear hx332_2
                                      try clear p2
                                      try clear p3
                                      try clear p325
                                      try clear p327
                                      try clear p328
                                      try clear p331
                                      try clear p332
                                      try clear q3
                                      try clear q325
                                      try clear q327
                                      try clear q328
                                      try clear q331
                                      try clear q332
                                      obtain ⟨kq, x4_31, x5_31, rfl, rfl, HA, HJ31, HB⟩ := hcut
                                      cases kq with
                                      | zero => exact absurd HA.out (by simp [quittancelaw02_LeafTorn.j3])
                                      | succ kj31 =>
                                        have H := HA.out
                                        clear HA
                                        simp only [quittancelaw02_LeafTorn.j3] at H
                                        replace H := Option.bind_eq_some_iff.mp H
                                        obtain ⟨⟨t334, t335⟩, A370, H⟩ := H
                                        replace H : ((leaf_Get.f ((t329.extract 0 (ji22 : Int).toNat) ++ (x3_1.extract (ji22 : Int).toNat x3_1.size))).bind fun bt336 => (if t334 < t323 then (some false) else (if t334 < t335 then (some false) else (if bt336.2.2 = true then (if bt336.1 = x4_31 then (if bt336.2.1.toList = x5_31.toList then (if ji22 = 64 then (quittancelaw02_LeafTorn.l0 kj31 l0 ((t329.extract 0 (ji22 : Int).toNat) ++ (x3_1.extract (ji22 : Int).toNat x3_1.size)) x4_31 x5_31 (wrap64 (x6_1 + 1))) else (quittancelaw02_LeafTorn.l0 kj31 l0 ((t329.extract 0 (ji22 : Int).toNat) ++ (x3_1.extract (ji22 : Int).toNat x3_1.size)) x4_31 x5_31 (wrap64 (x6_1 + 1)))) else (some false)) else (some false)) else (if ji22 = 64 then (some false) else (quittancelaw02_LeafTorn.l0 kj31 l0 ((t329.extract 0 (ji22 : Int).toNat) ++ (x3_1.extract (ji22 : Int).toNat x3_1.size)) x4_31 x5_31 (wrap64 (x6_1 + 1)))))))) = some r := H
                                        have A37 := Aside0.mk A370
                                        clear A370
                                        replace H := Option.bind_eq_some_iff.mp H
                                        obtain ⟨⟨t336, t337, t338⟩, A380, H⟩ := H
                                        replace H : (if t334 < t323 then (some false) else (if t334 < t335 then (some false) else (if t338 = true then (if t336 = x4_31 then (if t337.toList = x5_31.toList then (if ji22 = 64 then (quittancelaw02_LeafTorn.l0 kj31 l0 ((t329.extract 0 (ji22 : Int).toNat) ++ (x3_1.extract (ji22 : Int).toNat x3_1.size)) x4_31 x5_31 (wrap64 (x6_1 + 1))) else (quittancelaw02_LeafTorn.l0 kj31 l0 ((t329.extract 0 (ji22 : Int).toNat) ++ (x3_1.extract (ji22 : Int).toNat x3_1.size)) x4_31 x5_31 (wrap64 (x6_1 + 1)))) else (some false)) else (some false)) else (if ji22 = 64 then (some false) else (quittancelaw02_LeafTorn.l0 kj31 l0 ((t329.extract 0 (ji22 : Int).toNat) ++ (x3_1.extract (ji22 : Int).toNat x3_1.size)) x4_31 x5_31 (wrap64 (x6_1 + 1))))))) = some r := H
                                        have A38 := Aside0.mk A380
                                        clear A380
                                        by_cases c39 : t334 < t323
                                        · rw [if_pos c39] at H
                                          have c39b0 : decide (t334 < t323) = true := decide_eq_true c39
                                          clear c39
                                          obtain rfl := Option.some.inj H
                                          go_wp2_with (first | (go_at_call 11; (with_reducible refine (leaf_Ends.calls ((t329.extract 0 (ji22 : Int).toNat) ++ (x3_1.extract (ji22 : Int).toNat x3_1.size)) t334 t335 _ A37.out).mono ?_); rintro e w40 ⟨rfl, hb⟩; have n0_ := Aside0.mk (below_step (by repeat (first | (with_reducible first | exact HB.out | apply below_alloc | apply pw_below_drewN | apply below_drew1) | exact HB.out)) hb); clear HB; have HB := n0_; clear n0_; (try clear hb); (try clear hb2); (try clear hk); (try clear hi)) | (go_at_call 14; (with_reducible refine (leaf_Get.calls ((t329.extract 0 (ji22 : Int).toNat) ++ (x3_1.extract (ji22 : Int).toNat x3_1.size)) t336 t337 t338 _ A38.out).mono ?_); rintro e w41 ⟨rfl, hb⟩; have n0_ := Aside0.mk (below_step (by repeat (first | (with_reducible first | exact HB.out | apply below_alloc | apply pw_below_drewN | apply below_drew1) | exact HB.out)) hb); clear HB; have HB := n0_; clear n0_; (try clear hb); (try clear hb2); (try clear hk); (try clear hi)))
                                          repeat (go_quiet (first | (go_at_call 11; (with_reducible refine (leaf_Ends.calls ((t329.extract 0 (ji22 : Int).toNat) ++ (x3_1.extract (ji22 : Int).toNat x3_1.size)) t334 t335 _ A37.out).mono ?_); rintro e w40 ⟨rfl, hb⟩; have n0_ := Aside0.mk (below_step (by repeat (first | (with_reducible first | exact HB.out | apply below_alloc | apply pw_below_drewN | apply below_drew1) | exact HB.out)) hb); clear HB; have HB := n0_; clear n0_; (try clear hb); (try clear hb2); (try clear hk); (try clear hi)) | (go_at_call 14; (with_reducible refine (leaf_Get.calls ((t329.extract 0 (ji22 : Int).toNat) ++ (x3_1.extract (ji22 : Int).toNat x3_1.size)) t336 t337 t338 _ A38.out).mono ?_); rintro e w41 ⟨rfl, hb⟩; have n0_ := Aside0.mk (below_step (by repeat (first | (with_reducible first | exact HB.out | apply below_alloc | apply pw_below_drewN | apply below_drew1) | exact HB.out)) hb); clear HB; have HB := n0_; clear n0_; (try clear hb); (try clear hb2); (try clear hk); (try clear hi))); try go_wp2_with (first | (go_at_call 11; (with_reducible refine (leaf_Ends.calls ((t329.extract 0 (ji22 : Int).toNat) ++ (x3_1.extract (ji22 : Int).toNat x3_1.size)) t334 t335 _ A37.out).mono ?_); rintro e w40 ⟨rfl, hb⟩; have n0_ := Aside0.mk (below_step (by repeat (first | (with_reducible first | exact HB.out | apply below_alloc | apply pw_below_drewN | apply below_drew1) | exact HB.out)) hb); clear HB; have HB := n0_; clear n0_; (try clear hb); (try clear hb2); (try clear hk); (try clear hi)) | (go_at_call 14; (with_reducible refine (leaf_Get.calls ((t329.extract 0 (ji22 : Int).toNat) ++ (x3_1.extract (ji22 : Int).toNat x3_1.size)) t336 t337 t338 _ A38.out).mono ?_); rintro e w41 ⟨rfl, hb⟩; have n0_ := Aside0.mk (below_step (by repeat (first | (with_reducible first | exact HB.out | apply below_alloc | apply pw_below_drewN | apply below_drew1) | exact HB.out)) hb); clear HB; have HB := n0_; clear n0_; (try clear hb); (try clear hb2); (try clear hk); (try clear hi))))
                                          go_ret
                                          exact ⟨by first | rfl | (simp [errW_none, errW_some] <;> rfl) | (simp only [← hji21, ← hji22]; first | rfl | (simp [errW_none, errW_some] <;> rfl)) | (simp [*, errW_none, errW_some] <;> rfl), by repeat (first | (with_reducible first | exact HB.out | apply below_alloc | apply pw_below_drewN | apply below_drew1) | exact HB.out)⟩
                                        · rw [if_neg c39] at H
                                          have c39b0 : decide (t334 < t323) = false := decide_eq_false c39
                                          clear c39
                                          by_cases c42 : t334 < t335
                                          · rw [if_pos c42] at H
                                            have c42b0 : decide (t334 < t335) = true := decide_eq_true c42
                                            clear c42
                                            obtain rfl := Option.some.inj H
                                            go_wp2_with (first | (go_at_call 11; (with_reducible refine (leaf_Ends.calls ((t329.extract 0 (ji22 : Int).toNat) ++ (x3_1.extract (ji22 : Int).toNat x3_1.size)) t334 t335 _ A37.out).mono ?_); rintro e w43 ⟨rfl, hb⟩; have n0_ := Aside0.mk (below_step (by repeat (first | (with_reducible first | exact HB.out | apply below_alloc | apply pw_below_drewN | apply below_drew1) | exact HB.out)) hb); clear HB; have HB := n0_; clear n0_; (try clear hb); (try clear hb2); (try clear hk); (try clear hi)) | (go_at_call 14; (with_reducible refine (leaf_Get.calls ((t329.extract 0 (ji22 : Int).toNat) ++ (x3_1.extract (ji22 : Int).toNat x3_1.size)) t336 t337 t338 _ A38.out).mono ?_); rintro e w44 ⟨rfl, hb⟩; have n0_ := Aside0.mk (below_step (by repeat (first | (with_reducible first | exact HB.out | apply below_alloc | apply pw_below_drewN | apply below_drew1) | exact HB.out)) hb); clear HB; have HB := n0_; clear n0_; (try clear hb); (try clear hb2); (try clear hk); (try clear hi)))
                                            repeat (go_quiet (first | (go_at_call 11; (with_reducible refine (leaf_Ends.calls ((t329.extract 0 (ji22 : Int).toNat) ++ (x3_1.extract (ji22 : Int).toNat x3_1.size)) t334 t335 _ A37.out).mono ?_); rintro e w43 ⟨rfl, hb⟩; have n0_ := Aside0.mk (below_step (by repeat (first | (with_reducible first | exact HB.out | apply below_alloc | apply pw_below_drewN | apply below_drew1) | exact HB.out)) hb); clear HB; have HB := n0_; clear n0_; (try clear hb); (try clear hb2); (try clear hk); (try clear hi)) | (go_at_call 14; (with_reducible refine (leaf_Get.calls ((t329.extract 0 (ji22 : Int).toNat) ++ (x3_1.extract (ji22 : Int).toNat x3_1.size)) t336 t337 t338 _ A38.out).mono ?_); rintro e w44 ⟨rfl, hb⟩; have n0_ := Aside0.mk (below_step (by repeat (first | (with_reducible first | exact HB.out | apply below_alloc | apply pw_below_drewN | apply below_drew1) | exact HB.out)) hb); clear HB; have HB := n0_; clear n0_; (try clear hb); (try clear hb2); (try clear hk); (try clear hi))); try go_wp2_with (first | (go_at_call 11; (with_reducible refine (leaf_Ends.calls ((t329.extract 0 (ji22 : Int).toNat) ++ (x3_1.extract (ji22 : Int).toNat x3_1.size)) t334 t335 _ A37.out).mono ?_); rintro e w43 ⟨rfl, hb⟩; have n0_ := Aside0.mk (below_step (by repeat (first | (with_reducible first | exact HB.out | apply below_alloc | apply pw_below_drewN | apply below_drew1) | exact HB.out)) hb); clear HB; have HB := n0_; clear n0_; (try clear hb); (try clear hb2); (try clear hk); (try clear hi)) | (go_at_call 14; (with_reducible refine (leaf_Get.calls ((t329.extract 0 (ji22 : Int).toNat) ++ (x3_1.extract (ji22 : Int).toNat x3_1.size)) t336 t337 t338 _ A38.out).mono ?_); rintro e w44 ⟨rfl, hb⟩; have n0_ := Aside0.mk (below_step (by repeat (first | (with_reducible first | exact HB.out | apply below_alloc | apply pw_below_drewN | apply below_drew1) | exact HB.out)) hb); clear HB; have HB := n0_; clear n0_; (try clear hb); (try clear hb2); (try clear hk); (try clear hi))))
                                            go_ret
                                            exact ⟨by first | rfl | (simp [errW_none, errW_some] <;> rfl) | (simp only [← hji21, ← hji22]; first | rfl | (simp [errW_none, errW_some] <;> rfl)) | (simp [*, errW_none, errW_some] <;> rfl), by repeat (first | (with_reducible first | exact HB.out | apply below_alloc | apply pw_below_drewN | apply below_drew1) | exact HB.out)⟩
                                          · rw [if_neg c42] at H
                                            have c42b0 : decide (t334 < t335) = false := decide_eq_false c42
                                            clear c42
                                            by_cases c45 : t338 = true
                                            · subst c45
                                              have H1 : (if t336 = x4_31 then (if t337.toList = x5_31.toList then (if ji22 = 64 then (quittancelaw02_LeafTorn.l0 kj31 l0 ((t329.extract 0 (ji22 : Int).toNat) ++ (x3_1.extract (ji22 : Int).toNat x3_1.size)) x4_31 x5_31 (wrap64 (x6_1 + 1))) else (quittancelaw02_LeafTorn.l0 kj31 l0 ((t329.extract 0 (ji22 : Int).toNat) ++ (x3_1.extract (ji22 : Int).toNat x3_1.size)) x4_31 x5_31 (wrap64 (x6_1 + 1)))) else (some false)) else (some false)) = some r := by rw [if_pos rfl] at H; exact H
                                              clear H
                                              have H := H1
                                              clear H1
                                              by_cases c46 : t336 = x4_31
                                              · rw [if_pos c46] at H
                                                have c46b0 : (t336 == x4_31) = true := beq_iff_eq.mpr c46
                                                have c46b1 : (t336 != x4_31) = false := bne_eq_false_iff_eq.mpr c46
                                                clear c46
                                                by_cases c47 : t337.toList = x5_31.toList
                                                · rw [if_pos c47] at H
                                                  have c47b0 : (t337.toList == x5_31.toList) = true := beq_iff_eq.mpr c47
                                                  have c47b1 : (t337.toList != x5_31.toList) = false := bne_eq_false_iff_eq.mpr c47
                                                  clear c47
                                                  by_cases c48 : ji22 = 64
                                                  · rw [if_pos c48] at H
                                                    have c48b0 : (ji22 == 64) = true := beq_iff_eq.mpr c48
                                                    have c48b1 : (ji22 != 64) = false := bne_eq_false_iff_eq.mpr c48
                                                    clear c48
                                                    have H' := Aside0.mk H
                                                    clear H
                                                    go_wp2_with (first | (go_at_call 11; (with_reducible refine (leaf_Ends.calls ((t329.extract 0 (ji22 : Int).toNat) ++ (x3_1.extract (ji22 : Int).toNat x3_1.size)) t334 t335 _ A37.out).mono ?_); rintro e w49 ⟨rfl, hb⟩; have n0_ := Aside0.mk (below_step (by repeat (first | (with_reducible first | exact HB.out | apply below_alloc | apply pw_below_drewN | apply below_drew1) | exact HB.out)) hb); clear HB; have HB := n0_; clear n0_; (try clear hb); (try clear hb2); (try clear hk); (try clear hi)) | (go_at_call 14; (with_reducible refine (leaf_Get.calls ((t329.extract 0 (ji22 : Int).toNat) ++ (x3_1.extract (ji22 : Int).toNat x3_1.size)) t336 t337 true _ A38.out).mono ?_); rintro e w50 ⟨rfl, hb⟩; have n0_ := Aside0.mk (below_step (by repeat (first | (with_reducible first | exact HB.out | apply below_alloc | apply pw_below_drewN | apply below_drew1) | exact HB.out)) hb); clear HB; have HB := n0_; clear n0_; (try clear hb); (try clear hb2); (try clear hk); (try clear hi)))
                                                    repeat (go_quiet (first | (go_at_call 11; (with_reducible refine (leaf_Ends.calls ((t329.extract 0 (ji22 : Int).toNat) ++ (x3_1.extract (ji22 : Int).toNat x3_1.size)) t334 t335 _ A37.out).mono ?_); rintro e w49 ⟨rfl, hb⟩; have n0_ := Aside0.mk (below_step (by repeat (first | (with_reducible first | exact HB.out | apply below_alloc | apply pw_below_drewN | apply below_drew1) | exact HB.out)) hb); clear HB; have HB := n0_; clear n0_; (try clear hb); (try clear hb2); (try clear hk); (try clear hi)) | (go_at_call 14; (with_reducible refine (leaf_Get.calls ((t329.extract 0 (ji22 : Int).toNat) ++ (x3_1.extract (ji22 : Int).toNat x3_1.size)) t336 t337 true _ A38.out).mono ?_); rintro e w50 ⟨rfl, hb⟩; have n0_ := Aside0.mk (below_step (by repeat (first | (with_reducible first | exact HB.out | apply below_alloc | apply pw_below_drewN | apply below_drew1) | exact HB.out)) hb); clear HB; have HB := n0_; clear n0_; (try clear hb); (try clear hb2); (try clear hk); (try clear hi))); try go_wp2_with (first | (go_at_call 11; (with_reducible refine (leaf_Ends.calls ((t329.extract 0 (ji22 : Int).toNat) ++ (x3_1.extract (ji22 : Int).toNat x3_1.size)) t334 t335 _ A37.out).mono ?_); rintro e w49 ⟨rfl, hb⟩; have n0_ := Aside0.mk (below_step (by repeat (first | (with_reducible first | exact HB.out | apply below_alloc | apply pw_below_drewN | apply below_drew1) | exact HB.out)) hb); clear HB; have HB := n0_; clear n0_; (try clear hb); (try clear hb2); (try clear hk); (try clear hi)) | (go_at_call 14; (with_reducible refine (leaf_Get.calls ((t329.extract 0 (ji22 : Int).toNat) ++ (x3_1.extract (ji22 : Int).toNat x3_1.size)) t336 t337 true _ A38.out).mono ?_); rintro e w50 ⟨rfl, hb⟩; have n0_ := Aside0.mk (below_step (by repeat (first | (with_reducible first | exact HB.out | apply below_alloc | apply pw_below_drewN | apply below_drew1) | exact HB.out)) hb); clear HB; have HB := n0_; clear n0_; (try clear hb); (try clear hb2); (try clear hk); (try clear hi))))
                                                    go_roundg kj31
                                                    case measure => have := HK1.out; have := HJ10.out; have := HJ22.out; have := HJ31.out; omega
                                                    case rel => exact ⟨(((t329.extract 0 (ji22 : Int).toNat) ++ (x3_1.extract (ji22 : Int).toNat x3_1.size))), (x4_31), (x5_31), (wrap64 (x6_1 + 1)), (by first | rfl | (simp; done) | (simp only [← hji22] <;> (first | rfl | simp)) | (simp [*]; done)), (by first | rfl | (simp; done) | (simp [*]; done)), (by first | rfl | (simp; done) | (simp [*]; done)), (by first | rfl | (simp; done) | (simp [*]; done)), H', ⟨by have := HK1.out; have := HJ10.out; have := HJ22.out; have := HJ31.out; omega⟩, ⟨by repeat (first | (with_reducible first | exact HB.out | apply below_alloc | apply pw_below_drewN | apply below_drew1) | exact HB.out)⟩⟩
                                                  · rw [if_neg c48] at H
                                                    have c48b0 : (ji22 == 64) = false := beq_eq_false_iff_ne.mpr c48
                                                    have c48b1 : (ji22 != 64) = true := bne_iff_ne.mpr c48
                                                    have H' := Aside0.mk H
                                                    clear H
                                                    go_wp2_with (first | (go_at_call 11; (with_reducible refine (leaf_Ends.calls ((t329.extract 0 (ji22 : Int).toNat) ++ (x3_1.extract (ji22 : Int).toNat x3_1.size)) t334 t335 _ A37.out).mono ?_); rintro e w51 ⟨rfl, hb⟩; have n0_ := Aside0.mk (below_step (by repeat (first | (with_reducible first | exact HB.out | apply below_alloc | apply pw_below_drewN | apply below_drew1) | exact HB.out)) hb); clear HB; have HB := n0_; clear n0_; (try clear hb); (try clear hb2); (try clear hk); (try clear hi)) | (go_at_call 14; (with_reducible refine (leaf_Get.calls ((t329.extract 0 (ji22 : Int).toNat) ++ (x3_1.extract (ji22 : Int).toNat x3_1.size)) t336 t337 true _ A38.out).mono ?_); rintro e w52 ⟨rfl, hb⟩; have n0_ := Aside0.mk (below_step (by repeat (first | (with_reducible first | exact HB.out | apply below_alloc | apply pw_below_drewN | apply below_drew1) | exact HB.out)) hb); clear HB; have HB := n0_; clear n0_; (try clear hb); (try clear hb2); (try clear hk); (try clear hi)))
                                                    repeat (go_quiet (first | (go_at_call 11; (with_reducible refine (leaf_Ends.calls ((t329.extract 0 (ji22 : Int).toNat) ++ (x3_1.extract (ji22 : Int).toNat x3_1.size)) t334 t335 _ A37.out).mono ?_); rintro e w51 ⟨rfl, hb⟩; have n0_ := Aside0.mk (below_step (by repeat (first | (with_reducible first | exact HB.out | apply below_alloc | apply pw_below_drewN | apply below_drew1) | exact HB.out)) hb); clear HB; have HB := n0_; clear n0_; (try clear hb); (try clear hb2); (try clear hk); (try clear hi)) | (go_at_call 14; (with_reducible refine (leaf_Get.calls ((t329.extract 0 (ji22 : Int).toNat) ++ (x3_1.extract (ji22 : Int).toNat x3_1.size)) t336 t337 true _ A38.out).mono ?_); rintro e w52 ⟨rfl, hb⟩; have n0_ := Aside0.mk (below_step (by repeat (first | (with_reducible first | exact HB.out | apply below_alloc | apply pw_below_drewN | apply below_drew1) | exact HB.out)) hb); clear HB; have HB := n0_; clear n0_; (try clear hb); (try clear hb2); (try clear hk); (try clear hi))); try go_wp2_with (first | (go_at_call 11; (with_reducible refine (leaf_Ends.calls ((t329.extract 0 (ji22 : Int).toNat) ++ (x3_1.extract (ji22 : Int).toNat x3_1.size)) t334 t335 _ A37.out).mono ?_); rintro e w51 ⟨rfl, hb⟩; have n0_ := Aside0.mk (below_step (by repeat (first | (with_reducible first | exact HB.out | apply below_alloc | apply pw_below_drewN | apply below_drew1) | exact HB.out)) hb); clear HB; have HB := n0_; clear n0_; (try clear hb); (try clear hb2); (try clear hk); (try clear hi)) | (go_at_call 14; (with_reducible refine (leaf_Get.calls ((t329.extract 0 (ji22 : Int).toNat) ++ (x3_1.extract (ji22 : Int).toNat x3_1.size)) t336 t337 true _ A38.out).mono ?_); rintro e w52 ⟨rfl, hb⟩; have n0_ := Aside0.mk (below_step (by repeat (first | (with_reducible first | exact HB.out | apply below_alloc | apply pw_below_drewN | apply below_drew1) | exact HB.out)) hb); clear HB; have HB := n0_; clear n0_; (try clear hb); (try clear hb2); (try clear hk); (try clear hi))))
                                                    go_roundg kj31
                                                    case measure => have := HK1.out; have := HJ10.out; have := HJ22.out; have := HJ31.out; omega
                                                    case rel => exact ⟨(((t329.extract 0 (ji22 : Int).toNat) ++ (x3_1.extract (ji22 : Int).toNat x3_1.size))), (x4_31), (x5_31), (wrap64 (x6_1 + 1)), (by first | rfl | (simp; done) | (simp only [← hji22] <;> (first | rfl | simp)) | (simp [*]; done)), (by first | rfl | (simp; done) | (simp [*]; done)), (by first | rfl | (simp; done) | (simp [*]; done)), (by first | rfl | (simp; done) | (simp [*]; done)), H', ⟨by have := HK1.out; have := HJ10.out; have := HJ22.out; have := HJ31.out; omega⟩, ⟨by repeat (first | (with_reducible first | exact HB.out | apply below_alloc | apply pw_below_drewN | apply below_drew1) | exact HB.out)⟩⟩
                                                · rw [if_neg c47] at H
                                                  have c47b0 : (t337.toList == x5_31.toList) = false := beq_eq_false_iff_ne.mpr c47
                                                  have c47b1 : (t337.toList != x5_31.toList) = true := bne_iff_ne.mpr c47
                                                  obtain rfl := Option.some.inj H
                                                  go_wp2_with (first | (go_at_call 11; (with_reducible refine (leaf_Ends.calls ((t329.extract 0 (ji22 : Int).toNat) ++ (x3_1.extract (ji22 : Int).toNat x3_1.size)) t334 t335 _ A37.out).mono ?_); rintro e w53 ⟨rfl, hb⟩; have n0_ := Aside0.mk (below_step (by repeat (first | (with_reducible first | exact HB.out | apply below_alloc | apply pw_below_drewN | apply below_drew1) | exact HB.out)) hb); clear HB; have HB := n0_; clear n0_; (try clear hb); (try clear hb2); (try clear hk); (try clear hi)) | (go_at_call 14; (with_reducible refine (leaf_Get.calls ((t329.extract 0 (ji22 : Int).toNat) ++ (x3_1.extract (ji22 : Int).toNat x3_1.size)) t336 t337 true _ A38.out).mono ?_); rintro e w54 ⟨rfl, hb⟩; have n0_ := Aside0.mk (below_step (by repeat (first | (with_reducible first | exact HB.out | apply below_alloc | apply pw_below_drewN | apply below_drew1) | exact HB.out)) hb); clear HB; have HB := n0_; clear n0_; (try clear hb); (try clear hb2); (try clear hk); (try clear hi)))
                                                  repeat (go_quiet (first | (go_at_call 11; (with_reducible refine (leaf_Ends.calls ((t329.extract 0 (ji22 : Int).toNat) ++ (x3_1.extract (ji22 : Int).toNat x3_1.size)) t334 t335 _ A37.out).mono ?_); rintro e w53 ⟨rfl, hb⟩; have n0_ := Aside0.mk (below_step (by repeat (first | (with_reducible first | exact HB.out | apply below_alloc | apply pw_below_drewN | apply below_drew1) | exact HB.out)) hb); clear HB; have HB := n0_; clear n0_; (try clear hb); (try clear hb2); (try clear hk); (try clear hi)) | (go_at_call 14; (with_reducible refine (leaf_Get.calls ((t329.extract 0 (ji22 : Int).toNat) ++ (x3_1.extract (ji22 : Int).toNat x3_1.size)) t336 t337 true _ A38.out).mono ?_); rintro e w54 ⟨rfl, hb⟩; have n0_ := Aside0.mk (below_step (by repeat (first | (with_reducible first | exact HB.out | apply below_alloc | apply pw_below_drewN | apply below_drew1) | exact HB.out)) hb); clear HB; have HB := n0_; clear n0_; (try clear hb); (try clear hb2); (try clear hk); (try clear hi))); try go_wp2_with (first | (go_at_call 11; (with_reducible refine (leaf_Ends.calls ((t329.extract 0 (ji22 : Int).toNat) ++ (x3_1.extract (ji22 : Int).toNat x3_1.size)) t334 t335 _ A37.out).mono ?_); rintro e w53 ⟨rfl, hb⟩; have n0_ := Aside0.mk (below_step (by repeat (first | (with_reducible first | exact HB.out | apply below_alloc | apply pw_below_drewN | apply below_drew1) | exact HB.out)) hb); clear HB; have HB := n0_; clear n0_; (try clear hb); (try clear hb2); (try clear hk); (try clear hi)) | (go_at_call 14; (with_reducible refine (leaf_Get.calls ((t329.extract 0 (ji22 : Int).toNat) ++ (x3_1.extract (ji22 : Int).toNat x3_1.size)) t336 t337 true _ A38.out).mono ?_); rintro e w54 ⟨rfl, hb⟩; have n0_ := Aside0.mk (below_step (by repeat (first | (with_reducible first | exact HB.out | apply below_alloc | apply pw_below_drewN | apply below_drew1) | exact HB.out)) hb); clear HB; have HB := n0_; clear n0_; (try clear hb); (try clear hb2); (try clear hk); (try clear hi))))
                                                  go_ret
                                                  exact ⟨by first | rfl | (simp [errW_none, errW_some] <;> rfl) | (simp only [← hji21, ← hji22]; first | rfl | (simp [errW_none, errW_some] <;> rfl)) | (simp [*, errW_none, errW_some] <;> rfl), by repeat (first | (with_reducible first | exact HB.out | apply below_alloc | apply pw_below_drewN | apply below_drew1) | exact HB.out)⟩
                                              · rw [if_neg c46] at H
                                                have c46b0 : (t336 == x4_31) = false := beq_eq_false_iff_ne.mpr c46
                                                have c46b1 : (t336 != x4_31) = true := bne_iff_ne.mpr c46
                                                obtain rfl := Option.some.inj H
                                                go_wp2_with (first | (go_at_call 11; (with_reducible refine (leaf_Ends.calls ((t329.extract 0 (ji22 : Int).toNat) ++ (x3_1.extract (ji22 : Int).toNat x3_1.size)) t334 t335 _ A37.out).mono ?_); rintro e w55 ⟨rfl, hb⟩; have n0_ := Aside0.mk (below_step (by repeat (first | (with_reducible first | exact HB.out | apply below_alloc | apply pw_below_drewN | apply below_drew1) | exact HB.out)) hb); clear HB; have HB := n0_; clear n0_; (try clear hb); (try clear hb2); (try clear hk); (try clear hi)) | (go_at_call 14; (with_reducible refine (leaf_Get.calls ((t329.extract 0 (ji22 : Int).toNat) ++ (x3_1.extract (ji22 : Int).toNat x3_1.size)) t336 t337 true _ A38.out).mono ?_); rintro e w56 ⟨rfl, hb⟩; have n0_ := Aside0.mk (below_step (by repeat (first | (with_reducible first | exact HB.out | apply below_alloc | apply pw_below_drewN | apply below_drew1) | exact HB.out)) hb); clear HB; have HB := n0_; clear n0_; (try clear hb); (try clear hb2); (try clear hk); (try clear hi)))
                                                repeat (go_quiet (first | (go_at_call 11; (with_reducible refine (leaf_Ends.calls ((t329.extract 0 (ji22 : Int).toNat) ++ (x3_1.extract (ji22 : Int).toNat x3_1.size)) t334 t335 _ A37.out).mono ?_); rintro e w55 ⟨rfl, hb⟩; have n0_ := Aside0.mk (below_step (by repeat (first | (with_reducible first | exact HB.out | apply below_alloc | apply pw_below_drewN | apply below_drew1) | exact HB.out)) hb); clear HB; have HB := n0_; clear n0_; (try clear hb); (try clear hb2); (try clear hk); (try clear hi)) | (go_at_call 14; (with_reducible refine (leaf_Get.calls ((t329.extract 0 (ji22 : Int).toNat) ++ (x3_1.extract (ji22 : Int).toNat x3_1.size)) t336 t337 true _ A38.out).mono ?_); rintro e w56 ⟨rfl, hb⟩; have n0_ := Aside0.mk (below_step (by repeat (first | (with_reducible first | exact HB.out | apply below_alloc | apply pw_below_drewN | apply below_drew1) | exact HB.out)) hb); clear HB; have HB := n0_; clear n0_; (try clear hb); (try clear hb2); (try clear hk); (try clear hi))); try go_wp2_with (first | (go_at_call 11; (with_reducible refine (leaf_Ends.calls ((t329.extract 0 (ji22 : Int).toNat) ++ (x3_1.extract (ji22 : Int).toNat x3_1.size)) t334 t335 _ A37.out).mono ?_); rintro e w55 ⟨rfl, hb⟩; have n0_ := Aside0.mk (below_step (by repeat (first | (with_reducible first | exact HB.out | apply below_alloc | apply pw_below_drewN | apply below_drew1) | exact HB.out)) hb); clear HB; have HB := n0_; clear n0_; (try clear hb); (try clear hb2); (try clear hk); (try clear hi)) | (go_at_call 14; (with_reducible refine (leaf_Get.calls ((t329.extract 0 (ji22 : Int).toNat) ++ (x3_1.extract (ji22 : Int).toNat x3_1.size)) t336 t337 true _ A38.out).mono ?_); rintro e w56 ⟨rfl, hb⟩; have n0_ := Aside0.mk (below_step (by repeat (first | (with_reducible first | exact HB.out | apply below_alloc | apply pw_below_drewN | apply below_drew1) | exact HB.out)) hb); clear HB; have HB := n0_; clear n0_; (try clear hb); (try clear hb2); (try clear hk); (try clear hi))))
                                                go_ret
                                                exact ⟨by first | rfl | (simp [errW_none, errW_some] <;> rfl) | (simp only [← hji21, ← hji22]; first | rfl | (simp [errW_none, errW_some] <;> rfl)) | (simp [*, errW_none, errW_some] <;> rfl), by repeat (first | (with_reducible first | exact HB.out | apply below_alloc | apply pw_below_drewN | apply below_drew1) | exact HB.out)⟩
                                            · replace c45 := Bool.eq_false_iff.mpr c45
                                              subst c45
                                              have H1 : (if ji22 = 64 then (some false) else (quittancelaw02_LeafTorn.l0 kj31 l0 ((t329.extract 0 (ji22 : Int).toNat) ++ (x3_1.extract (ji22 : Int).toNat x3_1.size)) x4_31 x5_31 (wrap64 (x6_1 + 1)))) = some r := by rw [if_neg (show ¬ (false = true) by decide)] at H; exact H
                                              clear H
                                              have H := H1
                                              clear H1
                                              by_cases c57 : ji22 = 64
                                              · rw [if_pos c57] at H
                                                have c57b0 : (ji22 == 64) = true := beq_iff_eq.mpr c57
                                                have c57b1 : (ji22 != 64) = false := bne_eq_false_iff_eq.mpr c57
                                                clear c57
                                                obtain rfl := Option.some.inj H
                                                go_wp2_with (first | (go_at_call 11; (with_reducible refine (leaf_Ends.calls ((t329.extract 0 (ji22 : Int).toNat) ++ (x3_1.extract (ji22 : Int).toNat x3_1.size)) t334 t335 _ A37.out).mono ?_); rintro e w58 ⟨rfl, hb⟩; have n0_ := Aside0.mk (below_step (by repeat (first | (with_reducible first | exact HB.out | apply below_alloc | apply pw_below_drewN | apply below_drew1) | exact HB.out)) hb); clear HB; have HB := n0_; clear n0_; (try clear hb); (try clear hb2); (try clear hk); (try clear hi)) | (go_at_call 14; (with_reducible refine (leaf_Get.calls ((t329.extract 0 (ji22 : Int).toNat) ++ (x3_1.extract (ji22 : Int).toNat x3_1.size)) t336 t337 false _ A38.out).mono ?_); rintro e w59 ⟨rfl, hb⟩; have n0_ := Aside0.mk (below_step (by repeat (first | (with_reducible first | exact HB.out | apply below_alloc | apply pw_below_drewN | apply below_drew1) | exact HB.out)) hb); clear HB; have HB := n0_; clear n0_; (try clear hb); (try clear hb2); (try clear hk); (try clear hi)))
                                                repeat (go_quiet (first | (go_at_call 11; (with_reducible refine (leaf_Ends.calls ((t329.extract 0 (ji22 : Int).toNat) ++ (x3_1.extract (ji22 : Int).toNat x3_1.size)) t334 t335 _ A37.out).mono ?_); rintro e w58 ⟨rfl, hb⟩; have n0_ := Aside0.mk (below_step (by repeat (first | (with_reducible first | exact HB.out | apply below_alloc | apply pw_below_drewN | apply below_drew1) | exact HB.out)) hb); clear HB; have HB := n0_; clear n0_; (try clear hb); (try clear hb2); (try clear hk); (try clear hi)) | (go_at_call 14; (with_reducible refine (leaf_Get.calls ((t329.extract 0 (ji22 : Int).toNat) ++ (x3_1.extract (ji22 : Int).toNat x3_1.size)) t336 t337 false _ A38.out).mono ?_); rintro e w59 ⟨rfl, hb⟩; have n0_ := Aside0.mk (below_step (by repeat (first | (with_reducible first | exact HB.out | apply below_alloc | apply pw_below_drewN | apply below_drew1) | exact HB.out)) hb); clear HB; have HB := n0_; clear n0_; (try clear hb); (try clear hb2); (try clear hk); (try clear hi))); try go_wp2_with (first | (go_at_call 11; (with_reducible refine (leaf_Ends.calls ((t329.extract 0 (ji22 : Int).toNat) ++ (x3_1.extract (ji22 : Int).toNat x3_1.size)) t334 t335 _ A37.out).mono ?_); rintro e w58 ⟨rfl, hb⟩; have n0_ := Aside0.mk (below_step (by repeat (first | (with_reducible first | exact HB.out | apply below_alloc | apply pw_below_drewN | apply below_drew1) | exact HB.out)) hb); clear HB; have HB := n0_; clear n0_; (try clear hb); (try clear hb2); (try clear hk); (try clear hi)) | (go_at_call 14; (with_reducible refine (leaf_Get.calls ((t329.extract 0 (ji22 : Int).toNat) ++ (x3_1.extract (ji22 : Int).toNat x3_1.size)) t336 t337 false _ A38.out).mono ?_); rintro e w59 ⟨rfl, hb⟩; have n0_ := Aside0.mk (below_step (by repeat (first | (with_reducible first | exact HB.out | apply below_alloc | apply pw_below_drewN | apply below_drew1) | exact HB.out)) hb); clear HB; have HB := n0_; clear n0_; (try clear hb); (try clear hb2); (try clear hk); (try clear hi))))
                                                go_ret
                                                exact ⟨by first | rfl | (simp [errW_none, errW_some] <;> rfl) | (simp only [← hji21, ← hji22]; first | rfl | (simp [errW_none, errW_some] <;> rfl)) | (simp [*, errW_none, errW_some] <;> rfl), by repeat (first | (with_reducible first | exact HB.out | apply below_alloc | apply pw_below_drewN | apply below_drew1) | exact HB.out)⟩
                                              · rw [if_neg c57] at H
                                                have c57b0 : (ji22 == 64) = false := beq_eq_false_iff_ne.mpr c57
                                                have c57b1 : (ji22 != 64) = true := bne_iff_ne.mpr c57
                                                have H' := Aside0.mk H
                                                clear H
                                                go_wp2_with (first | (go_at_call 11; (with_reducible refine (leaf_Ends.calls ((t329.extract 0 (ji22 : Int).toNat) ++ (x3_1.extract (ji22 : Int).toNat x3_1.size)) t334 t335 _ A37.out).mono ?_); rintro e w60 ⟨rfl, hb⟩; have n0_ := Aside0.mk (below_step (by repeat (first | (with_reducible first | exact HB.out | apply below_alloc | apply pw_below_drewN | apply below_drew1) | exact HB.out)) hb); clear HB; have HB := n0_; clear n0_; (try clear hb); (try clear hb2); (try clear hk); (try clear hi)) | (go_at_call 14; (with_reducible refine (leaf_Get.calls ((t329.extract 0 (ji22 : Int).toNat) ++ (x3_1.extract (ji22 : Int).toNat x3_1.size)) t336 t337 false _ A38.out).mono ?_); rintro e w61 ⟨rfl, hb⟩; have n0_ := Aside0.mk (below_step (by repeat (first | (with_reducible first | exact HB.out | apply below_alloc | apply pw_below_drewN | apply below_drew1) | exact HB.out)) hb); clear HB; have HB := n0_; clear n0_; (try clear hb); (try clear hb2); (try clear hk); (try clear hi)))
                                                repeat (go_quiet (first | (go_at_call 11; (with_reducible refine (leaf_Ends.calls ((t329.extract 0 (ji22 : Int).toNat) ++ (x3_1.extract (ji22 : Int).toNat x3_1.size)) t334 t335 _ A37.out).mono ?_); rintro e w60 ⟨rfl, hb⟩; have n0_ := Aside0.mk (below_step (by repeat (first | (with_reducible first | exact HB.out | apply below_alloc | apply pw_below_drewN | apply below_drew1) | exact HB.out)) hb); clear HB; have HB := n0_; clear n0_; (try clear hb); (try clear hb2); (try clear hk); (try clear hi)) | (go_at_call 14; (with_reducible refine (leaf_Get.calls ((t329.extract 0 (ji22 : Int).toNat) ++ (x3_1.extract (ji22 : Int).toNat x3_1.size)) t336 t337 false _ A38.out).mono ?_); rintro e w61 ⟨rfl, hb⟩; have n0_ := Aside0.mk (below_step (by repeat (first | (with_reducible first | exact HB.out | apply below_alloc | apply pw_below_drewN | apply below_drew1) | exact HB.out)) hb); clear HB; have HB := n0_; clear n0_; (try clear hb); (try clear hb2); (try clear hk); (try clear hi))); try go_wp2_with (first | (go_at_call 11; (with_reducible refine (leaf_Ends.calls ((t329.extract 0 (ji22 : Int).toNat) ++ (x3_1.extract (ji22 : Int).toNat x3_1.size)) t334 t335 _ A37.out).mono ?_); rintro e w60 ⟨rfl, hb⟩; have n0_ := Aside0.mk (below_step (by repeat (first | (with_reducible first | exact HB.out | apply below_alloc | apply pw_below_drewN | apply below_drew1) | exact HB.out)) hb); clear HB; have HB := n0_; clear n0_; (try clear hb); (try clear hb2); (try clear hk); (try clear hi)) | (go_at_call 14; (with_reducible refine (leaf_Get.calls ((t329.extract 0 (ji22 : Int).toNat) ++ (x3_1.extract (ji22 : Int).toNat x3_1.size)) t336 t337 false _ A38.out).mono ?_); rintro e w61 ⟨rfl, hb⟩; have n0_ := Aside0.mk (below_step (by repeat (first | (with_reducible first | exact HB.out | apply below_alloc | apply pw_below_drewN | apply below_drew1) | exact HB.out)) hb); clear HB; have HB := n0_; clear n0_; (try clear hb); (try clear hb2); (try clear hk); (try clear hi))))
                                                go_roundg kj31
                                                case measure => have := HK1.out; have := HJ10.out; have := HJ22.out; have := HJ31.out; omega
                                                case rel => exact ⟨(((t329.extract 0 (ji22 : Int).toNat) ++ (x3_1.extract (ji22 : Int).toNat x3_1.size))), (x4_31), (x5_31), (wrap64 (x6_1 + 1)), (by first | rfl | (simp; done) | (simp only [← hji22] <;> (first | rfl | simp)) | (simp [*]; done)), (by first | rfl | (simp; done) | (simp [*]; done)), (by first | rfl | (simp; done) | (simp [*]; done)), (by first | rfl | (simp; done) | (simp [*]; done)), H', ⟨by have := HK1.out; have := HJ10.out; have := HJ22.out; have := HJ31.out; omega⟩, ⟨by repeat (first | (with_reducible first | exact HB.out | apply below_alloc | apply pw_below_drewN | apply below_drew1) | exact HB.out)⟩⟩
                                  · rw [if_neg c31] at H
                                    exact absurd H (by simp)
                                · rw [if_neg c30] at H
                                  exact absurd H (by simp)
                              · rw [if_neg c28] at H
                                exact absurd H (by simp)
                            · rw [if_neg c27] at H
                              exact absurd H (by simp)
                    · rw [if_neg c19] at H
                      exact absurd H (by simp)
                  · rw [if_neg c18] at H
                    exact absurd H (by simp)
          · rw [if_neg c9] at H
            have c9b0 : decide (x6_1 < (l0.length : Int)) = false := decide_eq_false c9
            clear c9
            replace H := Option.bind_eq_some_iff.mp H
            obtain ⟨t322, A620, H⟩ := H
            replace H : (some t322) = some r := H
            have A62 := Aside0.mk A620
            clear A620
            obtain rfl := Option.some.inj H
            go_wp2_with (first | (go_at_call 10; (with_reducible refine (quittancelaw02_head.calls k1  t322 _ A62.out).mono ?_); rintro e w63 ⟨rfl, hb⟩; have n0_ := Aside0.mk (below_step (by repeat (first | (with_reducible first | exact HB.out | apply below_alloc | apply pw_below_drewN | apply below_drew1) | exact HB.out)) hb); clear HB; have HB := n0_; clear n0_; (try clear hb); (try clear hb2); (try clear hk); (try clear hi)))
            repeat (go_quiet (first | (go_at_call 10; (with_reducible refine (quittancelaw02_head.calls k1  t322 _ A62.out).mono ?_); rintro e w63 ⟨rfl, hb⟩; have n0_ := Aside0.mk (below_step (by repeat (first | (with_reducible first | exact HB.out | apply below_alloc | apply pw_below_drewN | apply below_drew1) | exact HB.out)) hb); clear HB; have HB := n0_; clear n0_; (try clear hb); (try clear hb2); (try clear hk); (try clear hi))); try go_wp2_with (first | (go_at_call 10; (with_reducible refine (quittancelaw02_head.calls k1  t322 _ A62.out).mono ?_); rintro e w63 ⟨rfl, hb⟩; have n0_ := Aside0.mk (below_step (by repeat (first | (with_reducible first | exact HB.out | apply below_alloc | apply pw_below_drewN | apply below_drew1) | exact HB.out)) hb); clear HB; have HB := n0_; clear n0_; (try clear hb); (try clear hb2); (try clear hk); (try clear hi))))
            go_ret
            exact ⟨by first | rfl | (simp [errW_none, errW_some] <;> rfl) | (simp [*, errW_none, errW_some] <;> rfl), by repeat (first | (with_reducible first | exact HB.out | apply below_alloc | apply pw_below_drewN | apply below_drew1) | exact HB.out)⟩
    · rw [if_neg c5] at H
      exact absurd H (by simp)

end Go.Proofs.Ytfjjngipjabfpaa.Q
