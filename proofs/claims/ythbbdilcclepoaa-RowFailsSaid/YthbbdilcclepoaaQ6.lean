-- MADE BY xrun.sh, a turned copy of the kit's print: not typed by hand
import Derived.Test.YthbbdilcclepoaaQ0
import Derived.Test.YthbbdilcclepoaaQ1
import Derived.Test.YthbbdilcclepoaaQ2
namespace Go.Proofs.Ythbbdilcclepoaa.Q
open Go.RowKit Go.Proofs.YthbbdilcclepoaaW.PrintWords Go.Proofs.YthbbdilcclepoaaW.PrintLast Go.Proofs.YthbbdilcclepoaaW.PrintMore
attribute [local go_sem] max2_int min2_int max_two min_two max_three min_three max_four min_four   -- for this text's walks alone
set_option linter.unusedVariables false
set_option linter.unusedSimpArgs false

/-! ### quittanceref05_Begins: function 26 -/
def quittanceref05_Begins.f (k : Nat) (l0 : List ByteArray) (l1 : List ByteArray) (l2 : List ByteArray) : Option (Bool) := if (l0.length : Int) < (l1.length : Int) then (some false) else (if (l0.length : Int) > (wrap64 ((l1.length : Int) + (l2.length : Int))) then (some false) else ((some (([] : List ByteArray) : List ByteArray)).bind fun y208 => (if y208.length + l1.length < 8796093022208 then ((some (y208 ++ l1 : List ByteArray)).bind fun y211 => (if y211.length + l2.length < 8796093022208 then ((some (y211 ++ l2 : List ByteArray)).bind fun y214 => (if 0 ≤ (l0.length : Int) then (if (l0.length : Int) ≤ (y214.length : Int) then ((quittanceref01_Same.f k l0 (y214.take ((l0.length : Int) : Int).toNat)).bind fun t221 => (some t221)) else (none)) else (none))) else (none))) else (none))))
theorem quittanceref05_Begins.mono : ∀ a0 a1 a2 k, LeO (quittanceref05_Begins.f k a0 a1 a2) (quittanceref05_Begins.f (k + 1) a0 a1 a2) := by
 intro a0 a1 a2 k
 unfold quittanceref05_Begins.f
 repeat' first
   | (with_reducible exact quittanceref01_Same.mono _ _ _)
   | (with_reducible exact LeO.refl _)
   | (with_reducible exact LeO.none _)
   | (with_reducible refine LeO.ite ?_ ?_)
   | (with_reducible refine LeO.bind ?_ (fun _ => ?_))
   | exact quittanceref01_Same.mono _ _ _
   | exact LeO.none _
   | refine LeO.ite ?_ ?_
   | refine LeO.bind ?_ (fun _ => ?_)
set_option maxHeartbeats 8000000 in
set_option maxRecDepth 100000 in
theorem quittanceref05_Begins.calls (k : Nat) (A0 : Option Addr) (c0 : Nat) (l0 : List ByteArray) (A1 : Option Addr) (c1 : Nat) (l1 : List ByteArray) (A2 : Option Addr) (c2 : Nat) (l2 : List ByteArray) (r : Bool) (w : World) (hr0 : Kd.C Kd.string w A0 l0.length l0) (hc0 : l0.length ≤ c0) (hr1 : Kd.C Kd.string w A1 l1.length l1) (hc1 : l1.length ≤ c1) (hr2 : Kd.C Kd.string w A2 l2.length l2) (hc2 : l2.length ≤ c2) (h : quittanceref05_Begins.f k l0 l1 l2 = some r) :
  Calls Try.prog 26 #[.slice A0 l0.length c0, .slice A1 l1.length c1, .slice A2 l2.length c2] w fun e w' => e = .returned (.bool r) ∧ Below w.heap.size w w' := by
 have HR0 := Aside0.mk hr0
 have HC0 := Aside0.mk hc0
 clear hr0 hc0
 have HR1 := Aside0.mk hr1
 have HC1 := Aside0.mk hc1
 clear hr1 hc1
 have HR2 := Aside0.mk hr2
 have HC2 := Aside0.mk hc2
 clear hr2 hc2
 have HB := Aside0.mk (Below.refl w.heap.size w)
 have H : (if (l0.length : Int) < (l1.length : Int) then (some false) else (if (l0.length : Int) > (wrap64 ((l1.length : Int) + (l2.length : Int))) then (some false) else ((some (([] : List ByteArray) : List ByteArray)).bind fun y208 => (if y208.length + l1.length < 8796093022208 then ((some (y208 ++ l1 : List ByteArray)).bind fun y211 => (if y211.length + l2.length < 8796093022208 then ((some (y211 ++ l2 : List ByteArray)).bind fun y214 => (if 0 ≤ (l0.length : Int) then (if (l0.length : Int) ≤ (y214.length : Int) then ((quittanceref01_Same.f k l0 (y214.take ((l0.length : Int) : Int).toNat)).bind fun t221 => (some t221)) else (none)) else (none))) else (none))) else (none))))) = some r := h
 clear h
 by_cases c4 : (l0.length : Int) < (l1.length : Int)
 ·
  rw [if_pos c4] at H
  have c4b0 : decide ((l0.length : Int) < (l1.length : Int)) = true := decide_eq_true c4
  have c4b1 : decide (l0.length < l1.length) = true := decide_eq_true (Int.ofNat_lt.mp c4)
  clear c4
  obtain rfl := Option.some.inj H
  go_enter Try.func26, Try.ntmps26
  go_wp2
  go_ret
  exact ⟨by first | rfl | (simp [errW_none, errW_some] <;> rfl) | (simp [*, errW_none, errW_some] <;> rfl), by repeat (first | (with_reducible first | exact HB.out | apply below_alloc | apply pw_below_drewN | apply below_drew1) | exact HB.out)⟩
 ·
  rw [if_neg c4] at H
  have c4b0 : decide ((l0.length : Int) < (l1.length : Int)) = false := decide_eq_false c4
  have c4b1 : decide (l0.length < l1.length) = false := decide_eq_false (fun h => c4 (Int.ofNat_lt.mpr h))
  clear c4
  by_cases c5 : (l0.length : Int) > (wrap64 ((l1.length : Int) + (l2.length : Int)))
  ·
   rw [if_pos c5] at H
   have c5b0 : decide ((wrap64 ((l1.length : Int) + (l2.length : Int))) < (l0.length : Int)) = true := decide_eq_true c5
   clear c5
   obtain rfl := Option.some.inj H
   go_enter Try.func26, Try.ntmps26
   go_wp2
   go_ret
   exact ⟨by first | rfl | (simp [errW_none, errW_some] <;> rfl) | (simp [*, errW_none, errW_some] <;> rfl), by repeat (first | (with_reducible first | exact HB.out | apply below_alloc | apply pw_below_drewN | apply below_drew1) | exact HB.out)⟩
  ·
   rw [if_neg c5] at H
   have c5b0 : decide ((wrap64 ((l1.length : Int) + (l2.length : Int))) < (l0.length : Int)) = false := decide_eq_false c5
   clear c5
   obtain ⟨y208, hy208⟩ : ∃ y_ : List ByteArray, y_ = (([] : List ByteArray)) := ⟨_, rfl⟩
   replace H : (if y208.length + l1.length < 8796093022208 then ((some (y208 ++ l1 : List ByteArray)).bind fun y211 => (if y211.length + l2.length < 8796093022208 then ((some (y211 ++ l2 : List ByteArray)).bind fun y214 => (if 0 ≤ (l0.length : Int) then (if (l0.length : Int) ≤ (y214.length : Int) then ((quittanceref01_Same.f k l0 (y214.take ((l0.length : Int) : Int).toNat)).bind fun t221 => (some t221)) else (none)) else (none))) else (none))) else (none)) = some r := by first | (rw [hy208]; with_reducible exact H) | (have H2_ := (Option.bind_some _ _).symm.trans H; rw [hy208]; with_reducible exact H2_) | (have H2_ := (Option.bind_some _ _).symm.trans H; with_reducible exact H2_) | with_reducible exact H | (rw [hy208]; exact H) | exact H
   have Ny208 := Aside0.mk hy208
   clear hy208
   by_cases c6 : y208.length + l1.length < 8796093022208
   ·
    rw [if_pos c6] at H
    have LMc6 := Aside0.mk c6
    clear c6
    obtain ⟨y211, hy211⟩ : ∃ y_ : List ByteArray, y_ = (y208 ++ l1) := ⟨_, rfl⟩
    replace H : (if y211.length + l2.length < 8796093022208 then ((some (y211 ++ l2 : List ByteArray)).bind fun y214 => (if 0 ≤ (l0.length : Int) then (if (l0.length : Int) ≤ (y214.length : Int) then ((quittanceref01_Same.f k l0 (y214.take ((l0.length : Int) : Int).toNat)).bind fun t221 => (some t221)) else (none)) else (none))) else (none)) = some r := by first | (rw [hy211]; with_reducible exact H) | (have H2_ := (Option.bind_some _ _).symm.trans H; rw [hy211]; with_reducible exact H2_) | (have H2_ := (Option.bind_some _ _).symm.trans H; with_reducible exact H2_) | with_reducible exact H | (rw [hy211]; exact H) | exact H
    have Ny211 := Aside0.mk hy211
    clear hy211
    by_cases c7 : y211.length + l2.length < 8796093022208
    ·
     rw [if_pos c7] at H
     have LMc7 := Aside0.mk c7
     clear c7
     obtain ⟨y214, hy214⟩ : ∃ y_ : List ByteArray, y_ = (y211 ++ l2) := ⟨_, rfl⟩
     replace H : (if 0 ≤ (l0.length : Int) then (if (l0.length : Int) ≤ (y214.length : Int) then ((quittanceref01_Same.f k l0 (y214.take ((l0.length : Int) : Int).toNat)).bind fun t221 => (some t221)) else (none)) else (none)) = some r := by first | (rw [hy214]; with_reducible exact H) | (have H2_ := (Option.bind_some _ _).symm.trans H; rw [hy214]; with_reducible exact H2_) | (have H2_ := (Option.bind_some _ _).symm.trans H; with_reducible exact H2_) | with_reducible exact H | (rw [hy214]; exact H) | exact H
     have Ny214 := Aside0.mk hy214
     clear hy214
     by_cases c8 : 0 ≤ (l0.length : Int)
     ·
      rw [if_pos c8] at H
      have c8b0 := eq_true c8
      have c8b1 : decide (0 ≤ (l0.length : Int)) = true := decide_eq_true c8
      clear c8
      by_cases c9 : (l0.length : Int) ≤ (y214.length : Int)
      ·
       rw [if_pos c9] at H
       have c9b0 := eq_true c9
       have c9b1 : decide ((l0.length : Int) ≤ (y214.length : Int)) = true := decide_eq_true c9
       clear c9
       obtain ⟨y217, hy217⟩ : ∃ y_ : List ByteArray, y_ = (y214.take ((l0.length : Int) : Int).toNat) := ⟨_, rfl⟩
       replace H : ((quittanceref01_Same.f k l0 y217).bind fun t221 => (some t221)) = some r := by first | (rw [hy217]; with_reducible exact H) | (have H2_ := (Option.bind_some _ _).symm.trans H; rw [hy217]; with_reducible exact H2_) | (have H2_ := (Option.bind_some _ _).symm.trans H; with_reducible exact H2_) | with_reducible exact H | (rw [hy217]; exact H) | exact H
       have Ny217 := Aside0.mk hy217
       clear hy217
       replace H := Option.bind_eq_some_iff.mp H
       obtain ⟨t221, A100, H⟩ := H
       replace H : (some t221) = some r := H
       have A10 := Aside0.mk A100
       clear A100
       obtain rfl := Option.some.inj H
       go_enter Try.func26, Try.ntmps26
       go_wp2_with (first | ((with_reducible refine gate_dst (N := 23) rfl ?_); (try (refine gate_guard (by rfl) ?_; dsimp only)); refine Kd.R_lit Kd.string _ 9 ?hg (N := 23) ?hd (xs := ([] : List ByteArray)) (inner := []) (ok := fun _ => True) (okp := fun _ => True) ?hr ?hp (fun _ hk => hk) trivial (Below.refl _ _) (Nat.le_refl _) (by simp) ?_; (case hd => rfl); (case hg => rfl); (case hr => first | (go_simp; done) | (go_simp; rfl)); (case hp => exact (Reps.none _ _)); intro v209 w11 ho12 hb hg_ hnew_; clear hg_ hnew_; (first | rw [← Ny208.out] at ho12 | (simp only [Int.reduceToNat] at ho12; rw [← Ny208.out] at ho12)); have n0_ := Aside0.mk (Kd.R_lower ho12 (below_size (by repeat (first | (with_reducible first | exact HB.out | apply below_alloc | apply pw_below_drewN | apply below_drew1) | exact HB.out)))); have n1_ := Aside0.mk (below_step (by repeat (first | (with_reducible first | exact HB.out | apply below_alloc | apply pw_below_drewN | apply below_drew1) | exact HB.out)) hb); clear HB; have HO210 := n0_; have HB := n1_; clear n0_ n1_; clear hb ho12) | ((with_reducible refine gate_builtin (b := .append) (xs := #[.tmp 23, .tmp 24]) rfl ?_); (try (refine gate_guard (by rfl) ?_; dsimp only)); at_builtin; refine Kd.R_append_rows Kd.string (w0 := w) w.heap.size rfl (.tmp 23) (.tmp 24) 22 9 (.string ⟨#[]⟩) 16 rfl Try.underlying22 info9 rfl (by decide) (by omega) v209 y208 l1 _ _ _ (fun _ => True) (fun _ => False) rfl rfl ?aO ?aR (fun _ _ h => h) (fun _ h => h.elim) ?aF ?aB ?aS ?aL ?_; (case aR => repeat (first | exact (Kd.C_below HR1.out HB.out) | (with_reducible refine Kd.C_alloc ?_ _) | (with_reducible refine Kd.C_drewN ?_ _) | (with_reducible refine Kd.C_drew ?_))); (case aB => exact (by repeat (first | (with_reducible first | exact HB.out | apply below_alloc | apply pw_below_drewN | apply below_drew1) | exact HB.out))); (case aF => exact (fun _ _ => trivial)); (case aO => exact (by (with_reducible repeat (first | apply Kd.R_alloc | apply Kd.R_drewN | apply Kd.R_drew)); exact HO210.out)); (case aS => exact (below_size (by repeat (first | (with_reducible first | exact HB.out | apply below_alloc | apply pw_below_drewN | apply below_drew1) | exact HB.out)))); (case aL => have := LMc6.out; omega); intro v212 w13 ho hb hg hat; rw [← Ny211.out] at ho; have n0_ := Aside0.mk (hb); have n1_ := Aside0.mk (ho); clear HB; clear HO210; have HB := n0_; have HO213 := n1_; clear n0_ n1_; clear ho hb hg hat) | ((with_reducible refine gate_builtin (b := .append) (xs := #[.tmp 25, .tmp 26]) rfl ?_); (try (refine gate_guard (by rfl) ?_; dsimp only)); at_builtin; refine Kd.R_append_rows Kd.string (w0 := w) w.heap.size rfl (.tmp 25) (.tmp 26) 22 9 (.string ⟨#[]⟩) 16 rfl Try.underlying22 info9 rfl (by decide) (by omega) v212 y211 l2 _ _ _ (fun _ => True) (fun _ => False) rfl rfl ?aO ?aR (fun _ _ h => h) (fun _ h => h.elim) ?aF ?aB ?aS ?aL ?_; (case aR => repeat (first | exact (Kd.C_below HR2.out HB.out) | (with_reducible refine Kd.C_alloc ?_ _) | (with_reducible refine Kd.C_drewN ?_ _) | (with_reducible refine Kd.C_drew ?_))); (case aB => exact (by repeat (first | (with_reducible first | exact HB.out | apply below_alloc | apply pw_below_drewN | apply below_drew1) | exact HB.out))); (case aF => exact (fun _ _ => trivial)); (case aO => exact (by (with_reducible repeat (first | apply Kd.R_alloc | apply Kd.R_drewN | apply Kd.R_drew)); exact HO213.out)); (case aS => exact (below_size (by repeat (first | (with_reducible first | exact HB.out | apply below_alloc | apply pw_below_drewN | apply below_drew1) | exact HB.out)))); (case aL => have := LMc7.out; omega); intro v215 w14 ho hb hg hat; rw [← Ny214.out] at ho; have n0_ := Aside0.mk (hb); have n1_ := Aside0.mk (ho); clear HB; clear HO213; have HB := n0_; have HO216 := n1_; clear n0_ n1_; clear ho hb hg hat; obtain ⟨Ao16, co16, eo16⟩ := Kd.R_slice HO216.out; subst eo16; have q15 : ((l0.length : Int) : Int) ≤ ((y214.length : Int) : Int) := of_decide_eq_true (by first | (with_reducible assumption) | assumption); obtain ⟨i015, hi015, _, hsz15, _⟩ := info_parts info9; have hroom15 : y214.length ≤ co16 := (Kd.R_reads' HO216.out).2.1; have hC15 : Kd.C Kd.string _ Ao16 y214.length y214 := (Kd.R_reads' HO216.out).2.2; have hcut15 := cut_to (P := Try.prog) 22 9 .i64 Try.underlying22 hi015 Ao16 y214.length co16 (l0.length : Int) (of_decide_eq_true (by first | (with_reducible assumption) | assumption)) q15 hroom15; have hr15 := Kd.C_take (m := ((l0.length : Int) : Int).toNat) hC15 (by omega); have hy15 : y217.length = ((l0.length : Int) : Int).toNat := (by rw [Ny217.out, List.length_take]; omega); rw [← Ny217.out] at hr15; rw [← hy15] at hcut15; have HR220 := Aside0.mk hr15; have HC220 := Aside0.mk (show y217.length ≤ co16 from by omega); clear hr15 hC15 hroom15 hi015 hsz15; have KY15 := Aside0.mk hy15; clear hy15; have KL15 := Aside0.mk (show ((l0.length : Int) : Int).toNat ≤ y214.length from by omega); replace q15 := eq_true q15) | ((with_reducible refine gate_callee (f := 28) rfl ?_); refine goesL_ (some 33) rfl rfl Try.func28 (by kernel_rfl) rfl #[.slice A0 l0.length c0, .slice Ao16 y217.length co16] rfl (by (try simp only [List.map_toArray, List.map_cons, List.map_nil]); first | done | rfl | (simp only [List.length_drop, List.length_take]; rfl)) ?_; (with_reducible refine (quittanceref01_Same.calls k _ _ l0 _ _ y217 t221 _ ?side1 ?side2 ?side3 ?side4 A10.out).mono ?_); (case side1 => repeat (first | exact (Kd.C_below HR0.out HB.out) | (with_reducible refine Kd.C_alloc ?_ _) | (with_reducible refine Kd.C_drewN ?_ _) | (with_reducible refine Kd.C_drew ?_))); (case side2 => exact HC0.out); (case side3 => repeat (first | exact (by repeat (first | (with_reducible exact HR220.out) | (with_reducible refine Kd.C_alloc ?_ _) | (with_reducible refine Kd.C_drewN ?_ _) | (with_reducible refine Kd.C_drew ?_) | exact HR220.out)) | (with_reducible refine Kd.C_alloc ?_ _) | (with_reducible refine Kd.C_drewN ?_ _) | (with_reducible refine Kd.C_drew ?_))); (case side4 => exact HC220.out); rintro e w' ⟨rfl, ⟨nd, rfl⟩⟩; refine ⟨_, rfl, ?_⟩))
       go_ret
       exact ⟨by first | rfl | (simp [errW_none, errW_some] <;> rfl) | (simp [*, errW_none, errW_some] <;> rfl), by repeat (first | (with_reducible first | exact HB.out | apply below_alloc | apply pw_below_drewN | apply below_drew1) | exact HB.out)⟩
      ·
       rw [if_neg c9] at H
       exact absurd H (by simp)
     ·
      rw [if_neg c8] at H
      exact absurd H (by simp)
    ·
     rw [if_neg c7] at H
     exact absurd H (by simp)
   ·
    rw [if_neg c6] at H
    exact absurd H (by simp)

end Go.Proofs.Ythbbdilcclepoaa.Q
