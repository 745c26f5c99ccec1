-- MADE BY xrun.sh, a turned copy of the kit's print: not typed by hand
import Derived.Test.YtknmbhllinbcjaaQ0
import Derived.Test.YtknmbhllinbcjaaQ2
import Derived.Test.YtknmbhllinbcjaaQ3
import Derived.Test.YtknmbhllinbcjaaG3
import Derived.Test.YtknmbhllinbcjaaG5
import Derived.Test.YtknmbhllinbcjaaL2
import Derived.Test.YtknmbhllinbcjaaQ7a
namespace Go.Proofs.Ytknmbhllinbcjaa.Q
open Go.RowKit Go.Proofs.YtknmbhllinbcjaaW.PrintWords Go.Proofs.YtknmbhllinbcjaaW.PrintLast Go.Proofs.YtknmbhllinbcjaaW.PrintMore
attribute [local go_sem] max2_int min2_int max_two min_two max_three min_three max_four min_four   -- for this text's walks alone
set_option linter.unusedVariables false
set_option linter.unusedSimpArgs false

def quittancelaw04_SheafTorn.T29 : Bool × List (List Nat × List Nat) := (true, [([], []), ([], []), ([], []), ([1, 2], [1, 2]), ([], []), ([], []), ([4, 5], [4, 5]), ([6], [6]), ([], []), ([7, 8], [7, 8]), ([], []), ([], []), ([], []), ([11, 12], [11, 12]), ([10, 13], [10, 13]), ([14], [14]), ([], []), ([15, 16], [15, 16]), ([9, 17], [9, 17]), ([0, 3, 0, 1, 2, 3, 4, 5, 6, 7, 8, 9, 10, 11, 12, 13, 14, 15, 16, 17, 18], [0, 3]), ([19, 18, 0, 1, 2, 3, 4, 5, 6, 7, 8, 9, 10, 11, 12, 13, 14, 15, 16, 17, 18], [18, 19])])
def quittancelaw04_SheafTorn.B29 : List Nat := [0, 0, 0, 6, 0, 0, 48, 112, 0, 496, 0, 0, 0, 6144, 15360, 31744, 0, 130048, 262128, 524287, 1048575]
theorem quittancelaw04_SheafTorn.tab29 : rtab .any (opsOf Try.f6 29) = quittancelaw04_SheafTorn.T29 := by kernel_rfl
theorem quittancelaw04_SheafTorn.bits29 : waitsOk quittancelaw04_SheafTorn.T29.2 quittancelaw04_SheafTorn.B29 = true := by kernel_rfl
set_option maxHeartbeats 8000000 in
set_option maxRecDepth 100000 in
theorem quittancelaw04_SheafTorn.calls (k : Nat) (A0 : Option Addr) (c0 : Nat) (l0 : List (S44)) (r : Bool) (w : World) (hr0 : Kd.C k44 w A0 l0.length l0) (hc0 : l0.length ≤ c0) (h : quittancelaw04_SheafTorn.f k l0 = some r) (hr : r = true) :
  Calls Try.prog 6 #[.slice A0 l0.length c0] w fun e w' => e = .returned (.bool r) ∧ Below w.heap.size w w' := by
 have hu44 := Try.underlying44
 have hu46 := Try.underlying46
 have HR0 := Aside0.mk hr0
 have HC0 := Aside0.mk hc0
 clear hr0 hc0
 have HB := Aside0.mk (Below.refl w.heap.size w)
 have H : (if 12 ≤ 17592186044416 then (quittancelaw04_SheafTorn.l0 k l0 (List.replicate 12 (⟨#[]⟩ : ByteArray)) 0) else (none)) = some r := h
 clear h
 by_cases c2 : 12 ≤ 17592186044416
 ·
  rw [if_pos c2] at H
  have c2b0 := eq_true c2
  have c2b1 : decide (12 ≤ 17592186044416) = true := decide_eq_true c2
  clear c2
  obtain ⟨y270, hy270⟩ : ∃ y_ : List ByteArray, y_ = (List.replicate 12 (⟨#[]⟩ : ByteArray)) := ⟨_, rfl⟩
  replace H : (quittancelaw04_SheafTorn.l0 k l0 y270 0) = some r := by first | (rw [hy270]; with_reducible exact H) | (have H2_ := (Option.bind_some _ _).symm.trans H; rw [hy270]; with_reducible exact H2_) | (have H2_ := (Option.bind_some _ _).symm.trans H; with_reducible exact H2_) | with_reducible exact H | (rw [hy270]; exact H) | exact H
  have Ny270 := Aside0.mk hy270
  clear hy270
  have H' := Aside0.mk H
  clear H
  go_enter Try.func6, Try.ntmps6
  go_wp2_with (first | ((with_reducible refine gate_dst (N := 27) rfl ?_); (try (refine gate_guard (by rfl) ?_; dsimp only)); refine Kd.R_make Kd.string _ 9 rfl (N := 27) rfl 24 _ _ rfl 12 rfl rfl Try.underlying24 (.string ⟨#[]⟩) 16 info9 rfl (by decide) (by omega) (⟨#[]⟩ : ByteArray) (ok := fun _ => True) (okp := fun _ => True) rfl (fun _ hk => hk) trivial (by omega) (by omega) (Below.refl _ _) (Nat.le_refl _) ?_; intro v271 w3 ho4 hb hg_ hnew_; clear hg_ hnew_; (first | rw [← Ny270.out] at ho4 | (simp only [Int.reduceToNat] at ho4; rw [← Ny270.out] at ho4)); have n0_ := Aside0.mk (Kd.R_lower ho4 (below_size (by repeat (first | (with_reducible first | exact HB.out | apply below_alloc | apply pw_below_drewN | apply below_drew1) | exact HB.out)))); have n1_ := Aside0.mk (below_step (by repeat (first | (with_reducible first | exact HB.out | apply below_alloc | apply pw_below_drewN | apply below_drew1) | exact HB.out)) hb); clear HB; have HO272 := n0_; have HB := n1_; clear n0_ n1_; clear hb ho4))
  go_loopg [4] k (fun kq v4 w' => ∃ (x3_1 : List ByteArray) (x4_1 : Int), v4 = .int .i64 x4_1 ∧ Aside0 (quittancelaw04_SheafTorn.l0 kq l0 x3_1 x4_1 = some r) ∧ Aside0 (kq ≤ k) ∧ Aside0 (Kd.R Kd.string 9 w' w.heap.size (fun _ => True) v271 x3_1) ∧ Aside0 (Below w.heap.size w w'))
  case atStart => exact ⟨(y270), (0), (by first | rfl | (simp; done) | (simp [*]; done)), H', ⟨Nat.le_refl _⟩, ⟨by (with_reducible repeat (first | apply Kd.R_alloc | apply Kd.R_drewN | apply Kd.R_drew)); exact HO272.out⟩, ⟨by repeat (first | (with_reducible first | exact HB.out | apply below_alloc | apply pw_below_drewN | apply below_drew1) | exact HB.out)⟩⟩
  case round => as_aux_lemma =>
   clear H'
   try clear c2
   try clear c2b0
   try clear c2b1
   try clear p2
   obtain ⟨x3_1, x4_1, rfl, HA, HK1, HO_3, HB⟩ := hrel
   cases gk with
   | zero => exact absurd HA.out (by simp [quittancelaw04_SheafTorn.l0])
   | succ k1 =>
    have H := HA.out
    clear HA
    simp only [quittancelaw04_SheafTorn.l0] at H
    by_cases c5 : x4_1 < (x3_1.length : Int)
    ·
     rw [if_pos c5] at H
     have c5b0 : decide (x4_1 < (x3_1.length : Int)) = true := decide_eq_true c5
     clear c5
     by_cases c6 : 64 ≤ 281474976710656
     ·
      rw [if_pos c6] at H
      have c6b0 := eq_true c6
      have c6b1 : decide (64 ≤ 281474976710656) = true := decide_eq_true c6
      clear c6
      obtain ⟨y273, hy273⟩ : ∃ y_ : List Int, y_ = (List.replicate 64 0) := ⟨_, rfl⟩
      replace H : (if 0 ≤ x4_1 then (quittancelaw04_SheafTorn.l0 k1 l0 (x3_1.set (x4_1 : Int).toNat (strOfNums y273)) (wrap64 (x4_1 + 1))) else (none)) = some r := by first | (rw [hy273]; with_reducible exact H) | (have H2_ := (Option.bind_some _ _).symm.trans H; rw [hy273]; with_reducible exact H2_) | (have H2_ := (Option.bind_some _ _).symm.trans H; with_reducible exact H2_) | with_reducible exact H | (rw [hy273]; exact H) | exact H
      have Ny273 := Aside0.mk hy273
      clear hy273
      by_cases c7 : 0 ≤ x4_1
      ·
       rw [if_pos c7] at H
       have c7b0 : decide (0 ≤ x4_1) = true := decide_eq_true c7
       clear c7
       obtain ⟨y276, hy276⟩ : ∃ y_ : List ByteArray, y_ = (x3_1.set (x4_1 : Int).toNat (strOfNums y273)) := ⟨_, rfl⟩
       replace H : (quittancelaw04_SheafTorn.l0 k1 l0 y276 (wrap64 (x4_1 + 1))) = some r := by first | (rw [hy276]; with_reducible exact H) | (have H2_ := (Option.bind_some _ _).symm.trans H; rw [hy276]; with_reducible exact H2_) | (have H2_ := (Option.bind_some _ _).symm.trans H; with_reducible exact H2_) | with_reducible exact H | (rw [hy276]; exact H) | exact H
       have Ny276 := Aside0.mk hy276
       clear hy276
       have H' := Aside0.mk H
       clear H
       obtain ⟨Ao9, co9, eo9⟩ := Kd.R_slice HO_3.out
       subst eo9
       go_wp2_with (first | ((with_reducible refine gate_dst (N := 36) rfl ?_); (try (refine gate_guard (by rfl) ?_; dsimp only)); refine Kd.R_make (Kd.int .u8) _ 5 rfl (N := 36) rfl 39 _ _ rfl 64 rfl rfl Try.underlying39 (.int .u8 0) 1 info5 rfl (by decide) (by omega) 0 (ok := fun _ => True) (okp := fun _ => True) rfl (fun _ hk => hk) trivial (by omega) (by omega) (Below.refl _ _) (Nat.le_refl _) ?_; intro v274 w10 ho11 hb hg_ hnew_; clear hg_ hnew_; (first | rw [← Ny273.out] at ho11 | (simp only [Int.reduceToNat] at ho11; rw [← Ny273.out] at ho11)); have n0_ := Aside0.mk (Kd.R_below (by (with_reducible repeat (first | apply Kd.R_alloc | apply Kd.R_drewN | apply Kd.R_drew)); exact HO_3.out) hb); have n1_ := Aside0.mk (Kd.R_lower ho11 (below_size (by repeat (first | (with_reducible first | exact HB.out | apply below_alloc | apply pw_below_drewN | apply below_drew1) | exact HB.out)))); have n2_ := Aside0.mk (below_step (by repeat (first | (with_reducible first | exact HB.out | apply below_alloc | apply pw_below_drewN | apply below_drew1) | exact HB.out)) hb); clear HO_3; clear HB; have HO_3 := n0_; have HO275 := n1_; have HB := n2_; clear n0_ n1_ n2_; clear hb ho11; have hcv12 := own_string (P := Try.prog) Try.underlying39 Try.underlying5 Try.underlying9 (Kd.own_of_R HO275.out); have p8 : 0 ≤ (x4_1 : Int) := of_decide_eq_true (by first | (with_reducible assumption) | assumption); have q8 : (x4_1 : Int) < ((x3_1.length : Int) : Int) := of_decide_eq_true (by first | (with_reducible assumption) | assumption); obtain ⟨go8, co8, eo8, gb8, gl8, cl8, HG8⟩ := Kd.R_form HO_3.out (by omega); (first | cases eo8 | (injection eo8 with ea_ en_ ec_; (first | subst ea_ | (injection ea_ with ea_; subst ea_)); subst ec_; clear en_)); have GB8 := Aside0.mk gb8; have GG8 := Aside0.mk HG8; clear gb8 gl8 HG8; obtain ⟨hx8_0, hf8_0⟩ := Kd.R_celln (⟨#[]⟩ : ByteArray) HO_3.out (x4_1 : Int) p8 q8; replace p8 := eq_true p8; replace q8 := eq_true q8; obtain ⟨hy13_, hz13_⟩ := Kd.R_celln (⟨#[]⟩ : ByteArray) HO_3.out (x4_1 : Int) (of_decide_eq_true (by first | (with_reducible assumption) | assumption)) (of_decide_eq_true (by first | (with_reducible assumption) | assumption)); have HP13 := Kd.R_putg HO_3.out (x4_1 : Int) (strOfNums y273)) | ((with_reducible refine gate_store (t := 9) (p := 38) rfl ?_); refine store_event (t := 9) (p := 38) (v := ?vo_w14) (w1 := (w10.setCell ⟨go8, (x4_1 : Int).toNat, none⟩ (.string (strOfNums y273)))) ?hg ?ho ?hn ?hr ?_; (case ho => rfl); (case hg => rfl); (case hn => rfl); (case hr => first | (go_simp; done) | (go_simp; rfl)); intro w14 hw; have hg : w10.grownBy w14 (some go8) := (by rw [hw]; exact HP13.2); have hp_ : Kd.R Kd.string 9 w14 w.heap.size (fun _ => True) (.slice (some ⟨go8, 0, none⟩) x3_1.length co9) y276 := (by rw [hw, Ny276.out]; exact HP13.1); clear HP13; have n0_ := Aside0.mk (hp_); have n1_ := Aside0.mk (Kd.R_over' (v := (.slice (some ⟨go8, 0, none⟩) x3_1.length co9)) (by (with_reducible repeat (first | apply Kd.R_alloc | apply Kd.R_drewN | apply Kd.R_drew)); exact HO275.out) (Kd.R_typed HO_3.out) (by decide) hg); have n2_ := Aside0.mk ((by rw [hw]; exact below_set (HB.out) GB8.out : Below w.heap.size w w14)); clear HO_3; clear HO275; clear HB; have HO_3 := n0_; have HO275 := n1_; have HB := n2_; clear n0_ n1_ n2_; clear hg hw hp_))
       go_roundg k1
       case measure => have := HK1.out; omega
       case rel => exact ⟨(y276), (wrap64 (x4_1 + 1)), (by first | rfl | (simp; done) | (simp [*]; done)), H', ⟨by have := HK1.out; omega⟩, ⟨by (with_reducible repeat (first | apply Kd.R_alloc | apply Kd.R_drewN | apply Kd.R_drew)); exact HO_3.out⟩, ⟨by repeat (first | (with_reducible first | exact HB.out | apply below_alloc | apply pw_below_drewN | apply below_drew1) | exact HB.out)⟩⟩
      ·
       rw [if_neg c7] at H
       exact absurd H (by simp)
     ·
      rw [if_neg c6] at H
      exact absurd H (by simp)
    ·
     rw [if_neg c5] at H
     have c5b0 : decide (x4_1 < (x3_1.length : Int)) = false := decide_eq_false c5
     clear c5
     have H' := Aside0.mk H
     clear H
     obtain ⟨Ao15, co15, eo15⟩ := Kd.R_slice HO_3.out
     subst eo15
     go_wp2
     go_loopg [5, 6] k1 (fun kq v5 v6 w' => ∃ (x3_2 : List ByteArray) (x5_2 : List (S46)) (x6_2 : Int), v6 = .int .i64 x6_2 ∧ Aside0 (quittancelaw04_SheafTorn.l1 kq l0 x3_2 x5_2 x6_2 = some r) ∧ Aside0 (kq ≤ k1) ∧ Aside0 (Kd.R Kd.string 9 w' w.heap.size (fun _ => True) (.slice Ao15 x3_1.length co15) x3_2) ∧ Aside0 (Kd.R k46 46 w' w.heap.size (fun _ => True) v5 x5_2) ∧ Aside0 (Below w.heap.size w w'))
     case atStart => exact ⟨(x3_1), (([] : List (S46))), (0), (by first | rfl | (simp; done) | (simp [*]; done)), H', ⟨Nat.le_refl _⟩, ⟨by (with_reducible repeat (first | apply Kd.R_alloc | apply Kd.R_drewN | apply Kd.R_drew)); exact HO_3.out⟩, ⟨by first | exact Kd.R_nil _ _ _ _ _ | exact Kd.N_nil _ _ _ _ _ | exact Kd.V_nil _ _ _ _ _ | exact Kd.Q_nil _ _ _ _ _ | exact Kd.S_nil _ _ _ _ _⟩, ⟨by repeat (first | (with_reducible first | exact HB.out | apply below_alloc | apply pw_below_drewN | apply below_drew1) | exact HB.out)⟩⟩
     case round => as_aux_lemma =>
      clear H'
      try clear hcv1
      try clear c2
      try clear c2b0
      try clear c2b1
      try clear p2
      try clear c5
      try clear c5b0
      try clear c6
      try clear c6b0
      try clear c6b1
      try clear p6
      try clear c7
      try clear c7b0
      try clear p8
      try clear q8
      try clear hx8
      try clear hf8
      try clear hcv12
      try clear hx8_0
      try clear p2
      try clear p8
      try clear q8
      obtain ⟨x3_2, x5_2, x6_2, rfl, HA, HK2, HO_3, HO_5, HB⟩ := hrel
      have hl3_2 := (Kd.R_reads' HO_3.out).1
      rw [hl3_2] at HO_3
      (try simp only [hl3_2])
      (try simp only [hl3_2] at HO_5)
      cases gk with
      | zero => exact absurd HA.out (by simp [quittancelaw04_SheafTorn.l1])
      | succ k2 =>
       have H := HA.out
       clear HA
       simp only [quittancelaw04_SheafTorn.l1] at H
       have HC16 := Aside0.mk H
       clear H
       go_upto_region 8 with (fail)
       go_cut [46] (fun v46 wc => ∃ (kq : Nat) (x46_15 : Bool), v46 = .bool x46_15 ∧ Aside0 (quittancelaw04_SheafTorn.j2 kq l0 x3_2 x5_2 x6_2 x46_15 = some r) ∧ Aside0 (kq ≤ k2) ∧ Aside0 (Kd.R Kd.string 9 wc w.heap.size (fun _ => True) (.slice Ao15 x3_2.length co15) x3_2) ∧ Aside0 (Kd.R k46 46 wc w.heap.size (fun _ => True) u5 x5_2) ∧ Aside0 (Below w.heap.size w wc))
       case first => as_aux_lemma =>
        have H := HC16.out
        clear HC16
        by_cases c17 : x6_2 < (l0.length : Int)
        ·
         rw [if_pos c17] at H
         have c17b0 : decide (x6_2 < (l0.length : Int)) = true := decide_eq_true c17
         clear c17
         (first | rw [c17b0] | (simp only [i64_w, i32_w]; rw [c17b0]) | skip)
         have H' := Aside0.mk H
         clear H
         go_wp2
         go_meet
         case rel => exact ⟨_, (decide (x6_2 < 40)), (by first | rfl | (simp; done) | (simp [*]; done)), H', ⟨by have := HK1.out; have := HK2.out; first | omega | exact Nat.le_refl _⟩, ⟨by (try simp only [hl3_2]); (with_reducible repeat (first | apply Kd.R_alloc | apply Kd.R_drewN | apply Kd.R_drew)); exact HO_3.out⟩, ⟨by (try simp only [hl3_2]); (with_reducible repeat (first | apply Kd.R_alloc | apply Kd.R_drewN | apply Kd.R_drew)); exact HO_5.out⟩, ⟨by repeat (first | (with_reducible first | exact HB.out | apply below_alloc | apply pw_below_drewN | apply below_drew1) | exact HB.out)⟩⟩
        ·
         rw [if_neg c17] at H
         have c17b0 : decide (x6_2 < (l0.length : Int)) = false := decide_eq_false c17
         clear c17
         (first | rw [c17b0] | (simp only [i64_w, i32_w]; rw [c17b0]) | skip)
         have H' := Aside0.mk H
         clear H
         go_wp2
         go_meet
         case rel => exact ⟨_, (false), (by first | rfl | (simp; done) | (simp [*]; done)), H', ⟨by have := HK1.out; have := HK2.out; first | omega | exact Nat.le_refl _⟩, ⟨by (try simp only [hl3_2]); (with_reducible repeat (first | apply Kd.R_alloc | apply Kd.R_drewN | apply Kd.R_drew)); exact HO_3.out⟩, ⟨by (try simp only [hl3_2]); (with_reducible repeat (first | apply Kd.R_alloc | apply Kd.R_drewN | apply Kd.R_drew)); exact HO_5.out⟩, ⟨by repeat (first | (with_reducible first | exact HB.out | apply below_alloc | apply pw_below_drewN | apply below_drew1) | exact HB.out)⟩⟩
       case rest => as_aux_lemma =>
        clear HC16
        try clear c1
        try clear hcv1
        try clear c2
        try clear c2b0
        try clear c2b1
        try clear p2
        try clear c5
        try clear c5b0
        try clear c6
        try clear c6b0
        try clear c6b1
        try clear p6
        try clear c7
        try clear c7b0
        try clear p8
        try clear q8
        try clear hx8
        try clear hf8
        try clear hcv12
        try clear c17
        try clear c17b0
        try clear hx8_0
        try clear p2
        try clear p6
        try clear p8
        try clear q8
        obtain ⟨kq, x46_15, rfl, HA, HJ15, HO_3, HO_5, HB⟩ := hcut
        cases kq with
        | zero => exact absurd HA.out (by simp [quittancelaw04_SheafTorn.j2])
        | succ kj15 =>
         have H := HA.out
         clear HA
         simp only [quittancelaw04_SheafTorn.j2] at H
         by_cases c18 : x46_15 = true
         ·
          subst c18
          have H1 : (if 0 ≤ x6_2 then (if x6_2 < (l0.length : Int) then ((sheaf_Top.f kj15 x3_2).bind fun t280 => (if t280 ≥ 9223372036854775808 then (quittancelaw04_SheafTorn.j3 kj15 l0 x3_2 x5_2 x6_2 t280 true ((rd_T44 l0 x6_2).f0) ((rd_T44 l0 x6_2).f1) ((rd_T44 l0 x6_2).f2) ((rd_T44 l0 x6_2).f3)) else (quittancelaw04_SheafTorn.j3 kj15 l0 x3_2 x5_2 x6_2 t280 (decide ((((rd_T44 l0 x6_2).f2).size : Int) > 400)) ((rd_T44 l0 x6_2).f0) ((rd_T44 l0 x6_2).f1) ((rd_T44 l0 x6_2).f2) ((rd_T44 l0 x6_2).f3)))) else (none)) else (none)) = some r := by rw [if_pos rfl] at H; exact H
          clear H
          have H := H1
          clear H1
          by_cases c19 : 0 ≤ x6_2
          ·
           rw [if_pos c19] at H
           have c19b0 : decide (0 ≤ x6_2) = true := decide_eq_true c19
           clear c19
           by_cases c20 : x6_2 < (l0.length : Int)
           ·
            rw [if_pos c20] at H
            have c20b0 : decide (x6_2 < (l0.length : Int)) = true := decide_eq_true c20
            clear c20
            replace H := Option.bind_eq_some_iff.mp H
            obtain ⟨t280, A210, H⟩ := H
            replace H : (if t280 ≥ 9223372036854775808 then (quittancelaw04_SheafTorn.j3 kj15 l0 x3_2 x5_2 x6_2 t280 true ((rd_T44 l0 x6_2).f0) ((rd_T44 l0 x6_2).f1) ((rd_T44 l0 x6_2).f2) ((rd_T44 l0 x6_2).f3)) else (quittancelaw04_SheafTorn.j3 kj15 l0 x3_2 x5_2 x6_2 t280 (decide ((((rd_T44 l0 x6_2).f2).size : Int) > 400)) ((rd_T44 l0 x6_2).f0) ((rd_T44 l0 x6_2).f1) ((rd_T44 l0 x6_2).f2) ((rd_T44 l0 x6_2).f3))) = some r := H
            have A21 := Aside0.mk A210
            clear A210
            have HC22 := Aside0.mk H
            clear H
            have p278 : 0 ≤ (x6_2 : Int) := of_decide_eq_true (by first | (with_reducible assumption) | assumption)
            have q278 : x6_2 < (l0.length : Int) := of_decide_eq_true (by first | (with_reducible assumption) | assumption)
            obtain ⟨ad278, A278_3, c278_3, e278, hx278_0, hx278_1, hx278_2, hx278_3, hl278_3, hi278_3⟩ := at_T44 HR0.out x6_2 p278 q278
            cases e278
            replace hx278_0 := (HB.out.cell (World.block_lt_of_cell? w _ hx278_0)).trans hx278_0
            replace hx278_1 := (HB.out.cell (World.block_lt_of_cell? w _ hx278_1)).trans hx278_1
            replace hx278_2 := (HB.out.cell (World.block_lt_of_cell? w _ hx278_2)).trans hx278_2
            replace hx278_3 := (HB.out.cell (World.block_lt_of_cell? w _ hx278_3)).trans hx278_3
            have HR278_3 := Aside0.mk hi278_3
            have HC278_3 := Aside0.mk hl278_3
            clear hi278_3 hl278_3
            replace p278 := eq_true p278
            replace q278 := eq_true q278
            go_upto_region 12 with (first | ((with_reducible refine gate_dst (N := 7) rfl ?_); (try (refine gate_guard (by rfl) ?_; dsimp only)); refine box_event ?hg (N := 7) ?hd (cs := #[.int .u8 0, .int .u16 0, .string (⟨#[]⟩ : ByteArray), .slice none 0 0]) (t := 44) ?hr ?_; (case hd => rfl); (case hg => rfl); (case hr => first | (go_simp; done) | (go_simp; rfl)); intro gb279 hg w23 hbox hb; have n0_ := Aside0.mk (Kd.R_below (by (with_reducible repeat (first | apply Kd.R_alloc | apply Kd.R_drewN | apply Kd.R_drew)); exact HO_3.out) hb); have n1_ := Aside0.mk (Kd.R_below (by (with_reducible repeat (first | apply Kd.R_alloc | apply Kd.R_drewN | apply Kd.R_drew)); exact HO_5.out) hb); have n2_ := Aside0.mk (below_step (by repeat (first | (with_reducible first | exact HB.out | apply below_alloc | apply pw_below_drewN | apply below_drew1) | exact HB.out)) hb); have n3_ := Aside0.mk (hbox); have n4_ := Aside0.mk ((by rw [hg]; exact (below_size (by repeat (first | (with_reducible first | exact HB.out | apply below_alloc | apply pw_below_drewN | apply below_drew1) | exact HB.out))) : w.heap.size ≤ gb279)); have n5_ := Aside0.mk ((by rw [hg]; exact (below_size (by repeat (first | (with_reducible first | exact HB.out | apply below_alloc | apply pw_below_drewN | apply below_drew1) | exact HB.out))) : w.heap.size ≤ gb279)); clear HO_3; clear HO_5; clear HB; have HO_3 := n0_; have HO_5 := n1_; have HB := n2_; have BK279 := n3_; have GW279 := n4_; have GE279 := n5_; clear n0_ n1_ n2_ n3_ n4_ n5_; clear hb hbox hg; have hcz24_0 : w23.cell? ⟨gb279, 0, none⟩ = some (.int .u8 0) := (blk_cell BK279.out 0).trans rfl; have hcz24_1 : w23.cell? ⟨gb279, 1, none⟩ = some (.int .u16 0) := (blk_cell BK279.out 1).trans rfl; have hcz24_2 : w23.cell? ⟨gb279, 2, none⟩ = some (.string (⟨#[]⟩ : ByteArray)) := (blk_cell BK279.out 2).trans rfl; have hcz24_3 : w23.cell? ⟨gb279, 3, none⟩ = some (.slice none 0 0) := (blk_cell BK279.out 3).trans rfl; have hfz24_0 := blk_frozen BK279.out 0; have hfz24_1 := blk_frozen BK279.out 1; have hfz24_2 := blk_frozen BK279.out 2; have hfz24_3 := blk_frozen BK279.out 3) | ((with_reducible refine gate_callee (f := 16) rfl ?_); refine goesL_ (some 54) rfl rfl Try.func16 (by kernel_rfl) rfl #[.slice Ao15 x3_2.length co15] rfl (by (try simp only [List.map_toArray, List.map_cons, List.map_nil]); first | done | rfl | (simp only [List.length_drop, List.length_take]; rfl)) ?_; (with_reducible refine (sheaf_Top.calls kj15 _ _ x3_2 t280 _ ?side1 ?side2 A21.out).mono ?_); (case side1 => refine (Kd.R_reads' (e := 9) (base := w.heap.size) (ok := fun k_ => True) (n := x3_2.length) (c := co15) ?_).2.2; exact (by (with_reducible repeat (first | apply Kd.R_alloc | apply Kd.R_drewN | apply Kd.R_drew)); exact (Kd.R_mono (Kd.R_far (p := ⟨gb279, 3, none⟩) (Kd.R_far (p := ⟨gb279, 2, none⟩) (Kd.R_far (p := ⟨gb279, 1, none⟩) (Kd.R_far (p := ⟨gb279, 0, none⟩) (Kd.R_types HO_3.out BK279.out (by decide)) (fun _ hk => hk.2) (.int .u8 ((rd_T44 l0 x6_2).f0))) (fun _ hk => hk.2) (.int .u16 ((rd_T44 l0 x6_2).f1))) (fun _ hk => hk.2) (.string ((rd_T44 l0 x6_2).f2))) (fun _ hk => hk.2) (.slice A278_3 ((rd_T44 l0 x6_2).f3).length c278_3)) (fun _ h_ => h_.1)))); (case side2 => exact (Kd.R_reads' HO_3.out).2.1); rintro e w25 ⟨rfl, hb⟩; refine ⟨_, rfl, ?_⟩; have n0_ := Aside0.mk (Kd.R_below (by (with_reducible repeat (first | apply Kd.R_alloc | apply Kd.R_drewN | apply Kd.R_drew)); exact (Kd.R_mono (Kd.R_far (p := ⟨gb279, 3, none⟩) (Kd.R_far (p := ⟨gb279, 2, none⟩) (Kd.R_far (p := ⟨gb279, 1, none⟩) (Kd.R_far (p := ⟨gb279, 0, none⟩) (Kd.R_types HO_3.out BK279.out (by decide)) (fun _ hk => hk.2) (.int .u8 ((rd_T44 l0 x6_2).f0))) (fun _ hk => hk.2) (.int .u16 ((rd_T44 l0 x6_2).f1))) (fun _ hk => hk.2) (.string ((rd_T44 l0 x6_2).f2))) (fun _ hk => hk.2) (.slice A278_3 ((rd_T44 l0 x6_2).f3).length c278_3)) (fun _ h_ => h_.1))) hb); have n1_ := Aside0.mk (Kd.R_below (by (with_reducible repeat (first | apply Kd.R_alloc | apply Kd.R_drewN | apply Kd.R_drew)); exact (Kd.R_mono (Kd.R_far (p := ⟨gb279, 3, none⟩) (Kd.R_far (p := ⟨gb279, 2, none⟩) (Kd.R_far (p := ⟨gb279, 1, none⟩) (Kd.R_far (p := ⟨gb279, 0, none⟩) (Kd.R_types HO_5.out BK279.out (by decide)) (fun _ hk => hk.2) (.int .u8 ((rd_T44 l0 x6_2).f0))) (fun _ hk => hk.2) (.int .u16 ((rd_T44 l0 x6_2).f1))) (fun _ hk => hk.2) (.string ((rd_T44 l0 x6_2).f2))) (fun _ hk => hk.2) (.slice A278_3 ((rd_T44 l0 x6_2).f3).length c278_3)) (fun _ h_ => h_.1))) hb); have n2_ := Aside0.mk (blk_below (g := gb279) (o := .cells #[.int .u8 ((rd_T44 l0 x6_2).f0), .int .u16 ((rd_T44 l0 x6_2).f1), .string ((rd_T44 l0 x6_2).f2), .slice A278_3 ((rd_T44 l0 x6_2).f3).length c278_3] 44 (0, 0)) (by (with_reducible repeat (first | refine blk_drewN ?_ _ | refine blk_drew ?_ | refine blk_alloc ?_ _)); refine blk_put (cs := #[.int .u8 ((rd_T44 l0 x6_2).f0), .int .u16 ((rd_T44 l0 x6_2).f1), .string ((rd_T44 l0 x6_2).f2), .slice none 0 0]) ?_ 3 _ rfl; (with_reducible repeat (first | refine blk_drewN ?_ _ | refine blk_drew ?_ | refine blk_alloc ?_ _)); refine blk_put (cs := #[.int .u8 ((rd_T44 l0 x6_2).f0), .int .u16 ((rd_T44 l0 x6_2).f1), .string (⟨#[]⟩ : ByteArray), .slice none 0 0]) ?_ 2 _ rfl; (with_reducible repeat (first | refine blk_drewN ?_ _ | refine blk_drew ?_ | refine blk_alloc ?_ _)); refine blk_put (cs := #[.int .u8 ((rd_T44 l0 x6_2).f0), .int .u16 0, .string (⟨#[]⟩ : ByteArray), .slice none 0 0]) ?_ 1 _ rfl; (with_reducible repeat (first | refine blk_drewN ?_ _ | refine blk_drew ?_ | refine blk_alloc ?_ _)); refine blk_put (cs := #[.int .u8 0, .int .u16 0, .string (⟨#[]⟩ : ByteArray), .slice none 0 0]) ?_ 0 _ rfl; (with_reducible repeat (first | refine blk_drewN ?_ _ | refine blk_drew ?_ | refine blk_alloc ?_ _)); exact BK279.out) hb); have n3_ := Aside0.mk (below_step (by repeat (first | (with_reducible first | exact HB.out | apply below_alloc | apply pw_below_drewN | apply below_drew1 | refine below_set ?_ GE279.out) | exact HB.out)) hb); clear HO_3; clear HO_5; clear BK279; clear HB; have HO_3 := n0_; have HO_5 := n1_; have BK279 := n2_; have HB := n3_; clear n0_ n1_ n2_ n3_; (try clear hb); (try clear hb2); (try clear hk); (try clear hi)))
            (try simp only [Act.put, List.setIfInBounds_toArray, List.set_cons_zero, List.set_cons_succ])
            go_cut [62] (fun v62 wc => ∃ (kq : Nat) (x62_21 : Bool), v62 = .bool x62_21 ∧ Aside0 (quittancelaw04_SheafTorn.j3 kq l0 x3_2 x5_2 x6_2 t280 x62_21 ((rd_T44 l0 x6_2).f0) ((rd_T44 l0 x6_2).f1) ((rd_T44 l0 x6_2).f2) ((rd_T44 l0 x6_2).f3) = some r) ∧ Aside0 (kq ≤ kj15) ∧ Aside0 (Kd.R Kd.string 9 wc w.heap.size (fun _ => True) (.slice Ao15 x3_2.length co15) x3_2) ∧ Aside0 (Kd.R k46 46 wc w.heap.size (fun _ => True) u5 x5_2) ∧ Aside0 (wc.heap[gb279]? = some (.cells #[.int .u8 ((rd_T44 l0 x6_2).f0), .int .u16 ((rd_T44 l0 x6_2).f1), .string ((rd_T44 l0 x6_2).f2), (.slice A278_3 ((rd_T44 l0 x6_2).f3).length c278_3)] 44 (0, 0))) ∧ Aside0 (Below w.heap.size w wc))
            case first => as_aux_lemma =>
             have H := HC22.out
             clear HC22
             by_cases c26 : t280 ≥ 9223372036854775808
             ·
              rw [if_pos c26] at H
              have c26b0 : decide (9223372036854775808 ≤ t280) = true := decide_eq_true c26
              clear c26
              (first | rw [c26b0] | (simp only [i64_w, i32_w]; rw [c26b0]) | skip)
              have H' := Aside0.mk H
              clear H
              go_wp2
              go_meet
              case rel => exact ⟨_, (true), (by first | rfl | (simp; done) | (simp [*]; done)), H', ⟨by have := HK1.out; have := HK2.out; have := HJ15.out; first | omega | exact Nat.le_refl _⟩, ⟨by (try simp only [hl3_2]); (with_reducible repeat (first | apply Kd.R_alloc | apply Kd.R_drewN | apply Kd.R_drew)); exact HO_3.out⟩, ⟨by (try simp only [hl3_2]); (with_reducible repeat (first | apply Kd.R_alloc | apply Kd.R_drewN | apply Kd.R_drew)); exact HO_5.out⟩, ⟨by (try simp only [hl3_2]); (with_reducible repeat (first | refine blk_drewN ?_ _ | refine blk_drew ?_ | refine blk_alloc ?_ _)); exact BK279.out⟩, ⟨by repeat (first | (with_reducible first | exact HB.out | apply below_alloc | apply pw_below_drewN | apply below_drew1 | refine below_set ?_ GE279.out) | exact HB.out)⟩⟩
             ·
              rw [if_neg c26] at H
              have c26b0 : decide (9223372036854775808 ≤ t280) = false := decide_eq_false c26
              clear c26
              (first | rw [c26b0] | (simp only [i64_w, i32_w]; rw [c26b0]) | skip)
              have H' := Aside0.mk H
              clear H
              have hcz27_0 : w25.cell? ⟨gb279, 0, none⟩ = some (.int .u8 ((rd_T44 l0 x6_2).f0)) := (blk_cell BK279.out 0).trans rfl
              have hcz27_1 : w25.cell? ⟨gb279, 1, none⟩ = some (.int .u16 ((rd_T44 l0 x6_2).f1)) := (blk_cell BK279.out 1).trans rfl
              have hcz27_2 : w25.cell? ⟨gb279, 2, none⟩ = some (.string ((rd_T44 l0 x6_2).f2)) := (blk_cell BK279.out 2).trans rfl
              have hcz27_3 : w25.cell? ⟨gb279, 3, none⟩ = some (.slice A278_3 ((rd_T44 l0 x6_2).f3).length c278_3) := (blk_cell BK279.out 3).trans rfl
              have hfz27_0 := blk_frozen BK279.out 0
              have hfz27_1 := blk_frozen BK279.out 1
              have hfz27_2 := blk_frozen BK279.out 2
              have hfz27_3 := blk_frozen BK279.out 3
              go_wp2
              go_meet
              case rel => exact ⟨_, (decide ((((rd_T44 l0 x6_2).f2).size : Int) > 400)), (by first | rfl | (simp; done) | (simp [*]; done)), H', ⟨by have := HK1.out; have := HK2.out; have := HJ15.out; first | omega | exact Nat.le_refl _⟩, ⟨by (try simp only [hl3_2]); (with_reducible repeat (first | apply Kd.R_alloc | apply Kd.R_drewN | apply Kd.R_drew)); exact HO_3.out⟩, ⟨by (try simp only [hl3_2]); (with_reducible repeat (first | apply Kd.R_alloc | apply Kd.R_drewN | apply Kd.R_drew)); exact HO_5.out⟩, ⟨by (try simp only [hl3_2]); (with_reducible repeat (first | refine blk_drewN ?_ _ | refine blk_drew ?_ | refine blk_alloc ?_ _)); exact BK279.out⟩, ⟨by repeat (first | (with_reducible first | exact HB.out | apply below_alloc | apply pw_below_drewN | apply below_drew1 | refine below_set ?_ GE279.out) | exact HB.out)⟩⟩
            case rest => as_aux_lemma =>
             clear HC22
             try clear c1
             try clear hcv1
             try clear c2
             try clear c2b0
             try clear c2b1
             try clear p2
             try clear q2
             try clear hx2
             try clear c5
             try clear c5b0
             try clear c6
             try clear c6b0
             try clear c6b1
             try clear p6
             try clear c7
             try clear c7b0
             try clear p8
             try clear q8
             try clear hx8
             try clear hf8
             try clear hcv12
             try clear c16
             try clear c17
             try clear c17b0
             try clear c18
             try clear c19
             try clear c19b0
             try clear c20
             try clear c20b0
             try clear c26
             try clear c26b0
             try clear c27
             try clear p27
             try clear q27
             try clear hx27
             try clear hcz24_0
             try clear hcz24_1
             try clear hcz24_2
             try clear hcz24_3
             try clear hcz27_0
             try clear hcz27_1
             try clear hcz27_2
             try clear hcz27_3
             try clear hfz24_0
             try clear hfz24_1
             try clear hfz24_2
             try clear hfz24_3
             try clear hfz27_0
             try clear hfz27_1
             try clear hfz27_2
             try clear hfz27_3
             try clear hx278_0
             try clear hx278_1
             try clear hx278_2
             try clear hx278_3
             try clear hx8_0
             try clear p2
             try clear p278
             try clear p6
             try clear p8
             try clear q278
             try clear q8
             obtain ⟨kq, x62_21, rfl, HA, HJ21, HO_3, HO_5, BK279, HB⟩ := hcut
             cases kq with
             | zero => exact absurd HA.out (by simp [quittancelaw04_SheafTorn.j3])
             | succ kj21 =>
              have H := HA.out
              clear HA
              simp only [quittancelaw04_SheafTorn.j3] at H
              by_cases c28 : x62_21 = true
              ·
               subst c28
               have H1 : ((quittancelaw04_head.f kj21).bind fun t281 => (some t281)) = some r := by rw [if_pos rfl] at H; exact H
               clear H
               have H := H1
               clear H1
               replace H := Option.bind_eq_some_iff.mp H
               obtain ⟨t281, A290, H⟩ := H
               replace H : (some t281) = some r := H
               have A29 := Aside0.mk A290
               clear A290
               obtain rfl := Option.some.inj H
               go_wp2_with (first | ((with_reducible refine gate_callee (f := 7) rfl ?_); refine goesL_ (some 63) rfl rfl Try.func7 (by kernel_rfl) rfl #[] rfl (by (try simp only [List.map_toArray, List.map_cons, List.map_nil]); first | done | rfl | (simp only [List.length_drop, List.length_take]; rfl)) ?_; (with_reducible refine (quittancelaw04_head.calls kj21  t281 _ A29.out hr).mono ?_); rintro e w30 ⟨rfl, hb⟩; refine ⟨_, rfl, ?_⟩; have n0_ := Aside0.mk (Kd.R_below (by (with_reducible repeat (first | apply Kd.R_alloc | apply Kd.R_drewN | apply Kd.R_drew)); exact HO_3.out) hb); have n1_ := Aside0.mk (Kd.R_below (by (with_reducible repeat (first | apply Kd.R_alloc | apply Kd.R_drewN | apply Kd.R_drew)); exact HO_5.out) hb); have n2_ := Aside0.mk (blk_below (g := gb279) (o := .cells #[.int .u8 ((rd_T44 l0 x6_2).f0), .int .u16 ((rd_T44 l0 x6_2).f1), .string ((rd_T44 l0 x6_2).f2), .slice A278_3 ((rd_T44 l0 x6_2).f3).length c278_3] 44 (0, 0)) (by (with_reducible repeat (first | refine blk_drewN ?_ _ | refine blk_drew ?_ | refine blk_alloc ?_ _)); exact BK279.out) hb); have n3_ := Aside0.mk (below_step (by repeat (first | (with_reducible first | exact HB.out | apply below_alloc | apply pw_below_drewN | apply below_drew1 | refine below_set ?_ GE279.out) | exact HB.out)) hb); clear HO_3; clear HO_5; clear BK279; clear HB; have HO_3 := n0_; have HO_5 := n1_; have BK279 := n2_; have HB := n3_; clear n0_ n1_ n2_ n3_; (try clear hb); (try clear hb2); (try clear hk); (try clear hi)))
               go_ret
               exact ⟨by first | rfl | (simp [errW_none, errW_some] <;> rfl) | (simp [*, errW_none, errW_some] <;> rfl), by repeat (first | (with_reducible first | exact HB.out | apply below_alloc | apply pw_below_drewN | apply below_drew1 | refine below_set ?_ GE279.out) | exact HB.out)⟩
              ·
               replace c28 := Bool.eq_false_iff.mpr c28
               subst c28
               have H1 : ((sheaf_Put.f (IntKind.u64.wrap ((IntKind.u64.wrap (t280 + 1)) + (IntKind.u64.wrap (((rd_T44 l0 x6_2).f1))))) ((rd_T44 l0 x6_2).f2)).bind fun bt282 => (if (x3_2.length : Int) = 0 then (none) else (if bt282.2 = 0 then (quittancelaw04_SheafTorn.j4 kj21 l0 x3_2 x5_2 x6_2 (IntKind.u64.wrap ((IntKind.u64.wrap (t280 + 1)) + (IntKind.u64.wrap (((rd_T44 l0 x6_2).f1))))) bt282.1 bt282.2 (Int.tmod (wrap64 (((rd_T44 l0 x6_2).f0))) (x3_2.length : Int)) (decide ((wrap64 ((Int.tmod (wrap64 (((rd_T44 l0 x6_2).f0))) (x3_2.length : Int)) + (bt282.1.length : Int))) > (x3_2.length : Int))) ((rd_T44 l0 x6_2).f0) ((rd_T44 l0 x6_2).f1) ((rd_T44 l0 x6_2).f2) ((rd_T44 l0 x6_2).f3)) else (quittancelaw04_SheafTorn.j4 kj21 l0 x3_2 x5_2 x6_2 (IntKind.u64.wrap ((IntKind.u64.wrap (t280 + 1)) + (IntKind.u64.wrap (((rd_T44 l0 x6_2).f1))))) bt282.1 bt282.2 (Int.tmod (wrap64 (((rd_T44 l0 x6_2).f0))) (x3_2.length : Int)) true ((rd_T44 l0 x6_2).f0) ((rd_T44 l0 x6_2).f1) ((rd_T44 l0 x6_2).f2) ((rd_T44 l0 x6_2).f3))))) = some r := by rw [if_neg (show ¬ (false = true) by decide)] at H; exact H
               clear H
               have H := H1
               clear H1
               replace H := Option.bind_eq_some_iff.mp H
               obtain ⟨⟨t282, t283⟩, A310, H⟩ := H
               replace H : (if (x3_2.length : Int) = 0 then (none) else (if t283 = 0 then (quittancelaw04_SheafTorn.j4 kj21 l0 x3_2 x5_2 x6_2 (IntKind.u64.wrap ((IntKind.u64.wrap (t280 + 1)) + (IntKind.u64.wrap (((rd_T44 l0 x6_2).f1))))) t282 t283 (Int.tmod (wrap64 (((rd_T44 l0 x6_2).f0))) (x3_2.length : Int)) (decide ((wrap64 ((Int.tmod (wrap64 (((rd_T44 l0 x6_2).f0))) (x3_2.length : Int)) + (t282.length : Int))) > (x3_2.length : Int))) ((rd_T44 l0 x6_2).f0) ((rd_T44 l0 x6_2).f1) ((rd_T44 l0 x6_2).f2) ((rd_T44 l0 x6_2).f3)) else (quittancelaw04_SheafTorn.j4 kj21 l0 x3_2 x5_2 x6_2 (IntKind.u64.wrap ((IntKind.u64.wrap (t280 + 1)) + (IntKind.u64.wrap (((rd_T44 l0 x6_2).f1))))) t282 t283 (Int.tmod (wrap64 (((rd_T44 l0 x6_2).f0))) (x3_2.length : Int)) true ((rd_T44 l0 x6_2).f0) ((rd_T44 l0 x6_2).f1) ((rd_T44 l0 x6_2).f2) ((rd_T44 l0 x6_2).f3)))) = some r := H
               have A31 := Aside0.mk A310
               clear A310
               by_cases c32 : (x3_2.length : Int) = 0
               ·
                rw [if_pos c32] at H
                exact absurd H (by simp)
               ·
                rw [if_neg c32] at H
                have c32b0 : ((x3_2.length : Int) == 0) = false := beq_eq_false_iff_ne.mpr c32
                have c32b1 : ((x3_2.length : Int) != 0) = true := bne_iff_ne.mpr c32
                have c32b2 : ¬ (x3_2 = []) := fun h_ => c32 (by rw [h_]; rfl)
                have HC33 := Aside0.mk H
                clear H
                have hcz34_0 : wc.cell? ⟨gb279, 0, none⟩ = some (.int .u8 ((rd_T44 l0 x6_2).f0)) := (blk_cell BK279.out 0).trans rfl
                have hcz34_1 : wc.cell? ⟨gb279, 1, none⟩ = some (.int .u16 ((rd_T44 l0 x6_2).f1)) := (blk_cell BK279.out 1).trans rfl
                have hcz34_2 : wc.cell? ⟨gb279, 2, none⟩ = some (.string ((rd_T44 l0 x6_2).f2)) := (blk_cell BK279.out 2).trans rfl
                have hcz34_3 : wc.cell? ⟨gb279, 3, none⟩ = some (.slice A278_3 ((rd_T44 l0 x6_2).f3).length c278_3) := (blk_cell BK279.out 3).trans rfl
                have hfz34_0 := blk_frozen BK279.out 0
                have hfz34_1 := blk_frozen BK279.out 1
                have hfz34_2 := blk_frozen BK279.out 2
                have hfz34_3 := blk_frozen BK279.out 3
                go_upto_region 17 with (first | ((with_reducible refine gate_callee (f := 8) rfl ?_); refine goesL_ (some 74) rfl rfl Try.func8 (by kernel_rfl) rfl #[.int .u64 (IntKind.u64.wrap ((IntKind.u64.wrap (t280 + 1)) + (IntKind.u64.wrap (((rd_T44 l0 x6_2).f1))))), .string ((rd_T44 l0 x6_2).f2)] rfl (by (try simp only [List.map_toArray, List.map_cons, List.map_nil]); first | done | rfl | (simp only [List.length_drop, List.length_take]; rfl)) ?_; (with_reducible refine (sheaf_Put.calls (IntKind.u64.wrap ((IntKind.u64.wrap (t280 + 1)) + (IntKind.u64.wrap (((rd_T44 l0 x6_2).f1))))) ((rd_T44 l0 x6_2).f2) t282 t283 _ A31.out).mono ?_); rintro e w35 ⟨v284, rfl, ho0, hb⟩; refine ⟨_, rfl, ?_⟩; have n0_ := Aside0.mk (Kd.R_elder' (by (with_reducible repeat (first | apply Kd.R_alloc | apply Kd.R_drewN | apply Kd.R_drew)); exact HO_3.out) (Kd.R_base ho0) hb); have n1_ := Aside0.mk (Kd.R_below (by (with_reducible repeat (first | apply Kd.R_alloc | apply Kd.R_drewN | apply Kd.R_drew)); exact HO_5.out) hb); have n2_ := Aside0.mk (Kd.R_lower (Kd.R_new' ho0 (Kd.R_lt (by (with_reducible repeat (first | apply Kd.R_alloc | apply Kd.R_drewN | apply Kd.R_drew)); exact HO_3.out))) (below_size (by repeat (first | (with_reducible first | exact HB.out | apply below_alloc | apply pw_below_drewN | apply below_drew1 | refine below_set ?_ GE279.out) | exact HB.out)))); have n3_ := Aside0.mk (blk_below (g := gb279) (o := .cells #[.int .u8 ((rd_T44 l0 x6_2).f0), .int .u16 ((rd_T44 l0 x6_2).f1), .string ((rd_T44 l0 x6_2).f2), .slice A278_3 ((rd_T44 l0 x6_2).f3).length c278_3] 44 (0, 0)) (by (with_reducible repeat (first | refine blk_drewN ?_ _ | refine blk_drew ?_ | refine blk_alloc ?_ _)); exact BK279.out) hb); have n4_ := Aside0.mk (below_step (by repeat (first | (with_reducible first | exact HB.out | apply below_alloc | apply pw_below_drewN | apply below_drew1 | refine below_set ?_ GE279.out) | exact HB.out)) hb); clear HO_3; clear HO_5; clear BK279; clear HB; have HO_3 := n0_; have HO_5 := n1_; have HO285 := n2_; have BK279 := n3_; have HB := n4_; clear n0_ n1_ n2_ n3_ n4_; (try clear hb); (try clear hb2); (try clear hk); (try clear hi); (try clear ho0); have hcz36_0 : w35.cell? ⟨gb279, 0, none⟩ = some (.int .u8 ((rd_T44 l0 x6_2).f0)) := (blk_cell BK279.out 0).trans rfl; have hcz36_1 : w35.cell? ⟨gb279, 1, none⟩ = some (.int .u16 ((rd_T44 l0 x6_2).f1)) := (blk_cell BK279.out 1).trans rfl; have hcz36_2 : w35.cell? ⟨gb279, 2, none⟩ = some (.string ((rd_T44 l0 x6_2).f2)) := (blk_cell BK279.out 2).trans rfl; have hcz36_3 : w35.cell? ⟨gb279, 3, none⟩ = some (.slice A278_3 ((rd_T44 l0 x6_2).f3).length c278_3) := (blk_cell BK279.out 3).trans rfl; have hfz36_0 := blk_frozen BK279.out 0; have hfz36_1 := blk_frozen BK279.out 1; have hfz36_2 := blk_frozen BK279.out 2; have hfz36_3 := blk_frozen BK279.out 3))
                (try simp only [Act.put, List.setIfInBounds_toArray, List.set_cons_zero, List.set_cons_succ])
                go_cut [93] (fun v93 wc => ∃ (kq : Nat) (x93_32 : Bool), v93 = .bool x93_32 ∧ Aside0 (quittancelaw04_SheafTorn.j4 kq l0 x3_2 x5_2 x6_2 (IntKind.u64.wrap ((IntKind.u64.wrap (t280 + 1)) + (IntKind.u64.wrap (((rd_T44 l0 x6_2).f1))))) t282 t283 (Int.tmod (wrap64 (((rd_T44 l0 x6_2).f0))) (x3_2.length : Int)) x93_32 ((rd_T44 l0 x6_2).f0) ((rd_T44 l0 x6_2).f1) ((rd_T44 l0 x6_2).f2) ((rd_T44 l0 x6_2).f3) = some r) ∧ Aside0 (kq ≤ kj21) ∧ Aside0 (Kd.R Kd.string 9 wc w.heap.size (fun k_ => some k_ ≠ (v284 : Value).ownBlock) (.slice Ao15 x3_2.length co15) x3_2) ∧ Aside0 (Kd.R k46 46 wc w.heap.size (fun _ => True) u5 x5_2) ∧ Aside0 (Kd.R Kd.string 9 wc w.heap.size (fun k_ => some k_ ≠ ((.slice Ao15 x3_2.length co15) : Value).ownBlock) v284 t282) ∧ Aside0 (wc.heap[gb279]? = some (.cells #[.int .u8 ((rd_T44 l0 x6_2).f0), .int .u16 ((rd_T44 l0 x6_2).f1), .string ((rd_T44 l0 x6_2).f2), (.slice A278_3 ((rd_T44 l0 x6_2).f3).length c278_3)] 44 (0, 0))) ∧ Aside0 (Below w.heap.size w wc))
                case first => as_aux_lemma =>
                 have H := HC33.out
                 clear HC33
                 by_cases c37 : t283 = 0
                 ·
                  rw [if_pos c37] at H
                  have c37b0 : (t283 == 0) = true := beq_iff_eq.mpr c37
                  have c37b1 : (t283 != 0) = false := bne_eq_false_iff_eq.mpr c37
                  clear c37
                  (first | rw [c37b0] | (simp only [i64_w, i32_w]; rw [c37b0]) | skip)
                  have H' := Aside0.mk H
                  clear H
                  obtain ⟨Ao38, co38, eo38⟩ := Kd.R_slice HO285.out
                  subst eo38
                  go_wp2
                  go_meet
                  case rel => exact ⟨_, (decide ((wrap64 ((Int.tmod (wrap64 (((rd_T44 l0 x6_2).f0))) (x3_2.length : Int)) + (t282.length : Int))) > (x3_2.length : Int))), (by first | rfl | (simp; done) | (simp [*]; done)), H', ⟨by have := HK1.out; have := HK2.out; have := HJ15.out; have := HJ21.out; first | omega | exact Nat.le_refl _⟩, ⟨by (try simp only [hl3_2]); (with_reducible repeat (first | apply Kd.R_alloc | apply Kd.R_drewN | apply Kd.R_drew)); exact Kd.R_mono HO_3.out (fun _ hk => hk.2)⟩, ⟨by (try simp only [hl3_2]); (with_reducible repeat (first | apply Kd.R_alloc | apply Kd.R_drewN | apply Kd.R_drew)); exact HO_5.out⟩, ⟨by (try simp only [hl3_2]); (with_reducible repeat (first | apply Kd.R_alloc | apply Kd.R_drewN | apply Kd.R_drew)); exact Kd.R_mono HO285.out (fun _ hk => hk.2)⟩, ⟨by (try simp only [hl3_2]); (with_reducible repeat (first | refine blk_drewN ?_ _ | refine blk_drew ?_ | refine blk_alloc ?_ _)); exact BK279.out⟩, ⟨by repeat (first | (with_reducible first | exact HB.out | apply below_alloc | apply pw_below_drewN | apply below_drew1 | refine below_set ?_ GE279.out) | exact HB.out)⟩⟩
                 ·
                  rw [if_neg c37] at H
                  have c37b0 : (t283 == 0) = false := beq_eq_false_iff_ne.mpr c37
                  have c37b1 : (t283 != 0) = true := bne_iff_ne.mpr c37
                  (first | rw [c37b0] | (simp only [i64_w, i32_w]; rw [c37b0]) | skip)
                  have H' := Aside0.mk H
                  clear H
                  go_wp2
                  go_meet
                  case rel => exact ⟨_, (true), (by first | rfl | (simp; done) | (simp [*]; done)), H', ⟨by have := HK1.out; have := HK2.out; have := HJ15.out; have := HJ21.out; first | omega | exact Nat.le_refl _⟩, ⟨by (try simp only [hl3_2]); (with_reducible repeat (first | apply Kd.R_alloc | apply Kd.R_drewN | apply Kd.R_drew)); exact Kd.R_mono HO_3.out (fun _ hk => hk.2)⟩, ⟨by (try simp only [hl3_2]); (with_reducible repeat (first | apply Kd.R_alloc | apply Kd.R_drewN | apply Kd.R_drew)); exact HO_5.out⟩, ⟨by (try simp only [hl3_2]); (with_reducible repeat (first | apply Kd.R_alloc | apply Kd.R_drewN | apply Kd.R_drew)); exact Kd.R_mono HO285.out (fun _ hk => hk.2)⟩, ⟨by (try simp only [hl3_2]); (with_reducible repeat (first | refine blk_drewN ?_ _ | refine blk_drew ?_ | refine blk_alloc ?_ _)); exact BK279.out⟩, ⟨by repeat (first | (with_reducible first | exact HB.out | apply below_alloc | apply pw_below_drewN | apply below_drew1 | refine below_set ?_ GE279.out) | exact HB.out)⟩⟩
                case rest => as_aux_lemma =>
                 clear HC33
                 try clear c1
                 try clear hcv1
                 try clear c2
                 try clear c2b0
                 try clear c2b1
                 try clear p2
                 try clear q2
                 try clear hx2
                 try clear c3
                 try clear c5
                 try clear c5b0
                 try clear c6
                 try clear c6b0
                 try clear c6b1
                 try clear p6
                 try clear c7
                 try clear c7b0
                 try clear c8
                 try clear p8
                 try clear q8
                 try clear hx8
                 try clear hf8
                 try clear hcv12
                 try clear c16
                 try clear c17
                 try clear c17b0
                 try clear c18
                 try clear c19
                 try clear c19b0
                 try clear c20
                 try clear c20b0
                 try clear c26
                 try clear c26b0
                 try clear c27
                 try clear p27
                 try clear q27
                 try clear hx27
                 try clear c28
                 try clear c32
                 try clear c32b0
                 try clear c32b1
                 try clear c32b2
                 try clear c37
                 try clear c37b0
                 try clear c37b1
                 try clear hcz24_0
                 try clear hcz24_1
                 try clear hcz24_2
                 try clear hcz24_3
                 try clear hcz27_0
                 try clear hcz27_1
                 try clear hcz27_2
                 try clear hcz27_3
                 try clear hcz34_0
                 try clear hcz34_1
                 try clear hcz34_2
                 try clear hcz34_3
                 try clear hcz36_0
                 try clear hcz36_1
                 try clear hcz36_2
                 try clear hcz36_3
                 try clear hfz24_0
                 try clear hfz24_1
                 try clear hfz24_2
                 try clear hfz24_3
                 try clear hfz27_0
                 try clear hfz27_1
                 try clear hfz27_2
                 try clear hfz27_3
                 try clear hfz34_0
                 try clear hfz34_1
                 try clear hfz34_2
                 try clear hfz34_3
                 try clear hfz36_0
                 try clear hfz36_1
                 try clear hfz36_2
                 try clear hfz36_3
                 try clear hx278_0
                 try clear hx278_1
                 try clear hx278_2
                 try clear hx278_3
                 try clear hx8_0
                 try clear p2
                 try clear p27
                 try clear p278
                 try clear p6
                 try clear p8
                 try clear q2
                 try clear q27
                 try clear q278
                 try clear q8
                 obtain ⟨kq, x93_32, rfl, HA, HJ32, HO_3, HO_5, HO_10, BK279, HB⟩ := hcut
                 obtain ⟨jm, hjm⟩ : ∃ j_ : Int, (Int.tmod (wrap64 (((rd_T44 l0 x6_2).f0))) (x3_2.length : Int)) = j_ := ⟨_, rfl⟩
                 rw [hjm] at HA
                 try simp only [hjm]
                 clear hjm
                 cases kq with
                 | zero => exact absurd HA.out (by simp [quittancelaw04_SheafTorn.j4])
                 | succ kj32 =>
                  have H := HA.out
                  clear HA
                  simp only [quittancelaw04_SheafTorn.j4] at H
                  by_cases c39 : x93_32 = true
                  ·
                   subst c39
                   have H1 : (if t283 = 0 then (quittancelaw04_SheafTorn.l1 kj32 l0 x3_2 x5_2 (wrap64 (x6_2 + 1))) else (some false)) = some r := by rw [if_pos rfl] at H; exact H
                   clear H
                   have H := H1
                   clear H1
                   by_cases c40 : t283 = 0
                   ·
                    rw [if_pos c40] at H
                    have c40b0 : (t283 == 0) = true := beq_iff_eq.mpr c40
                    have c40b1 : (t283 != 0) = false := bne_eq_false_iff_eq.mpr c40
                    clear c40
                    have H' := Aside0.mk H
                    clear H
                    go_wp2
                    (try simp only [← hl3_2])
                    go_roundg kj32
                    case measure => have := HK1.out; have := HK2.out; have := HJ15.out; have := HJ21.out; have := HJ32.out; omega
                    case rel => exact ⟨(x3_2), (x5_2), (wrap64 (x6_2 + 1)), (by first | rfl | (simp; done) | (simp [*]; done)), H', ⟨by have := HK1.out; have := HK2.out; have := HJ15.out; have := HJ21.out; have := HJ32.out; omega⟩, ⟨by (try simp only [hl3_2]); (with_reducible repeat (first | apply Kd.R_alloc | apply Kd.R_drewN | apply Kd.R_drew)); exact Kd.R_mono HO_3.out (fun _ hk => trivial)⟩, ⟨by (try simp only [hl3_2]); (with_reducible repeat (first | apply Kd.R_alloc | apply Kd.R_drewN | apply Kd.R_drew)); exact HO_5.out⟩, ⟨by repeat (first | (with_reducible first | exact HB.out | apply below_alloc | apply pw_below_drewN | apply below_drew1 | refine below_set ?_ GE279.out) | exact HB.out)⟩⟩
                   ·
                    rw [if_neg c40] at H
                    have c40b0 : (t283 == 0) = false := beq_eq_false_iff_ne.mpr c40
                    have c40b1 : (t283 != 0) = true := bne_iff_ne.mpr c40
                    exact absurd ((Option.some.inj H).trans hr) (by decide)
                  ·
                   replace c39 := Bool.eq_false_iff.mpr c39
                   subst c39
                   have H1 : (quittancelaw04_SheafTorn.l2 kj32 l0 x3_2 x5_2 x6_2 (IntKind.u64.wrap ((IntKind.u64.wrap (t280 + 1)) + (IntKind.u64.wrap (((rd_T44 l0 x6_2).f1))))) t282 jm true 0 ((rd_T44 l0 x6_2).f0) ((rd_T44 l0 x6_2).f1) ((rd_T44 l0 x6_2).f2) ((rd_T44 l0 x6_2).f3)) = some r := by rw [if_neg (show ¬ (false = true) by decide)] at H; exact H
                   clear H
                   have H := H1
                   clear H1
                   have H' := Aside0.mk H
                   clear H
                   go_wp2
                   go_loopg [13, 14] kj32 (fun kq v13 v14 w' => ∃ (x3_6 : List ByteArray) (x13_6 : Bool) (x14_6 : Int), v13 = .bool x13_6 ∧ v14 = .int .i64 x14_6 ∧ Aside0 (quittancelaw04_SheafTorn.l2 kq l0 x3_6 x5_2 x6_2 (IntKind.u64.wrap ((IntKind.u64.wrap (t280 + 1)) + (IntKind.u64.wrap (((rd_T44 l0 x6_2).f1))))) t282 jm x13_6 x14_6 ((rd_T44 l0 x6_2).f0) ((rd_T44 l0 x6_2).f1) ((rd_T44 l0 x6_2).f2) ((rd_T44 l0 x6_2).f3) = some r) ∧ Aside0 (kq ≤ kj32) ∧ Aside0 (Kd.R Kd.string 9 w' w.heap.size (fun k_ => some k_ ≠ (v284 : Value).ownBlock) (.slice Ao15 x3_2.length co15) x3_6) ∧ Aside0 (Kd.R k46 46 w' w.heap.size (fun _ => True) u5 x5_2) ∧ Aside0 (Kd.R Kd.string 9 w' w.heap.size (fun k_ => some k_ ≠ ((.slice Ao15 x3_2.length co15) : Value).ownBlock) v284 t282) ∧ Aside0 (w'.heap[gb279]? = some (.cells #[.int .u8 ((rd_T44 l0 x6_2).f0), .int .u16 ((rd_T44 l0 x6_2).f1), .string ((rd_T44 l0 x6_2).f2), (.slice A278_3 ((rd_T44 l0 x6_2).f3).length c278_3)] 44 (0, 0))) ∧ Aside0 (Below w.heap.size w w'))
                   case atStart => exact ⟨(x3_2), (true), (0), (by first | rfl | (simp; done) | (simp [*]; done)), (by first | rfl | (simp; done) | (simp [*]; done)), H', ⟨Nat.le_refl _⟩, ⟨by (try simp only [hl3_2]); (with_reducible repeat (first | apply Kd.R_alloc | apply Kd.R_drewN | apply Kd.R_drew)); exact HO_3.out⟩, ⟨by (try simp only [hl3_2]); (with_reducible repeat (first | apply Kd.R_alloc | apply Kd.R_drewN | apply Kd.R_drew)); exact HO_5.out⟩, ⟨by (try simp only [hl3_2]); (with_reducible repeat (first | apply Kd.R_alloc | apply Kd.R_drewN | apply Kd.R_drew)); exact HO_10.out⟩, ⟨by (try simp only [hl3_2]); (with_reducible repeat (first | refine blk_drewN ?_ _ | refine blk_drew ?_ | refine blk_alloc ?_ _)); exact BK279.out⟩, ⟨by repeat (first | (with_reducible first | exact HB.out | apply below_alloc | apply pw_below_drewN | apply below_drew1 | refine below_set ?_ GE279.out) | exact HB.out)⟩⟩
                   case round => as_aux_lemma =>
                    clear H'
                    try clear c1
                    try clear hcv1
                    try clear c2
                    try clear c2b0
                    try clear c2b1
                    try clear p2
                    try clear q2
                    try clear hx2
                    try clear c3
                    try clear c4
                    try clear c5
                    try clear c5b0
                    try clear c6
                    try clear c6b0
                    try clear c6b1
                    try clear p6
                    try clear c7
                    try clear c7b0
                    try clear c8
                    try clear p8
                    try clear q8
                    try clear hx8
                    try clear hf8
                    try clear hcv12
                    try clear c16
                    try clear c17
                    try clear c17b0
                    try clear c18
                    try clear c19
                    try clear c19b0
                    try clear c20
                    try clear c20b0
                    try clear c26
                    try clear c26b0
                    try clear c27
                    try clear p27
                    try clear q27
                    try clear hx27
                    try clear c28
                    try clear c32
                    try clear c32b0
                    try clear c32b1
                    try clear c32b2
                    try clear c37
                    try clear c37b0
                    try clear c37b1
                    try clear c39
                    try clear c40
                    try clear c40b0
                    try clear c40b1
                    try clear hcz24_0
                    try clear hcz24_1
                    try clear hcz24_2
                    try clear hcz24_3
                    try clear hcz27_0
                    try clear hcz27_1
                    try clear hcz27_2
                    try clear hcz27_3
                    try clear hcz34_0
                    try clear hcz34_1
                    try clear hcz34_2
                    try clear hcz34_3
                    try clear hcz36_0
                    try clear hcz36_1
                    try clear hcz36_2
                    try clear hcz36_3
                    try clear hfz24_0
                    try clear hfz24_1
                    try clear hfz24_2
                    try clear hfz24_3
                    try clear hfz27_0
                    try clear hfz27_1
                    try clear hfz27_2
                    try clear hfz27_3
                    try clear hfz34_0
                    try clear hfz34_1
                    try clear hfz34_2
                    try clear hfz34_3
                    try clear hfz36_0
                    try clear hfz36_1
                    try clear hfz36_2
                    try clear hfz36_3
                    try clear hx278_0
                    try clear hx278_1
                    try clear hx278_2
                    try clear hx278_3
                    try clear hx8_0
                    try clear p2
                    try clear p27
                    try clear p278
                    try clear p6
                    try clear p8
                    try clear q2
                    try clear q27
                    try clear q278
                    try clear q8
                    obtain ⟨x3_6, x13_6, x14_6, rfl, rfl, HA, HK6, HO_3, HO_5, HO_10, BK279, HB⟩ := hrel
                    have hl3_6 := (Kd.R_reads' HO_3.out).1
                    rw [hl3_6] at HO_3
                    (try simp only [hl3_6])
                    (try simp only [hl3_6] at BK279)
                    (try simp only [hl3_6] at HO_5)
                    (try simp only [hl3_6] at HO_10)
                    cases gk with
                    | zero => exact absurd HA.out (by simp [quittancelaw04_SheafTorn.l2])
                    | succ k6 =>
                     have H := HA.out
                     clear HA
                     simp only [quittancelaw04_SheafTorn.l2] at H
                     by_cases c41 : x14_6 < (t282.length : Int)
                     ·
                      rw [if_pos c41] at H
                      have c41b0 : decide (x14_6 < (t282.length : Int)) = true := decide_eq_true c41
                      clear c41
                      by_cases c42 : (((rd_T44 l0 x6_2).f3).length : Int) > 0
                      ·
                       rw [if_pos c42] at H
                       have c42b0 : decide (0 < (((rd_T44 l0 x6_2).f3).length : Int)) = true := decide_eq_true c42
                       have c42b1 : decide (0 < ((rd_T44 l0 x6_2).f3).length) = true := decide_eq_true (by omega)
                       clear c42
                       obtain ⟨ji43, hji43⟩ : ∃ j_ : Int, (mn x14_6 (wrap64 ((((rd_T44 l0 x6_2).f3).length : Int) - 1))) = j_ := ⟨_, rfl⟩
                       replace H : (if 0 ≤ (ji43) then (if (ji43) < (((rd_T44 l0 x6_2).f3).length : Int) then (if 0 ≤ x14_6 then (if ((rdOf ByteArray.empty t282 x14_6).size : Int) = 64 then (if 0 ≤ (mn (mx (rd ((rd_T44 l0 x6_2).f3) (ji43)) 0) 64) then (if (mn (mx (rd ((rd_T44 l0 x6_2).f3) (ji43)) 0) 64) ≤ ((rdOf ByteArray.empty t282 x14_6).size : Int) then (if 0 ≤ (wrap64 (jm + x14_6)) then (if (wrap64 (jm + x14_6)) < (x3_6.length : Int) then (if (mn (mx (rd ((rd_T44 l0 x6_2).f3) (ji43)) 0) 64) ≤ ((rdOf ByteArray.empty x3_6 (wrap64 (jm + x14_6))).size : Int) then (if ((rdOf ByteArray.empty t282 x14_6).extract 0 ((mn (mx (rd ((rd_T44 l0 x6_2).f3) (ji43)) 0) 64) : Int).toNat).size + ((rdOf ByteArray.empty x3_6 (wrap64 (jm + x14_6))).extract ((mn (mx (rd ((rd_T44 l0 x6_2).f3) (ji43)) 0) 64) : Int).toNat (rdOf ByteArray.empty x3_6 (wrap64 (jm + x14_6))).size).size ≤ 9223372036854775807 then ((some (x3_6.set ((wrap64 (jm + x14_6)) : Int).toNat (((rdOf ByteArray.empty t282 x14_6).extract 0 ((mn (mx (rd ((rd_T44 l0 x6_2).f3) (ji43)) 0) 64) : Int).toNat) ++ ((rdOf ByteArray.empty x3_6 (wrap64 (jm + x14_6))).extract ((mn (mx (rd ((rd_T44 l0 x6_2).f3) (ji43)) 0) 64) : Int).toNat (rdOf ByteArray.empty x3_6 (wrap64 (jm + x14_6))).size)) : List ByteArray)).bind fun y290 => (if x13_6 = true then (quittancelaw04_SheafTorn.l2 k6 l0 y290 x5_2 x6_2 (IntKind.u64.wrap ((IntKind.u64.wrap (t280 + 1)) + (IntKind.u64.wrap (((rd_T44 l0 x6_2).f1))))) t282 jm ((mn (mx (rd ((rd_T44 l0 x6_2).f3) (ji43)) 0) 64) == 64) (wrap64 (x14_6 + 1)) ((rd_T44 l0 x6_2).f0) ((rd_T44 l0 x6_2).f1) ((rd_T44 l0 x6_2).f2) ((rd_T44 l0 x6_2).f3)) else (quittancelaw04_SheafTorn.l2 k6 l0 y290 x5_2 x6_2 (IntKind.u64.wrap ((IntKind.u64.wrap (t280 + 1)) + (IntKind.u64.wrap (((rd_T44 l0 x6_2).f1))))) t282 jm false (wrap64 (x14_6 + 1)) ((rd_T44 l0 x6_2).f0) ((rd_T44 l0 x6_2).f1) ((rd_T44 l0 x6_2).f2) ((rd_T44 l0 x6_2).f3)))) else (none)) else (none)) else (none)) else (none)) else (none)) else (none)) else (some false)) else (none)) else (none)) else (none)) = some r := by first | (rw [hji43] at H; exact H) | (simp only [hji43] at H ⊢; exact H)
                       have hji43_ : (if (wrap64 ((((rd_T44 l0 x6_2).f3).length : Int) - 1)) < x14_6 then (wrap64 ((((rd_T44 l0 x6_2).f3).length : Int) - 1)) else x14_6) = ji43 := hji43
                       by_cases c44 : 0 ≤ (ji43)
                       ·
                        rw [if_pos c44] at H
                        have c44b0 : decide (0 ≤ (ji43)) = true := decide_eq_true c44
                        clear c44
                        by_cases c45 : (ji43) < (((rd_T44 l0 x6_2).f3).length : Int)
                        ·
                         rw [if_pos c45] at H
                         have c45b0 : decide ((ji43) < (((rd_T44 l0 x6_2).f3).length : Int)) = true := decide_eq_true c45
                         clear c45
                         obtain ⟨ji46, hji46⟩ : ∃ j_ : Int, (mx (rd ((rd_T44 l0 x6_2).f3) (ji43)) 0) = j_ := ⟨_, rfl⟩
                         replace H : (if 0 ≤ x14_6 then (if ((rdOf ByteArray.empty t282 x14_6).size : Int) = 64 then (if 0 ≤ (mn (ji46) 64) then (if (mn (ji46) 64) ≤ ((rdOf ByteArray.empty t282 x14_6).size : Int) then (if 0 ≤ (wrap64 (jm + x14_6)) then (if (wrap64 (jm + x14_6)) < (x3_6.length : Int) then (if (mn (ji46) 64) ≤ ((rdOf ByteArray.empty x3_6 (wrap64 (jm + x14_6))).size : Int) then (if ((rdOf ByteArray.empty t282 x14_6).extract 0 ((mn (ji46) 64) : Int).toNat).size + ((rdOf ByteArray.empty x3_6 (wrap64 (jm + x14_6))).extract ((mn (ji46) 64) : Int).toNat (rdOf ByteArray.empty x3_6 (wrap64 (jm + x14_6))).size).size ≤ 9223372036854775807 then ((some (x3_6.set ((wrap64 (jm + x14_6)) : Int).toNat (((rdOf ByteArray.empty t282 x14_6).extract 0 ((mn (ji46) 64) : Int).toNat) ++ ((rdOf ByteArray.empty x3_6 (wrap64 (jm + x14_6))).extract ((mn (ji46) 64) : Int).toNat (rdOf ByteArray.empty x3_6 (wrap64 (jm + x14_6))).size)) : List ByteArray)).bind fun y290 => (if x13_6 = true then (quittancelaw04_SheafTorn.l2 k6 l0 y290 x5_2 x6_2 (IntKind.u64.wrap ((IntKind.u64.wrap (t280 + 1)) + (IntKind.u64.wrap (((rd_T44 l0 x6_2).f1))))) t282 jm ((mn (ji46) 64) == 64) (wrap64 (x14_6 + 1)) ((rd_T44 l0 x6_2).f0) ((rd_T44 l0 x6_2).f1) ((rd_T44 l0 x6_2).f2) ((rd_T44 l0 x6_2).f3)) else (quittancelaw04_SheafTorn.l2 k6 l0 y290 x5_2 x6_2 (IntKind.u64.wrap ((IntKind.u64.wrap (t280 + 1)) + (IntKind.u64.wrap (((rd_T44 l0 x6_2).f1))))) t282 jm false (wrap64 (x14_6 + 1)) ((rd_T44 l0 x6_2).f0) ((rd_T44 l0 x6_2).f1) ((rd_T44 l0 x6_2).f2) ((rd_T44 l0 x6_2).f3)))) else (none)) else (none)) else (none)) else (none)) else (none)) else (none)) else (some false)) else (none)) = some r := by first | (rw [hji46] at H; exact H) | (simp only [hji46] at H ⊢; exact H)
                         have hji46_ : (if (rd ((rd_T44 l0 x6_2).f3) (ji43)) < 0 then 0 else (rd ((rd_T44 l0 x6_2).f3) (ji43))) = ji46 := hji46
                         obtain ⟨ji47, hji47⟩ : ∃ j_ : Int, (mn (ji46) 64) = j_ := ⟨_, rfl⟩
                         replace H : (if 0 ≤ x14_6 then (if ((rdOf ByteArray.empty t282 x14_6).size : Int) = 64 then (if 0 ≤ (ji47) then (if (ji47) ≤ ((rdOf ByteArray.empty t282 x14_6).size : Int) then (if 0 ≤ (wrap64 (jm + x14_6)) then (if (wrap64 (jm + x14_6)) < (x3_6.length : Int) then (if (ji47) ≤ ((rdOf ByteArray.empty x3_6 (wrap64 (jm + x14_6))).size : Int) then (if ((rdOf ByteArray.empty t282 x14_6).extract 0 ((ji47) : Int).toNat).size + ((rdOf ByteArray.empty x3_6 (wrap64 (jm + x14_6))).extract ((ji47) : Int).toNat (rdOf ByteArray.empty x3_6 (wrap64 (jm + x14_6))).size).size ≤ 9223372036854775807 then ((some (x3_6.set ((wrap64 (jm + x14_6)) : Int).toNat (((rdOf ByteArray.empty t282 x14_6).extract 0 ((ji47) : Int).toNat) ++ ((rdOf ByteArray.empty x3_6 (wrap64 (jm + x14_6))).extract ((ji47) : Int).toNat (rdOf ByteArray.empty x3_6 (wrap64 (jm + x14_6))).size)) : List ByteArray)).bind fun y290 => (if x13_6 = true then (quittancelaw04_SheafTorn.l2 k6 l0 y290 x5_2 x6_2 (IntKind.u64.wrap ((IntKind.u64.wrap (t280 + 1)) + (IntKind.u64.wrap (((rd_T44 l0 x6_2).f1))))) t282 jm ((ji47) == 64) (wrap64 (x14_6 + 1)) ((rd_T44 l0 x6_2).f0) ((rd_T44 l0 x6_2).f1) ((rd_T44 l0 x6_2).f2) ((rd_T44 l0 x6_2).f3)) else (quittancelaw04_SheafTorn.l2 k6 l0 y290 x5_2 x6_2 (IntKind.u64.wrap ((IntKind.u64.wrap (t280 + 1)) + (IntKind.u64.wrap (((rd_T44 l0 x6_2).f1))))) t282 jm false (wrap64 (x14_6 + 1)) ((rd_T44 l0 x6_2).f0) ((rd_T44 l0 x6_2).f1) ((rd_T44 l0 x6_2).f2) ((rd_T44 l0 x6_2).f3)))) else (none)) else (none)) else (none)) else (none)) else (none)) else (none)) else (some false)) else (none)) = some r := by first | (rw [hji47] at H; exact H) | (simp only [hji47] at H ⊢; exact H)
                         have hji47_ : (if 64 < (ji46) then 64 else (ji46)) = ji47 := hji47
                         by_cases c48 : 0 ≤ x14_6
                         ·
                          rw [if_pos c48] at H
                          have c48b0 : decide (0 ≤ x14_6) = true := decide_eq_true c48
                          clear c48
                          by_cases c49 : ((rdOf ByteArray.empty t282 x14_6).size : Int) = 64
                          ·
                           rw [if_pos c49] at H
                           have c49b0 : (((rdOf ByteArray.empty t282 x14_6).size : Int) == 64) = true := beq_iff_eq.mpr c49
                           have c49b1 : (((rdOf ByteArray.empty t282 x14_6).size : Int) != 64) = false := bne_eq_false_iff_eq.mpr c49
                           clear c49
                           by_cases c50 : 0 ≤ (ji47)
                           ·
                            rw [if_pos c50] at H
                            have c50b0 := eq_true c50
                            have c50b1 : decide (0 ≤ (ji47)) = true := decide_eq_true c50
                            clear c50
                            by_cases c51 : (ji47) ≤ ((rdOf ByteArray.empty t282 x14_6).size : Int)
                            ·
                             rw [if_pos c51] at H
                             have c51b0 := eq_true c51
                             have c51b1 : decide ((ji47) ≤ ((rdOf ByteArray.empty t282 x14_6).size : Int)) = true := decide_eq_true c51
                             clear c51
                             obtain ⟨ji52, hji52⟩ : ∃ j_ : Int, (wrap64 (jm + x14_6)) = j_ := ⟨_, rfl⟩
                             replace H : (if 0 ≤ (ji52) then (if (ji52) < (x3_6.length : Int) then (if (ji47) ≤ ((rdOf ByteArray.empty x3_6 (ji52)).size : Int) then (if ((rdOf ByteArray.empty t282 x14_6).extract 0 ((ji47) : Int).toNat).size + ((rdOf ByteArray.empty x3_6 (ji52)).extract ((ji47) : Int).toNat (rdOf ByteArray.empty x3_6 (ji52)).size).size ≤ 9223372036854775807 then ((some (x3_6.set ((ji52) : Int).toNat (((rdOf ByteArray.empty t282 x14_6).extract 0 ((ji47) : Int).toNat) ++ ((rdOf ByteArray.empty x3_6 (ji52)).extract ((ji47) : Int).toNat (rdOf ByteArray.empty x3_6 (ji52)).size)) : List ByteArray)).bind fun y290 => (if x13_6 = true then (quittancelaw04_SheafTorn.l2 k6 l0 y290 x5_2 x6_2 (IntKind.u64.wrap ((IntKind.u64.wrap (t280 + 1)) + (IntKind.u64.wrap (((rd_T44 l0 x6_2).f1))))) t282 jm ((ji47) == 64) (wrap64 (x14_6 + 1)) ((rd_T44 l0 x6_2).f0) ((rd_T44 l0 x6_2).f1) ((rd_T44 l0 x6_2).f2) ((rd_T44 l0 x6_2).f3)) else (quittancelaw04_SheafTorn.l2 k6 l0 y290 x5_2 x6_2 (IntKind.u64.wrap ((IntKind.u64.wrap (t280 + 1)) + (IntKind.u64.wrap (((rd_T44 l0 x6_2).f1))))) t282 jm false (wrap64 (x14_6 + 1)) ((rd_T44 l0 x6_2).f0) ((rd_T44 l0 x6_2).f1) ((rd_T44 l0 x6_2).f2) ((rd_T44 l0 x6_2).f3)))) else (none)) else (none)) else (none)) else (none)) = some r := by first | (rw [hji52] at H; exact H) | (simp only [hji52] at H ⊢; exact H)
                             have hji52w : (IntKind.i64.wrap (jm + x14_6)) = ji52 := (i64_w _).trans hji52
                             by_cases c53 : 0 ≤ (ji52)
                             ·
                              rw [if_pos c53] at H
                              have c53b0 : decide (0 ≤ (ji52)) = true := decide_eq_true c53
                              clear c53
                              by_cases c54 : (ji52) < (x3_6.length : Int)
                              ·
                               rw [if_pos c54] at H
                               have c54b0 : decide ((ji52) < (x3_6.length : Int)) = true := decide_eq_true c54
                               clear c54
                               have c55b0 := eq_true (of_decide_eq_true (by first | (with_reducible assumption) | assumption) : 0 ≤ (ji47))
                               by_cases c56 : (ji47) ≤ ((rdOf ByteArray.empty x3_6 (ji52)).size : Int)
                               ·
                                rw [if_pos c56] at H
                                have c56b0 := eq_true c56
                                have c56b1 : decide ((ji47) ≤ ((rdOf ByteArray.empty x3_6 (ji52)).size : Int)) = true := decide_eq_true c56
                                clear c56
                                by_cases c57 : ((rdOf ByteArray.empty t282 x14_6).extract 0 ((ji47) : Int).toNat).size + ((rdOf ByteArray.empty x3_6 (ji52)).extract ((ji47) : Int).toNat (rdOf ByteArray.empty x3_6 (ji52)).size).size ≤ 9223372036854775807
                                ·
                                 rw [if_pos c57] at H
                                 have c57b0 := eq_true c57
                                 have c57b1 : decide (((rdOf ByteArray.empty t282 x14_6).extract 0 ((ji47) : Int).toNat).size + ((rdOf ByteArray.empty x3_6 (ji52)).extract ((ji47) : Int).toNat (rdOf ByteArray.empty x3_6 (ji52)).size).size ≤ 9223372036854775807) = true := decide_eq_true c57
                                 try have c57b2 : (9223372036854775807 < ((rdOf ByteArray.empty t282 x14_6).extract 0 ((ji47) : Int).toNat).size + ((rdOf ByteArray.empty x3_6 (ji52)).extract ((ji47) : Int).toNat (rdOf ByteArray.empty x3_6 (ji52)).size).size) = False := eq_false (Nat.not_lt.2 c57)
                                 have c57b9 : (9223372036854775807 < (rdOf ByteArray.empty x3_6 ji52).size) = False := eq_false (by have h_ := c57; rw [ByteArray.size_extract, ByteArray.size_extract] at h_; have h1_ : (ji47 : Int) ≤ ((rdOf ByteArray.empty t282 x14_6).size : Int) := of_decide_eq_true (by first | (with_reducible assumption) | assumption); have h2_ : (ji47 : Int) ≤ ((rdOf ByteArray.empty x3_6 (ji52)).size : Int) := of_decide_eq_true (by first | (with_reducible assumption) | assumption); have h3_ : 0 ≤ (ji47 : Int) := of_decide_eq_true (by first | (with_reducible assumption) | assumption); omega)
                                 try (have c57b3 := Nat.not_lt.2 c57; simp only [ByteArray.size_append, ByteArray.size_extract, Nat.sub_zero, Nat.min_self] at c57b3; replace c57b3 := eq_false c57b3)
                                 try (have c57b4 := Nat.not_lt.2 c57; simp only [ByteArray.size_append, ByteArray.size_extract, Nat.sub_zero, Nat.min_self] at c57b4; rw [Nat.min_eq_left (by simp only [decide_eq_true_eq, eq_iff_iff, iff_true] at *; omega)] at c57b4; replace c57b4 := eq_false c57b4)
                                 obtain ⟨y290, hy290⟩ : ∃ y_ : List ByteArray, y_ = (x3_6.set ((ji52) : Int).toNat (((rdOf ByteArray.empty t282 x14_6).extract 0 ((ji47) : Int).toNat) ++ ((rdOf ByteArray.empty x3_6 (ji52)).extract ((ji47) : Int).toNat (rdOf ByteArray.empty x3_6 (ji52)).size))) := ⟨_, rfl⟩
                                 replace H : (if x13_6 = true then (quittancelaw04_SheafTorn.l2 k6 l0 y290 x5_2 x6_2 (IntKind.u64.wrap ((IntKind.u64.wrap (t280 + 1)) + (IntKind.u64.wrap (((rd_T44 l0 x6_2).f1))))) t282 jm ((ji47) == 64) (wrap64 (x14_6 + 1)) ((rd_T44 l0 x6_2).f0) ((rd_T44 l0 x6_2).f1) ((rd_T44 l0 x6_2).f2) ((rd_T44 l0 x6_2).f3)) else (quittancelaw04_SheafTorn.l2 k6 l0 y290 x5_2 x6_2 (IntKind.u64.wrap ((IntKind.u64.wrap (t280 + 1)) + (IntKind.u64.wrap (((rd_T44 l0 x6_2).f1))))) t282 jm false (wrap64 (x14_6 + 1)) ((rd_T44 l0 x6_2).f0) ((rd_T44 l0 x6_2).f1) ((rd_T44 l0 x6_2).f2) ((rd_T44 l0 x6_2).f3))) = some r := by first | (rw [hy290]; with_reducible exact H) | (have H2_ := (Option.bind_some _ _).symm.trans H; rw [hy290]; with_reducible exact H2_) | (have H2_ := (Option.bind_some _ _).symm.trans H; with_reducible exact H2_) | with_reducible exact H | (rw [hy290]; exact H) | exact H
                                 have Ny290 := Aside0.mk hy290
                                 clear hy290
                                 by_cases c59 : x13_6 = true
                                 ·
                                  subst c59
                                  have H1 : (quittancelaw04_SheafTorn.l2 k6 l0 y290 x5_2 x6_2 (IntKind.u64.wrap ((IntKind.u64.wrap (t280 + 1)) + (IntKind.u64.wrap (((rd_T44 l0 x6_2).f1))))) t282 jm ((ji47) == 64) (wrap64 (x14_6 + 1)) ((rd_T44 l0 x6_2).f0) ((rd_T44 l0 x6_2).f1) ((rd_T44 l0 x6_2).f2) ((rd_T44 l0 x6_2).f3)) = some r := by rw [if_pos rfl] at H; exact H
                                  clear H
                                  have H := H1
                                  clear H1
                                  have H' := Aside0.mk H
                                  clear H
                                  obtain ⟨Ao60, co60, eo60⟩ := Kd.R_slice HO_10.out
                                  subst eo60
                                  have hcz61_0 : wr.cell? ⟨gb279, 0, none⟩ = some (.int .u8 ((rd_T44 l0 x6_2).f0)) := (blk_cell BK279.out 0).trans rfl
                                  have hcz61_1 : wr.cell? ⟨gb279, 1, none⟩ = some (.int .u16 ((rd_T44 l0 x6_2).f1)) := (blk_cell BK279.out 1).trans rfl
                                  have hcz61_2 : wr.cell? ⟨gb279, 2, none⟩ = some (.string ((rd_T44 l0 x6_2).f2)) := (blk_cell BK279.out 2).trans rfl
                                  have hcz61_3 : wr.cell? ⟨gb279, 3, none⟩ = some (.slice A278_3 ((rd_T44 l0 x6_2).f3).length c278_3) := (blk_cell BK279.out 3).trans rfl
                                  have hfz61_0 := blk_frozen BK279.out 0
                                  have hfz61_1 := blk_frozen BK279.out 1
                                  have hfz61_2 := blk_frozen BK279.out 2
                                  have hfz61_3 := blk_frozen BK279.out 3
                                  have p286 : 0 ≤ ((ji43) : Int) := of_decide_eq_true (by first | (with_reducible assumption) | assumption)
                                  have q286 : (ji43) < (((rd_T44 l0 x6_2).f3).length : Int) := of_decide_eq_true (by first | (with_reducible assumption) | assumption)
                                  obtain ⟨ad286, e286, hx286_0⟩ := Kd.at_int HR278_3.out (ji43) p286 q286
                                  cases e286
                                  replace hx286_0 := (HB.out.cell (World.block_lt_of_cell? w _ hx286_0)).trans hx286_0
                                  replace p286 := eq_true p286
                                  replace q286 := eq_true q286
                                  have p287 : 0 ≤ (x14_6 : Int) := of_decide_eq_true (by first | (with_reducible assumption) | assumption)
                                  have q287 : x14_6 < (t282.length : Int) := of_decide_eq_true (by first | (with_reducible assumption) | assumption)
                                  obtain ⟨ad287, e287, hx287_0⟩ := Kd.at_string (Kd.R_reads' HO_10.out).2.2 x14_6 p287 q287
                                  cases e287
                                  replace p287 := eq_true p287
                                  replace q287 := eq_true q287
                                  try go_wp2
                                  have n0_ := Aside0.mk (Kd.R_drew HO_3.out)
                                  have n1_ := Aside0.mk (Kd.R_drew HO_5.out)
                                  have n2_ := Aside0.mk (Kd.R_drew HO_10.out)
                                  have n3_ := Aside0.mk (blk_drew BK279.out)
                                  have n4_ := Aside0.mk (below_drew1 HB.out)
                                  clear HO_3
                                  clear HO_5
                                  clear HO_10
                                  clear BK279
                                  clear HB
                                  have HO_3 := n0_
                                  have HO_5 := n1_
                                  have HO_10 := n2_
                                  have BK279 := n3_
                                  have HB := n4_
                                  clear n0_ n1_ n2_ n3_ n4_
                                  have p288 : 0 ≤ (x14_6 : Int) := of_decide_eq_true (by first | (with_reducible assumption) | assumption)
                                  have q288 : x14_6 < (t282.length : Int) := of_decide_eq_true (by first | (with_reducible assumption) | assumption)
                                  obtain ⟨ad288, e288, hx288_0⟩ := Kd.at_string (Kd.R_reads' HO_10.out).2.2 x14_6 p288 q288
                                  obtain rfl : ad287 = ad288 := (by injection e288)
                                  replace p288 := eq_true p288
                                  replace q288 := eq_true q288
                                  have p289 : 0 ≤ ((ji52) : Int) := of_decide_eq_true (by first | (with_reducible assumption) | assumption)
                                  have q289 : (ji52) < (x3_6.length : Int) := of_decide_eq_true (by first | (with_reducible assumption) | assumption)
                                  obtain ⟨ad289, e289, hx289_0⟩ := Kd.at_string (Kd.R_reads' HO_3.out).2.2 (ji52) p289 q289
                                  cases e289
                                  replace p289 := eq_true p289
                                  replace q289 := eq_true q289
                                  have p58 : 0 ≤ ((ji52) : Int) := of_decide_eq_true (by first | (with_reducible assumption) | assumption)
                                  have q58 : ((ji52) : Int) < ((x3_6.length : Int) : Int) := of_decide_eq_true (by first | (with_reducible assumption) | assumption)
                                  obtain ⟨go58, co58, eo58, gb58, gl58, cl58, HG58⟩ := Kd.R_form HO_3.out (by omega)
                                  (first | cases eo58 | (injection eo58 with ea_ en_ ec_; (first | subst ea_ | (injection ea_ with ea_; subst ea_)); subst ec_; clear en_))
                                  have GB58 := Aside0.mk gb58
                                  have GG58 := Aside0.mk HG58
                                  clear gb58 gl58 HG58
                                  (first | simp only [add_plain] at hx289_0 | skip)
                                  obtain ⟨hx58_0, hf58_0⟩ := Kd.R_celln (⟨#[]⟩ : ByteArray) HO_3.out ((ji52) : Int) p58 q58
                                  replace p58 := eq_true p58
                                  replace q58 := eq_true q58
                                  have HP63 := Kd.R_putn HO_3.out ((ji52) : Int) (((rdOf ByteArray.empty t282 x14_6).extract 0 ((ji47) : Int).toNat) ++ ((rdOf ByteArray.empty x3_6 (ji52)).extract ((ji47) : Int).toNat (rdOf ByteArray.empty x3_6 (ji52)).size))
                                  rw [← Ny290.out] at HP63
                                  have HQ63 := Aside0.mk HP63
                                  clear HP63
                                  refine start_ (n := 21) (S := fun w' => w'.cell? (ad287.add (x14_6).toNat) = some (.string (rdOf ByteArray.empty t282 x14_6)) ∧ w'.cell? ⟨go58, ((ji52)).toNat, none⟩ = some (.string (rdOf ByteArray.empty x3_6 (ji52)))) (ds := [20]) #[false, false, false, false, false, false, false, false, false, false, false, false, false, false, false, false, false, false, false, false, false] (by kernel_rfl) rfl rfl ⟨hx288_0, hx289_0⟩ (fun hHeld => ?_); refine with_tabW quittancelaw04_SheafTorn.tab29 quittancelaw04_SheafTorn.bits29 (fun HT_ HW_ => ?_)
                                  generalize wr.drew = w62 at HO_3 HO_5 HO_10 BK279 HB GG58 HQ63 hf58_0 hx288_0 hx289_0 hx58_0 hHeld ⊢
                                  refine pure_ (i := 0) (N := some 124) (v := ?_) (a' := ?_) #[true, false, false, false, false, false, false, false, false, false, false, false, false, false, false, false, false, false, false, false, false] rfl rfl (any_of HT_.out (by kernel_rfl)) (fun _ _ _ h => h) (Or.inl ⟨by rfl, ?_⟩) ?_ ?_
                                  rotate_left
                                  ·
                                   intro w'
                                   go_simp
                                   with_reducible rfl
                                  rotate_left
                                  ·
                                   simp only [Act.put, List.setIfInBounds_toArray, List.set_cons_zero, List.set_cons_succ, i64_w, i32_w]
                                   rfl
                                  refine pure_ (i := 1) (N := some 125) (v := ?_) (a' := ?_) #[true, true, false, false, false, false, false, false, false, false, false, false, false, false, false, false, false, false, false, false, false] rfl rfl (any_of HT_.out (by kernel_rfl)) (fun _ _ _ h => h) (Or.inl ⟨by rfl, ?_⟩) ?_ ?_
                                  rotate_left
                                  ·
                                   intro w'
                                   go_simp
                                   with_reducible rfl
                                  rotate_left
                                  ·
                                   simp only [Act.put, List.setIfInBounds_toArray, List.set_cons_zero, List.set_cons_succ, i64_w, i32_w]
                                   rfl
                                  refine pure_ (i := 2) (N := some 126) (v := ?_) (a' := ?_) #[true, true, true, false, false, false, false, false, false, false, false, false, false, false, false, false, false, false, false, false, false] rfl rfl (any_of HT_.out (by kernel_rfl)) (fun _ _ _ h => h) (Or.inl ⟨by rfl, ?_⟩) ?_ ?_
                                  rotate_left
                                  ·
                                   intro w'
                                   go_simp
                                   with_reducible rfl
                                  rotate_left
                                  ·
                                   simp only [Act.put, List.setIfInBounds_toArray, List.set_cons_zero, List.set_cons_succ, i64_w, i32_w]
                                   rfl
                                  refine pure_ (i := 3) (N := some 127) (v := ?_) (a' := ?_) #[true, true, true, true, false, false, false, false, false, false, false, false, false, false, false, false, false, false, false, false, false] rfl rfl (any_of HT_.out (by kernel_rfl)) (fun _ _ _ h => h) (Or.inl ⟨by rfl, ?_⟩) ?_ ?_
                                  rotate_left
                                  ·
                                   intro w'
                                   go_simp
                                   with_reducible rfl
                                  rotate_left
                                  ·
                                   simp only [Act.put, List.setIfInBounds_toArray, List.set_cons_zero, List.set_cons_succ, i64_w, i32_w]
                                   rfl
                                  refine pure_ (i := 4) (N := some 128) (v := ?_) (a' := ?_) #[true, true, true, true, true, false, false, false, false, false, false, false, false, false, false, false, false, false, false, false, false] rfl rfl (any_of HT_.out (by kernel_rfl)) (fun _ _ _ h => h) (Or.inl ⟨by rfl, ?_⟩) ?_ ?_
                                  rotate_left
                                  ·
                                   intro w'
                                   go_simp
                                   with_reducible rfl
                                  rotate_left
                                  ·
                                   simp only [Act.put, List.setIfInBounds_toArray, List.set_cons_zero, List.set_cons_succ, i64_w, i32_w]
                                   rfl
                                  refine pure_ (i := 5) (N := some 129) (v := ?_) (a' := ?_) #[true, true, true, true, true, true, false, false, false, false, false, false, false, false, false, false, false, false, false, false, false] rfl rfl (any_of HT_.out (by kernel_rfl)) (fun _ _ _ h => h) (Or.inl ⟨by rfl, ?_⟩) ?_ ?_
                                  rotate_left
                                  ·
                                   intro w'
                                   go_simp
                                   with_reducible rfl
                                  rotate_left
                                  ·
                                   simp only [Act.put, List.setIfInBounds_toArray, List.set_cons_zero, List.set_cons_succ, i64_w, i32_w]
                                   rfl
                                  refine pure_ (i := 6) (N := some 130) (v := ?_) (a' := ?_) #[true, true, true, true, true, true, true, false, false, false, false, false, false, false, false, false, false, false, false, false, false] rfl rfl (any_of HT_.out (by kernel_rfl)) (fun _ _ _ h => h) (Or.inl ⟨by rfl, ?_⟩) ?_ ?_
                                  rotate_left
                                  ·
                                   intro w'
                                   go_simp
                                   with_reducible rfl
                                  rotate_left
                                  ·
                                   simp only [Act.put, List.setIfInBounds_toArray, List.set_cons_zero, List.set_cons_succ, i64_w, i32_w]
                                   rfl
                                  refine pure_ (i := 8) (N := some 132) (v := ?_) (a' := ?_) #[true, true, true, true, true, true, true, false, true, false, false, false, false, false, false, false, false, false, false, false, false] rfl rfl (any_of HT_.out (by kernel_rfl)) (fun _ _ _ h => h) (Or.inl ⟨by rfl, ?_⟩) ?_ ?_
                                  rotate_left
                                  ·
                                   intro w'
                                   go_simp
                                   with_reducible rfl
                                  rotate_left
                                  ·
                                   simp only [Act.put, List.setIfInBounds_toArray, List.set_cons_zero, List.set_cons_succ, i64_w, i32_w]
                                   rfl
                                  refine pure_ (i := 10) (N := some 134) (v := ?_) (a' := ?_) #[true, true, true, true, true, true, true, false, true, false, true, false, false, false, false, false, false, false, false, false, false] rfl rfl (any_of HT_.out (by kernel_rfl)) (fun _ _ _ h => h) (Or.inl ⟨by rfl, ?_⟩) ?_ ?_
                                  rotate_left
                                  ·
                                   intro w'
                                   go_simp
                                   with_reducible rfl
                                  rotate_left
                                  ·
                                   simp only [Act.put, List.setIfInBounds_toArray, List.set_cons_zero, List.set_cons_succ, i64_w, i32_w]
                                   rfl
                                  refine pure_ (i := 11) (N := some 135) (v := ?_) (a' := ?_) #[true, true, true, true, true, true, true, false, true, false, true, true, false, false, false, false, false, false, false, false, false] rfl rfl (any_of HT_.out (by kernel_rfl)) (fun _ _ _ h => h) (Or.inl ⟨by rfl, ?_⟩) ?_ ?_
                                  rotate_left
                                  ·
                                   intro w'
                                   go_simp
                                   with_reducible rfl
                                  rotate_left
                                  ·
                                   simp only [Act.put, List.setIfInBounds_toArray, List.set_cons_zero, List.set_cons_succ, i64_w, i32_w]
                                   rfl
                                  refine pure_ (i := 12) (N := some 136) (v := ?_) (a' := ?_) #[true, true, true, true, true, true, true, false, true, false, true, true, true, false, false, false, false, false, false, false, false] rfl rfl (any_of HT_.out (by kernel_rfl)) (fun _ _ _ h => h) (Or.inl ⟨by rfl, ?_⟩) ?_ ?_
                                  rotate_left
                                  ·
                                   intro w'
                                   go_simp
                                   with_reducible rfl
                                  rotate_left
                                  ·
                                   simp only [Act.put, List.setIfInBounds_toArray, List.set_cons_zero, List.set_cons_succ, i64_w, i32_w]
                                   rfl
                                  refine pure_ (i := 13) (N := some 137) (v := ?_) (a' := ?_) #[true, true, true, true, true, true, true, false, true, false, true, true, true, true, false, false, false, false, false, false, false] rfl rfl (any_of HT_.out (by kernel_rfl)) (fun _ _ _ h => h) (Or.inl ⟨by rfl, ?_⟩) ?_ ?_
                                  rotate_left
                                  ·
                                   intro w'
                                   go_simp
                                   with_reducible rfl
                                  rotate_left
                                  ·
                                   simp only [Act.put, List.setIfInBounds_toArray, List.set_cons_zero, List.set_cons_succ, i64_w, i32_w]
                                   rfl
                                  refine pure_ (i := 14) (N := some 138) (v := ?_) (a' := ?_) #[true, true, true, true, true, true, true, false, true, false, true, true, true, true, true, false, false, false, false, false, false] rfl rfl (any_of HT_.out (by kernel_rfl)) (fun _ _ _ h => h) (Or.inl ⟨by rfl, ?_⟩) ?_ ?_
                                  rotate_left
                                  ·
                                   intro w'
                                   go_simp
                                   with_reducible rfl
                                  rotate_left
                                  ·
                                   simp only [Act.put, List.setIfInBounds_toArray, List.set_cons_zero, List.set_cons_succ, i64_w, i32_w]
                                   rfl
                                  refine pure_ (i := 16) (N := some 140) (v := ?_) (a' := ?_) #[true, true, true, true, true, true, true, false, true, false, true, true, true, true, true, false, true, false, false, false, false] rfl rfl (any_of HT_.out (by kernel_rfl)) (fun _ _ _ h => h) (Or.inl ⟨by rfl, ?_⟩) ?_ ?_
                                  rotate_left
                                  ·
                                   intro w'
                                   go_simp
                                   with_reducible rfl
                                  rotate_left
                                  ·
                                   simp only [Act.put, List.setIfInBounds_toArray, List.set_cons_zero, List.set_cons_succ, i64_w, i32_w]
                                   rfl
                                  refine take_ (i := 7) (N := some 131) (v := ?_) (a' := ?_) #[true, true, true, true, true, true, true, true, true, false, true, true, true, true, true, false, true, false, false, false, false] rfl rfl (take_ofW HT_.out HW_.out (by kernel_rfl)) (fun _ _ _ h => h) (Or.inl ⟨by rfl, ?_⟩) hHeld ?_ ?_
                                  rotate_left
                                  ·
                                   rintro w' ⟨s0, s1⟩
                                   go_simp
                                   with_reducible rfl
                                  rotate_left
                                  ·
                                   simp only [Act.put, List.setIfInBounds_toArray, List.set_cons_zero, List.set_cons_succ, i64_w, i32_w]
                                   rfl
                                  refine pure_ (i := 9) (N := some 133) (v := ?_) (a' := ?_) #[true, true, true, true, true, true, true, true, true, true, true, true, true, true, true, false, true, false, false, false, false] rfl rfl (any_of HT_.out (by kernel_rfl)) (fun _ _ _ h => h) (Or.inl ⟨by rfl, ?_⟩) ?_ ?_
                                  rotate_left
                                  ·
                                   intro w'
                                   go_simp
                                   with_reducible rfl
                                  rotate_left
                                  ·
                                   simp only [Act.put, List.setIfInBounds_toArray, List.set_cons_zero, List.set_cons_succ, i64_w, i32_w]
                                   rfl
                                  refine take_ (i := 15) (N := some 139) (v := ?_) (a' := ?_) #[true, true, true, true, true, true, true, true, true, true, true, true, true, true, true, true, true, false, false, false, false] rfl rfl (take_ofW HT_.out HW_.out (by kernel_rfl)) (fun _ _ _ h => h) (Or.inl ⟨by rfl, ?_⟩) hHeld ?_ ?_
                                  rotate_left
                                  ·
                                   rintro w' ⟨s0, s1⟩
                                   go_simp
                                   with_reducible rfl
                                  rotate_left
                                  ·
                                   simp only [Act.put, List.setIfInBounds_toArray, List.set_cons_zero, List.set_cons_succ, i64_w, i32_w]
                                   rfl
                                  refine pure_ (i := 17) (N := some 141) (v := ?_) (a' := ?_) #[true, true, true, true, true, true, true, true, true, true, true, true, true, true, true, true, true, true, false, false, false] rfl rfl (any_of HT_.out (by kernel_rfl)) (fun _ _ _ h => h) (Or.inl ⟨by rfl, ?_⟩) ?_ ?_
                                  rotate_left
                                  ·
                                   intro w'
                                   go_simp
                                   with_reducible rfl
                                  rotate_left
                                  ·
                                   simp only [Act.put, List.setIfInBounds_toArray, List.set_cons_zero, List.set_cons_succ, i64_w, i32_w]
                                   rfl
                                  refine pure_ (i := 18) (N := some 142) (v := ?_) (a' := ?_) #[true, true, true, true, true, true, true, true, true, true, true, true, true, true, true, true, true, true, true, false, false] rfl rfl (any_of HT_.out (by kernel_rfl)) (fun _ _ _ h => h) (Or.inl ⟨by rfl, ?_⟩) ?_ ?_
                                  rotate_left
                                  ·
                                   intro w'
                                   go_simp
                                   with_reducible rfl
                                  rotate_left
                                  ·
                                   simp only [Act.put, List.setIfInBounds_toArray, List.set_cons_zero, List.set_cons_succ, i64_w, i32_w]
                                   rfl
                                  refine pure_ (i := 19) (N := some 143) (v := ?_) (a' := ?_) #[true, true, true, true, true, true, true, true, true, true, true, true, true, true, true, true, true, true, true, true, false] rfl rfl (any_of HT_.out (by kernel_rfl)) (fun _ _ _ h => h) (Or.inl ⟨by rfl, ?_⟩) ?_ ?_
                                  rotate_left
                                  ·
                                   intro w'
                                   go_simp
                                   with_reducible rfl
                                  rotate_left
                                  ·
                                   simp only [Act.put, List.setIfInBounds_toArray, List.set_cons_zero, List.set_cons_succ, i64_w, i32_w]
                                   rfl
                                  refine last_ (i := 20) (N := none) #[true, true, true, true, true, true, true, true, true, true, true, true, true, true, true, true, true, true, true, true, true] rfl rfl (one_of HT_.out (by kernel_rfl)) (by decide) (fun K hK => ?_)
                                  refine skip_ (w1 := ?_) (by rfl) rfl ?_ ?_
                                  rotate_left
                                  ·
                                   go_simp
                                   rfl
                                  refine hK.out _ _ ?_
                                  clear hK K
                                  refine done_ (done_of HT_.out (by kernel_rfl)) ?_
                                  try go_wp2
                                  (try simp only [← hl3_6])
                                  go_roundg k6
                                  case measure => have := HK1.out; have := HK2.out; have := HJ15.out; have := HJ21.out; have := HJ32.out; have := HK6.out; omega
                                  case rel => exact ⟨(y290), (((ji47) == 64)), (wrap64 (x14_6 + 1)), (by first | rfl | (simp; done) | (simp only [← hji47] <;> (first | rfl | simp)) | (simp [*]; done)), (by first | rfl | (simp; done) | (simp [*]; done)), H', ⟨by have := HK1.out; have := HK2.out; have := HJ15.out; have := HJ21.out; have := HJ32.out; have := HK6.out; omega⟩, ⟨by (try simp only [hl3_2]); (try simp only [hl3_6]); (with_reducible repeat (first | apply Kd.R_alloc | apply Kd.R_drewN | apply Kd.R_drew)); exact HQ63.out⟩, ⟨by (try simp only [hl3_2]); (try simp only [hl3_6]); (with_reducible repeat (first | apply Kd.R_alloc | apply Kd.R_drewN | apply Kd.R_drew)); exact Kd.R_mono (Kd.R_far (p := ⟨go58, ((ji52) : Int).toNat, none⟩) (Kd.R_types HO_5.out GG58.out (by decide)) (fun _ hk => hk.2) (.string (((rdOf ByteArray.empty t282 x14_6).extract 0 ((ji47) : Int).toNat) ++ ((rdOf ByteArray.empty x3_6 (ji52)).extract ((ji47) : Int).toNat (rdOf ByteArray.empty x3_6 (ji52)).size)))) (fun _ hk => trivial)⟩, ⟨by (try simp only [hl3_2]); (try simp only [hl3_6]); (with_reducible repeat (first | apply Kd.R_alloc | apply Kd.R_drewN | apply Kd.R_drew)); exact Kd.R_mono (Kd.R_far (p := ⟨go58, ((ji52) : Int).toNat, none⟩) (Kd.R_mono HO_10.out (fun k_ hk => (⟨hk, fun e_ => hk (by rw [e_]; rfl)⟩ : _ ∧ k_ ≠ go58))) (fun _ hk => hk.2) (.string (((rdOf ByteArray.empty t282 x14_6).extract 0 ((ji47) : Int).toNat) ++ ((rdOf ByteArray.empty x3_6 (ji52)).extract ((ji47) : Int).toNat (rdOf ByteArray.empty x3_6 (ji52)).size)))) (fun _ hk => hk.1)⟩, ⟨by (try simp only [hl3_2]); (try simp only [hl3_6]); (with_reducible repeat (first | refine blk_drewN ?_ _ | refine blk_drew ?_ | refine blk_alloc ?_ _)); refine blk_far ?_ (by have h_ := Kd.R_ne HO_3.out BK279.out (by decide); intro e_; exact h_ (by rw [e_]; rfl)) _; (with_reducible repeat (first | refine blk_drewN ?_ _ | refine blk_drew ?_ | refine blk_alloc ?_ _)); exact BK279.out⟩, ⟨by repeat (first | (with_reducible first | exact HB.out | apply below_alloc | apply pw_below_drewN | apply below_drew1 | refine below_set ?_ GB58.out | refine below_set ?_ GE279.out) | exact HB.out)⟩⟩
                                 ·
                                  replace c59 := Bool.eq_false_iff.mpr c59
                                  subst c59
                                  have H1 : (quittancelaw04_SheafTorn.l2 k6 l0 y290 x5_2 x6_2 (IntKind.u64.wrap ((IntKind.u64.wrap (t280 + 1)) + (IntKind.u64.wrap (((rd_T44 l0 x6_2).f1))))) t282 jm false (wrap64 (x14_6 + 1)) ((rd_T44 l0 x6_2).f0) ((rd_T44 l0 x6_2).f1) ((rd_T44 l0 x6_2).f2) ((rd_T44 l0 x6_2).f3)) = some r := by rw [if_neg (show ¬ (false = true) by decide)] at H; exact H
                                  clear H
                                  have H := H1
                                  clear H1
                                  have H' := Aside0.mk H
                                  clear H
                                  obtain ⟨Ao64, co64, eo64⟩ := Kd.R_slice HO_10.out
                                  subst eo64
                                  have hcz65_0 : wr.cell? ⟨gb279, 0, none⟩ = some (.int .u8 ((rd_T44 l0 x6_2).f0)) := (blk_cell BK279.out 0).trans rfl
                                  have hcz65_1 : wr.cell? ⟨gb279, 1, none⟩ = some (.int .u16 ((rd_T44 l0 x6_2).f1)) := (blk_cell BK279.out 1).trans rfl
                                  have hcz65_2 : wr.cell? ⟨gb279, 2, none⟩ = some (.string ((rd_T44 l0 x6_2).f2)) := (blk_cell BK279.out 2).trans rfl
                                  have hcz65_3 : wr.cell? ⟨gb279, 3, none⟩ = some (.slice A278_3 ((rd_T44 l0 x6_2).f3).length c278_3) := (blk_cell BK279.out 3).trans rfl
                                  have hfz65_0 := blk_frozen BK279.out 0
                                  have hfz65_1 := blk_frozen BK279.out 1
                                  have hfz65_2 := blk_frozen BK279.out 2
                                  have hfz65_3 := blk_frozen BK279.out 3
                                  have p286 : 0 ≤ ((ji43) : Int) := of_decide_eq_true (by first | (with_reducible assumption) | assumption)
                                  have q286 : (ji43) < (((rd_T44 l0 x6_2).f3).length : Int) := of_decide_eq_true (by first | (with_reducible assumption) | assumption)
                                  obtain ⟨ad286, e286, hx286_0⟩ := Kd.at_int HR278_3.out (ji43) p286 q286
                                  cases e286
                                  replace hx286_0 := (HB.out.cell (World.block_lt_of_cell? w _ hx286_0)).trans hx286_0
                                  replace p286 := eq_true p286
                                  replace q286 := eq_true q286
                                  have p287 : 0 ≤ (x14_6 : Int) := of_decide_eq_true (by first | (with_reducible assumption) | assumption)
                                  have q287 : x14_6 < (t282.length : Int) := of_decide_eq_true (by first | (with_reducible assumption) | assumption)
                                  obtain ⟨ad287, e287, hx287_0⟩ := Kd.at_string (Kd.R_reads' HO_10.out).2.2 x14_6 p287 q287
                                  cases e287
                                  replace p287 := eq_true p287
                                  replace q287 := eq_true q287
                                  try go_wp2
                                  have n0_ := Aside0.mk (Kd.R_drew HO_3.out)
                                  have n1_ := Aside0.mk (Kd.R_drew HO_5.out)
                                  have n2_ := Aside0.mk (Kd.R_drew HO_10.out)
                                  have n3_ := Aside0.mk (blk_drew BK279.out)
                                  have n4_ := Aside0.mk (below_drew1 HB.out)
                                  clear HO_3
                                  clear HO_5
                                  clear HO_10
                                  clear BK279
                                  clear HB
                                  have HO_3 := n0_
                                  have HO_5 := n1_
                                  have HO_10 := n2_
                                  have BK279 := n3_
                                  have HB := n4_
                                  clear n0_ n1_ n2_ n3_ n4_
                                  have p288 : 0 ≤ (x14_6 : Int) := of_decide_eq_true (by first | (with_reducible assumption) | assumption)
                                  have q288 : x14_6 < (t282.length : Int) := of_decide_eq_true (by first | (with_reducible assumption) | assumption)
                                  obtain ⟨ad288, e288, hx288_0⟩ := Kd.at_string (Kd.R_reads' HO_10.out).2.2 x14_6 p288 q288
                                  obtain rfl : ad287 = ad288 := (by injection e288)
                                  replace p288 := eq_true p288
                                  replace q288 := eq_true q288
                                  have p289 : 0 ≤ ((ji52) : Int) := of_decide_eq_true (by first | (with_reducible assumption) | assumption)
                                  have q289 : (ji52) < (x3_6.length : Int) := of_decide_eq_true (by first | (with_reducible assumption) | assumption)
                                  obtain ⟨ad289, e289, hx289_0⟩ := Kd.at_string (Kd.R_reads' HO_3.out).2.2 (ji52) p289 q289
                                  cases e289
                                  replace p289 := eq_true p289
                                  replace q289 := eq_true q289
                                  have p58 : 0 ≤ ((ji52) : Int) := of_decide_eq_true (by first | (with_reducible assumption) | assumption)
                                  have q58 : ((ji52) : Int) < ((x3_6.length : Int) : Int) := of_decide_eq_true (by first | (with_reducible assumption) | assumption)
                                  obtain ⟨go58, co58, eo58, gb58, gl58, cl58, HG58⟩ := Kd.R_form HO_3.out (by omega)
                                  (first | cases eo58 | (injection eo58 with ea_ en_ ec_; (first | subst ea_ | (injection ea_ with ea_; subst ea_)); subst ec_; clear en_))
                                  have GB58 := Aside0.mk gb58
                                  have GG58 := Aside0.mk HG58
                                  clear gb58 gl58 HG58
                                  (first | simp only [add_plain] at hx289_0 | skip)
                                  obtain ⟨hx58_0, hf58_0⟩ := Kd.R_celln (⟨#[]⟩ : ByteArray) HO_3.out ((ji52) : Int) p58 q58
                                  replace p58 := eq_true p58
                                  replace q58 := eq_true q58
                                  have HP67 := Kd.R_putn HO_3.out ((ji52) : Int) (((rdOf ByteArray.empty t282 x14_6).extract 0 ((ji47) : Int).toNat) ++ ((rdOf ByteArray.empty x3_6 (ji52)).extract ((ji47) : Int).toNat (rdOf ByteArray.empty x3_6 (ji52)).size))
                                  rw [← Ny290.out] at HP67
                                  have HQ67 := Aside0.mk HP67
                                  clear HP67
                                  refine start_ (n := 21) (S := fun w' => w'.cell? (ad287.add (x14_6).toNat) = some (.string (rdOf ByteArray.empty t282 x14_6)) ∧ w'.cell? ⟨go58, ((ji52)).toNat, none⟩ = some (.string (rdOf ByteArray.empty x3_6 (ji52)))) (ds := [20]) #[false, false, false, false, false, false, false, false, false, false, false, false, false, false, false, false, false, false, false, false, false] (by kernel_rfl) rfl rfl ⟨hx288_0, hx289_0⟩ (fun hHeld => ?_); refine with_tabW quittancelaw04_SheafTorn.tab29 quittancelaw04_SheafTorn.bits29 (fun HT_ HW_ => ?_)
                                  generalize wr.drew = w66 at HO_3 HO_5 HO_10 BK279 HB GG58 HQ67 hf58_0 hx288_0 hx289_0 hx58_0 hHeld ⊢
                                  refine pure_ (i := 0) (N := some 124) (v := ?_) (a' := ?_) #[true, false, false, false, false, false, false, false, false, false, false, false, false, false, false, false, false, false, false, false, false] rfl rfl (any_of HT_.out (by kernel_rfl)) (fun _ _ _ h => h) (Or.inl ⟨by rfl, ?_⟩) ?_ ?_
                                  rotate_left
                                  ·
                                   intro w'
                                   go_simp
                                   with_reducible rfl
                                  rotate_left
                                  ·
                                   simp only [Act.put, List.setIfInBounds_toArray, List.set_cons_zero, List.set_cons_succ, i64_w, i32_w]
                                   rfl
                                  refine pure_ (i := 1) (N := some 125) (v := ?_) (a' := ?_) #[true, true, false, false, false, false, false, false, false, false, false, false, false, false, false, false, false, false, false, false, false] rfl rfl (any_of HT_.out (by kernel_rfl)) (fun _ _ _ h => h) (Or.inl ⟨by rfl, ?_⟩) ?_ ?_
                                  rotate_left
                                  ·
                                   intro w'
                                   go_simp
                                   with_reducible rfl
                                  rotate_left
                                  ·
                                   simp only [Act.put, List.setIfInBounds_toArray, List.set_cons_zero, List.set_cons_succ, i64_w, i32_w]
                                   rfl
                                  refine pure_ (i := 2) (N := some 126) (v := ?_) (a' := ?_) #[true, true, true, false, false, false, false, false, false, false, false, false, false, false, false, false, false, false, false, false, false] rfl rfl (any_of HT_.out (by kernel_rfl)) (fun _ _ _ h => h) (Or.inl ⟨by rfl, ?_⟩) ?_ ?_
                                  rotate_left
                                  ·
                                   intro w'
                                   go_simp
                                   with_reducible rfl
                                  rotate_left
                                  ·
                                   simp only [Act.put, List.setIfInBounds_toArray, List.set_cons_zero, List.set_cons_succ, i64_w, i32_w]
                                   rfl
                                  refine pure_ (i := 3) (N := some 127) (v := ?_) (a' := ?_) #[true, true, true, true, false, false, false, false, false, false, false, false, false, false, false, false, false, false, false, false, false] rfl rfl (any_of HT_.out (by kernel_rfl)) (fun _ _ _ h => h) (Or.inl ⟨by rfl, ?_⟩) ?_ ?_
                                  rotate_left
                                  ·
                                   intro w'
                                   go_simp
                                   with_reducible rfl
                                  rotate_left
                                  ·
                                   simp only [Act.put, List.setIfInBounds_toArray, List.set_cons_zero, List.set_cons_succ, i64_w, i32_w]
                                   rfl
                                  refine pure_ (i := 4) (N := some 128) (v := ?_) (a' := ?_) #[true, true, true, true, true, false, false, false, false, false, false, false, false, false, false, false, false, false, false, false, false] rfl rfl (any_of HT_.out (by kernel_rfl)) (fun _ _ _ h => h) (Or.inl ⟨by rfl, ?_⟩) ?_ ?_
                                  rotate_left
                                  ·
                                   intro w'
                                   go_simp
                                   with_reducible rfl
                                  rotate_left
                                  ·
                                   simp only [Act.put, List.setIfInBounds_toArray, List.set_cons_zero, List.set_cons_succ, i64_w, i32_w]
                                   rfl
                                  refine pure_ (i := 5) (N := some 129) (v := ?_) (a' := ?_) #[true, true, true, true, true, true, false, false, false, false, false, false, false, false, false, false, false, false, false, false, false] rfl rfl (any_of HT_.out (by kernel_rfl)) (fun _ _ _ h => h) (Or.inl ⟨by rfl, ?_⟩) ?_ ?_
                                  rotate_left
                                  ·
                                   intro w'
                                   go_simp
                                   with_reducible rfl
                                  rotate_left
                                  ·
                                   simp only [Act.put, List.setIfInBounds_toArray, List.set_cons_zero, List.set_cons_succ, i64_w, i32_w]
                                   rfl
                                  refine pure_ (i := 6) (N := some 130) (v := ?_) (a' := ?_) #[true, true, true, true, true, true, true, false, false, false, false, false, false, false, false, false, false, false, false, false, false] rfl rfl (any_of HT_.out (by kernel_rfl)) (fun _ _ _ h => h) (Or.inl ⟨by rfl, ?_⟩) ?_ ?_
                                  rotate_left
                                  ·
                                   intro w'
                                   go_simp
                                   with_reducible rfl
                                  rotate_left
                                  ·
                                   simp only [Act.put, List.setIfInBounds_toArray, List.set_cons_zero, List.set_cons_succ, i64_w, i32_w]
                                   rfl
                                  refine pure_ (i := 8) (N := some 132) (v := ?_) (a' := ?_) #[true, true, true, true, true, true, true, false, true, false, false, false, false, false, false, false, false, false, false, false, false] rfl rfl (any_of HT_.out (by kernel_rfl)) (fun _ _ _ h => h) (Or.inl ⟨by rfl, ?_⟩) ?_ ?_
                                  rotate_left
                                  ·
                                   intro w'
                                   go_simp
                                   with_reducible rfl
                                  rotate_left
                                  ·
                                   simp only [Act.put, List.setIfInBounds_toArray, List.set_cons_zero, List.set_cons_succ, i64_w, i32_w]
                                   rfl
                                  refine pure_ (i := 10) (N := some 134) (v := ?_) (a' := ?_) #[true, true, true, true, true, true, true, false, true, false, true, false, false, false, false, false, false, false, false, false, false] rfl rfl (any_of HT_.out (by kernel_rfl)) (fun _ _ _ h => h) (Or.inl ⟨by rfl, ?_⟩) ?_ ?_
                                  rotate_left
                                  ·
                                   intro w'
                                   go_simp
                                   with_reducible rfl
                                  rotate_left
                                  ·
                                   simp only [Act.put, List.setIfInBounds_toArray, List.set_cons_zero, List.set_cons_succ, i64_w, i32_w]
                                   rfl
                                  refine pure_ (i := 11) (N := some 135) (v := ?_) (a' := ?_) #[true, true, true, true, true, true, true, false, true, false, true, true, false, false, false, false, false, false, false, false, false] rfl rfl (any_of HT_.out (by kernel_rfl)) (fun _ _ _ h => h) (Or.inl ⟨by rfl, ?_⟩) ?_ ?_
                                  rotate_left
                                  ·
                                   intro w'
                                   go_simp
                                   with_reducible rfl
                                  rotate_left
                                  ·
                                   simp only [Act.put, List.setIfInBounds_toArray, List.set_cons_zero, List.set_cons_succ, i64_w, i32_w]
                                   rfl
                                  refine pure_ (i := 12) (N := some 136) (v := ?_) (a' := ?_) #[true, true, true, true, true, true, true, false, true, false, true, true, true, false, false, false, false, false, false, false, false] rfl rfl (any_of HT_.out (by kernel_rfl)) (fun _ _ _ h => h) (Or.inl ⟨by rfl, ?_⟩) ?_ ?_
                                  rotate_left
                                  ·
                                   intro w'
                                   go_simp
                                   with_reducible rfl
                                  rotate_left
                                  ·
                                   simp only [Act.put, List.setIfInBounds_toArray, List.set_cons_zero, List.set_cons_succ, i64_w, i32_w]
                                   rfl
                                  refine pure_ (i := 13) (N := some 137) (v := ?_) (a' := ?_) #[true, true, true, true, true, true, true, false, true, false, true, true, true, true, false, false, false, false, false, false, false] rfl rfl (any_of HT_.out (by kernel_rfl)) (fun _ _ _ h => h) (Or.inl ⟨by rfl, ?_⟩) ?_ ?_
                                  rotate_left
                                  ·
                                   intro w'
                                   go_simp
                                   with_reducible rfl
                                  rotate_left
                                  ·
                                   simp only [Act.put, List.setIfInBounds_toArray, List.set_cons_zero, List.set_cons_succ, i64_w, i32_w]
                                   rfl
                                  refine pure_ (i := 14) (N := some 138) (v := ?_) (a' := ?_) #[true, true, true, true, true, true, true, false, true, false, true, true, true, true, true, false, false, false, false, false, false] rfl rfl (any_of HT_.out (by kernel_rfl)) (fun _ _ _ h => h) (Or.inl ⟨by rfl, ?_⟩) ?_ ?_
                                  rotate_left
                                  ·
                                   intro w'
                                   go_simp
                                   with_reducible rfl
                                  rotate_left
                                  ·
                                   simp only [Act.put, List.setIfInBounds_toArray, List.set_cons_zero, List.set_cons_succ, i64_w, i32_w]
                                   rfl
                                  refine pure_ (i := 16) (N := some 140) (v := ?_) (a' := ?_) #[true, true, true, true, true, true, true, false, true, false, true, true, true, true, true, false, true, false, false, false, false] rfl rfl (any_of HT_.out (by kernel_rfl)) (fun _ _ _ h => h) (Or.inl ⟨by rfl, ?_⟩) ?_ ?_
                                  rotate_left
                                  ·
                                   intro w'
                                   go_simp
                                   with_reducible rfl
                                  rotate_left
                                  ·
                                   simp only [Act.put, List.setIfInBounds_toArray, List.set_cons_zero, List.set_cons_succ, i64_w, i32_w]
                                   rfl
                                  refine take_ (i := 7) (N := some 131) (v := ?_) (a' := ?_) #[true, true, true, true, true, true, true, true, true, false, true, true, true, true, true, false, true, false, false, false, false] rfl rfl (take_ofW HT_.out HW_.out (by kernel_rfl)) (fun _ _ _ h => h) (Or.inl ⟨by rfl, ?_⟩) hHeld ?_ ?_
                                  rotate_left
                                  ·
                                   rintro w' ⟨s0, s1⟩
                                   go_simp
                                   with_reducible rfl
                                  rotate_left
                                  ·
                                   simp only [Act.put, List.setIfInBounds_toArray, List.set_cons_zero, List.set_cons_succ, i64_w, i32_w]
                                   rfl
                                  refine pure_ (i := 9) (N := some 133) (v := ?_) (a' := ?_) #[true, true, true, true, true, true, true, true, true, true, true, true, true, true, true, false, true, false, false, false, false] rfl rfl (any_of HT_.out (by kernel_rfl)) (fun _ _ _ h => h) (Or.inl ⟨by rfl, ?_⟩) ?_ ?_
                                  rotate_left
                                  ·
                                   intro w'
                                   go_simp
                                   with_reducible rfl
                                  rotate_left
                                  ·
                                   simp only [Act.put, List.setIfInBounds_toArray, List.set_cons_zero, List.set_cons_succ, i64_w, i32_w]
                                   rfl
                                  refine take_ (i := 15) (N := some 139) (v := ?_) (a' := ?_) #[true, true, true, true, true, true, true, true, true, true, true, true, true, true, true, true, true, false, false, false, false] rfl rfl (take_ofW HT_.out HW_.out (by kernel_rfl)) (fun _ _ _ h => h) (Or.inl ⟨by rfl, ?_⟩) hHeld ?_ ?_
                                  rotate_left
                                  ·
                                   rintro w' ⟨s0, s1⟩
                                   go_simp
                                   with_reducible rfl
                                  rotate_left
                                  ·
                                   simp only [Act.put, List.setIfInBounds_toArray, List.set_cons_zero, List.set_cons_succ, i64_w, i32_w]
                                   rfl
                                  refine pure_ (i := 17) (N := some 141) (v := ?_) (a' := ?_) #[true, true, true, true, true, true, true, true, true, true, true, true, true, true, true, true, true, true, false, false, false] rfl rfl (any_of HT_.out (by kernel_rfl)) (fun _ _ _ h => h) (Or.inl ⟨by rfl, ?_⟩) ?_ ?_
                                  rotate_left
                                  ·
                                   intro w'
                                   go_simp
                                   with_reducible rfl
                                  rotate_left
                                  ·
                                   simp only [Act.put, List.setIfInBounds_toArray, List.set_cons_zero, List.set_cons_succ, i64_w, i32_w]
                                   rfl
                                  refine pure_ (i := 18) (N := some 142) (v := ?_) (a' := ?_) #[true, true, true, true, true, true, true, true, true, true, true, true, true, true, true, true, true, true, true, false, false] rfl rfl (any_of HT_.out (by kernel_rfl)) (fun _ _ _ h => h) (Or.inl ⟨by rfl, ?_⟩) ?_ ?_
                                  rotate_left
                                  ·
                                   intro w'
                                   go_simp
                                   with_reducible rfl
                                  rotate_left
                                  ·
                                   simp only [Act.put, List.setIfInBounds_toArray, List.set_cons_zero, List.set_cons_succ, i64_w, i32_w]
                                   rfl
                                  refine pure_ (i := 19) (N := some 143) (v := ?_) (a' := ?_) #[true, true, true, true, true, true, true, true, true, true, true, true, true, true, true, true, true, true, true, true, false] rfl rfl (any_of HT_.out (by kernel_rfl)) (fun _ _ _ h => h) (Or.inl ⟨by rfl, ?_⟩) ?_ ?_
                                  rotate_left
                                  ·
                                   intro w'
                                   go_simp
                                   with_reducible rfl
                                  rotate_left
                                  ·
                                   simp only [Act.put, List.setIfInBounds_toArray, List.set_cons_zero, List.set_cons_succ, i64_w, i32_w]
                                   rfl
                                  refine last_ (i := 20) (N := none) #[true, true, true, true, true, true, true, true, true, true, true, true, true, true, true, true, true, true, true, true, true] rfl rfl (one_of HT_.out (by kernel_rfl)) (by decide) (fun K hK => ?_)
                                  refine skip_ (w1 := ?_) (by rfl) rfl ?_ ?_
                                  rotate_left
                                  ·
                                   go_simp
                                   rfl
                                  refine hK.out _ _ ?_
                                  clear hK K
                                  refine done_ (done_of HT_.out (by kernel_rfl)) ?_
                                  try go_wp2
                                  (try simp only [← hl3_6])
                                  go_roundg k6
                                  case measure => have := HK1.out; have := HK2.out; have := HJ15.out; have := HJ21.out; have := HJ32.out; have := HK6.out; omega
                                  case rel => exact ⟨(y290), (false), (wrap64 (x14_6 + 1)), (by first | rfl | (simp; done) | (simp [*]; done)), (by first | rfl | (simp; done) | (simp [*]; done)), H', ⟨by have := HK1.out; have := HK2.out; have := HJ15.out; have := HJ21.out; have := HJ32.out; have := HK6.out; omega⟩, ⟨by (try simp only [hl3_2]); (try simp only [hl3_6]); (with_reducible repeat (first | apply Kd.R_alloc | apply Kd.R_drewN | apply Kd.R_drew)); exact HQ67.out⟩, ⟨by (try simp only [hl3_2]); (try simp only [hl3_6]); (with_reducible repeat (first | apply Kd.R_alloc | apply Kd.R_drewN | apply Kd.R_drew)); exact Kd.R_mono (Kd.R_far (p := ⟨go58, ((ji52) : Int).toNat, none⟩) (Kd.R_types HO_5.out GG58.out (by decide)) (fun _ hk => hk.2) (.string (((rdOf ByteArray.empty t282 x14_6).extract 0 ((ji47) : Int).toNat) ++ ((rdOf ByteArray.empty x3_6 (ji52)).extract ((ji47) : Int).toNat (rdOf ByteArray.empty x3_6 (ji52)).size)))) (fun _ hk => trivial)⟩, ⟨by (try simp only [hl3_2]); (try simp only [hl3_6]); (with_reducible repeat (first | apply Kd.R_alloc | apply Kd.R_drewN | apply Kd.R_drew)); exact Kd.R_mono (Kd.R_far (p := ⟨go58, ((ji52) : Int).toNat, none⟩) (Kd.R_mono HO_10.out (fun k_ hk => (⟨hk, fun e_ => hk (by rw [e_]; rfl)⟩ : _ ∧ k_ ≠ go58))) (fun _ hk => hk.2) (.string (((rdOf ByteArray.empty t282 x14_6).extract 0 ((ji47) : Int).toNat) ++ ((rdOf ByteArray.empty x3_6 (ji52)).extract ((ji47) : Int).toNat (rdOf ByteArray.empty x3_6 (ji52)).size)))) (fun _ hk => hk.1)⟩, ⟨by (try simp only [hl3_2]); (try simp only [hl3_6]); (with_reducible repeat (first | refine blk_drewN ?_ _ | refine blk_drew ?_ | refine blk_alloc ?_ _)); refine blk_far ?_ (by have h_ := Kd.R_ne HO_3.out BK279.out (by decide); intro e_; exact h_ (by rw [e_]; rfl)) _; (with_reducible repeat (first | refine blk_drewN ?_ _ | refine blk_drew ?_ | refine blk_alloc ?_ _)); exact BK279.out⟩, ⟨by repeat (first | (with_reducible first | exact HB.out | apply below_alloc | apply pw_below_drewN | apply below_drew1 | refine below_set ?_ GB58.out | refine below_set ?_ GE279.out) | exact HB.out)⟩⟩
                                ·
                                 rw [if_neg c57] at H
                                 exact absurd H (by simp)
                               ·
                                rw [if_neg c56] at H
                                exact absurd H (by simp)
                              ·
                               rw [if_neg c54] at H
                               exact absurd H (by simp)
                             ·
                              rw [if_neg c53] at H
                              exact absurd H (by simp)
                            ·
                             rw [if_neg c51] at H
                             exact absurd H (by simp)
                           ·
                            rw [if_neg c50] at H
                            exact absurd H (by simp)
                          ·
                           rw [if_neg c49] at H
                           have c49b0 : (((rdOf ByteArray.empty t282 x14_6).size : Int) == 64) = false := beq_eq_false_iff_ne.mpr c49
                           have c49b1 : (((rdOf ByteArray.empty t282 x14_6).size : Int) != 64) = true := bne_iff_ne.mpr c49
                           exact absurd ((Option.some.inj H).trans hr) (by decide)
                         ·
                          rw [if_neg c48] at H
                          exact absurd H (by simp)
                        ·
                         rw [if_neg c45] at H
                         exact absurd H (by simp)
                       ·
                        rw [if_neg c44] at H
                        exact absurd H (by simp)
                      ·
                       rw [if_neg c42] at H
                       have c42b0 : decide (0 < (((rd_T44 l0 x6_2).f3).length : Int)) = false := decide_eq_false c42
                       have c42b1 : decide (0 < ((rd_T44 l0 x6_2).f3).length) = false := decide_eq_false (by omega)
                       clear c42
                       by_cases c70 : 0 ≤ x14_6
                       ·
                        rw [if_pos c70] at H
                        have c70b0 : decide (0 ≤ x14_6) = true := decide_eq_true c70
                        clear c70
                        by_cases c71 : ((rdOf ByteArray.empty t282 x14_6).size : Int) = 64
                        ·
                         rw [if_pos c71] at H
                         have c71b0 : (((rdOf ByteArray.empty t282 x14_6).size : Int) == 64) = true := beq_iff_eq.mpr c71
                         have c71b1 : (((rdOf ByteArray.empty t282 x14_6).size : Int) != 64) = false := bne_eq_false_iff_eq.mpr c71
                         clear c71
                         by_cases c72 : 0 ≤ 64
                         ·
                          rw [if_pos c72] at H
                          have c72b0 := eq_true c72
                          have c72b1 : decide (0 ≤ 64) = true := decide_eq_true c72
                          clear c72
                          by_cases c73 : 64 ≤ ((rdOf ByteArray.empty t282 x14_6).size : Int)
                          ·
                           rw [if_pos c73] at H
                           have c73b0 := eq_true c73
                           have c73b1 : decide (64 ≤ ((rdOf ByteArray.empty t282 x14_6).size : Int)) = true := decide_eq_true c73
                           clear c73
                           obtain ⟨ji74, hji74⟩ : ∃ j_ : Int, (wrap64 (jm + x14_6)) = j_ := ⟨_, rfl⟩
                           replace H : (if 0 ≤ (ji74) then (if (ji74) < (x3_6.length : Int) then (if 64 ≤ ((rdOf ByteArray.empty x3_6 (ji74)).size : Int) then (if ((rdOf ByteArray.empty t282 x14_6).extract 0 64).size + ((rdOf ByteArray.empty x3_6 (ji74)).extract 64 (rdOf ByteArray.empty x3_6 (ji74)).size).size ≤ 9223372036854775807 then ((some (x3_6.set ((ji74) : Int).toNat (((rdOf ByteArray.empty t282 x14_6).extract 0 64) ++ ((rdOf ByteArray.empty x3_6 (ji74)).extract 64 (rdOf ByteArray.empty x3_6 (ji74)).size)) : List ByteArray)).bind fun y294 => (if x13_6 = true then (quittancelaw04_SheafTorn.l2 k6 l0 y294 x5_2 x6_2 (IntKind.u64.wrap ((IntKind.u64.wrap (t280 + 1)) + (IntKind.u64.wrap (((rd_T44 l0 x6_2).f1))))) t282 jm (64 == 64) (wrap64 (x14_6 + 1)) ((rd_T44 l0 x6_2).f0) ((rd_T44 l0 x6_2).f1) ((rd_T44 l0 x6_2).f2) ((rd_T44 l0 x6_2).f3)) else (quittancelaw04_SheafTorn.l2 k6 l0 y294 x5_2 x6_2 (IntKind.u64.wrap ((IntKind.u64.wrap (t280 + 1)) + (IntKind.u64.wrap (((rd_T44 l0 x6_2).f1))))) t282 jm false (wrap64 (x14_6 + 1)) ((rd_T44 l0 x6_2).f0) ((rd_T44 l0 x6_2).f1) ((rd_T44 l0 x6_2).f2) ((rd_T44 l0 x6_2).f3)))) else (none)) else (none)) else (none)) else (none)) = some r := by first | (rw [hji74] at H; exact H) | (simp only [hji74] at H ⊢; exact H)
                           have hji74w : (IntKind.i64.wrap (jm + x14_6)) = ji74 := (i64_w _).trans hji74
                           by_cases c75 : 0 ≤ (ji74)
                           ·
                            rw [if_pos c75] at H
                            have c75b0 : decide (0 ≤ (ji74)) = true := decide_eq_true c75
                            clear c75
                            by_cases c76 : (ji74) < (x3_6.length : Int)
                            ·
                             rw [if_pos c76] at H
                             have c76b0 : decide ((ji74) < (x3_6.length : Int)) = true := decide_eq_true c76
                             clear c76
                             by_cases c77 : 64 ≤ ((rdOf ByteArray.empty x3_6 (ji74)).size : Int)
                             ·
                              rw [if_pos c77] at H
                              have c77b0 := eq_true c77
                              have c77b1 : decide (64 ≤ ((rdOf ByteArray.empty x3_6 (ji74)).size : Int)) = true := decide_eq_true c77
                              clear c77
                              by_cases c78 : ((rdOf ByteArray.empty t282 x14_6).extract 0 64).size + ((rdOf ByteArray.empty x3_6 (ji74)).extract 64 (rdOf ByteArray.empty x3_6 (ji74)).size).size ≤ 9223372036854775807
                              ·
                               rw [if_pos c78] at H
                               have c78b0 := eq_true c78
                               have c78b1 : decide (((rdOf ByteArray.empty t282 x14_6).extract 0 64).size + ((rdOf ByteArray.empty x3_6 (ji74)).extract 64 (rdOf ByteArray.empty x3_6 (ji74)).size).size ≤ 9223372036854775807) = true := decide_eq_true c78
                               try have c78b2 : (9223372036854775807 < ((rdOf ByteArray.empty t282 x14_6).extract 0 64).size + ((rdOf ByteArray.empty x3_6 (ji74)).extract 64 (rdOf ByteArray.empty x3_6 (ji74)).size).size) = False := eq_false (Nat.not_lt.2 c78)
                               try (have c78b3 := Nat.not_lt.2 c78; simp only [ByteArray.size_append, ByteArray.size_extract, Nat.sub_zero, Nat.min_self] at c78b3; replace c78b3 := eq_false c78b3)
                               try (have c78b4 := Nat.not_lt.2 c78; simp only [ByteArray.size_append, ByteArray.size_extract, Nat.sub_zero, Nat.min_self] at c78b4; rw [Nat.min_eq_left (by simp only [decide_eq_true_eq, eq_iff_iff, iff_true] at *; omega)] at c78b4; replace c78b4 := eq_false c78b4)
                               obtain ⟨y294, hy294⟩ : ∃ y_ : List ByteArray, y_ = (x3_6.set ((ji74) : Int).toNat (((rdOf ByteArray.empty t282 x14_6).extract 0 64) ++ ((rdOf ByteArray.empty x3_6 (ji74)).extract 64 (rdOf ByteArray.empty x3_6 (ji74)).size))) := ⟨_, rfl⟩
                               replace H : (if x13_6 = true then (quittancelaw04_SheafTorn.l2 k6 l0 y294 x5_2 x6_2 (IntKind.u64.wrap ((IntKind.u64.wrap (t280 + 1)) + (IntKind.u64.wrap (((rd_T44 l0 x6_2).f1))))) t282 jm (64 == 64) (wrap64 (x14_6 + 1)) ((rd_T44 l0 x6_2).f0) ((rd_T44 l0 x6_2).f1) ((rd_T44 l0 x6_2).f2) ((rd_T44 l0 x6_2).f3)) else (quittancelaw04_SheafTorn.l2 k6 l0 y294 x5_2 x6_2 (IntKind.u64.wrap ((IntKind.u64.wrap (t280 + 1)) + (IntKind.u64.wrap (((rd_T44 l0 x6_2).f1))))) t282 jm false (wrap64 (x14_6 + 1)) ((rd_T44 l0 x6_2).f0) ((rd_T44 l0 x6_2).f1) ((rd_T44 l0 x6_2).f2) ((rd_T44 l0 x6_2).f3))) = some r := by first | (rw [hy294]; with_reducible exact H) | (have H2_ := (Option.bind_some _ _).symm.trans H; rw [hy294]; with_reducible exact H2_) | (have H2_ := (Option.bind_some _ _).symm.trans H; with_reducible exact H2_) | with_reducible exact H | (rw [hy294]; exact H) | exact H
                               have Ny294 := Aside0.mk hy294
                               clear hy294
                               by_cases c80 : x13_6 = true
                               ·
                                subst c80
                                have H1 : (quittancelaw04_SheafTorn.l2 k6 l0 y294 x5_2 x6_2 (IntKind.u64.wrap ((IntKind.u64.wrap (t280 + 1)) + (IntKind.u64.wrap (((rd_T44 l0 x6_2).f1))))) t282 jm (64 == 64) (wrap64 (x14_6 + 1)) ((rd_T44 l0 x6_2).f0) ((rd_T44 l0 x6_2).f1) ((rd_T44 l0 x6_2).f2) ((rd_T44 l0 x6_2).f3)) = some r := by rw [if_pos rfl] at H; exact H
                                clear H
                                have H := H1
                                clear H1
                                have H' := Aside0.mk H
                                clear H
                                obtain ⟨Ao81, co81, eo81⟩ := Kd.R_slice HO_10.out
                                subst eo81
                                have hcz82_0 : wr.cell? ⟨gb279, 0, none⟩ = some (.int .u8 ((rd_T44 l0 x6_2).f0)) := (blk_cell BK279.out 0).trans rfl
                                have hcz82_1 : wr.cell? ⟨gb279, 1, none⟩ = some (.int .u16 ((rd_T44 l0 x6_2).f1)) := (blk_cell BK279.out 1).trans rfl
                                have hcz82_2 : wr.cell? ⟨gb279, 2, none⟩ = some (.string ((rd_T44 l0 x6_2).f2)) := (blk_cell BK279.out 2).trans rfl
                                have hcz82_3 : wr.cell? ⟨gb279, 3, none⟩ = some (.slice A278_3 ((rd_T44 l0 x6_2).f3).length c278_3) := (blk_cell BK279.out 3).trans rfl
                                have hfz82_0 := blk_frozen BK279.out 0
                                have hfz82_1 := blk_frozen BK279.out 1
                                have hfz82_2 := blk_frozen BK279.out 2
                                have hfz82_3 := blk_frozen BK279.out 3
                                have p291 : 0 ≤ (x14_6 : Int) := of_decide_eq_true (by first | (with_reducible assumption) | assumption)
                                have q291 : x14_6 < (t282.length : Int) := of_decide_eq_true (by first | (with_reducible assumption) | assumption)
                                obtain ⟨ad291, e291, hx291_0⟩ := Kd.at_string (Kd.R_reads' HO_10.out).2.2 x14_6 p291 q291
                                cases e291
                                replace p291 := eq_true p291
                                replace q291 := eq_true q291
                                try go_wp2
                                have n0_ := Aside0.mk (Kd.R_drew HO_3.out)
                                have n1_ := Aside0.mk (Kd.R_drew HO_5.out)
                                have n2_ := Aside0.mk (Kd.R_drew HO_10.out)
                                have n3_ := Aside0.mk (blk_drew BK279.out)
                                have n4_ := Aside0.mk (below_drew1 HB.out)
                                clear HO_3
                                clear HO_5
                                clear HO_10
                                clear BK279
                                clear HB
                                have HO_3 := n0_
                                have HO_5 := n1_
                                have HO_10 := n2_
                                have BK279 := n3_
                                have HB := n4_
                                clear n0_ n1_ n2_ n3_ n4_
                                have p292 : 0 ≤ (x14_6 : Int) := of_decide_eq_true (by first | (with_reducible assumption) | assumption)
                                have q292 : x14_6 < (t282.length : Int) := of_decide_eq_true (by first | (with_reducible assumption) | assumption)
                                obtain ⟨ad292, e292, hx292_0⟩ := Kd.at_string (Kd.R_reads' HO_10.out).2.2 x14_6 p292 q292
                                obtain rfl : ad291 = ad292 := (by injection e292)
                                replace p292 := eq_true p292
                                replace q292 := eq_true q292
                                have p293 : 0 ≤ ((ji74) : Int) := of_decide_eq_true (by first | (with_reducible assumption) | assumption)
                                have q293 : (ji74) < (x3_6.length : Int) := of_decide_eq_true (by first | (with_reducible assumption) | assumption)
                                obtain ⟨ad293, e293, hx293_0⟩ := Kd.at_string (Kd.R_reads' HO_3.out).2.2 (ji74) p293 q293
                                cases e293
                                replace p293 := eq_true p293
                                replace q293 := eq_true q293
                                have p79 : 0 ≤ ((ji74) : Int) := of_decide_eq_true (by first | (with_reducible assumption) | assumption)
                                have q79 : ((ji74) : Int) < ((x3_6.length : Int) : Int) := of_decide_eq_true (by first | (with_reducible assumption) | assumption)
                                obtain ⟨go79, co79, eo79, gb79, gl79, cl79, HG79⟩ := Kd.R_form HO_3.out (by omega)
                                (first | cases eo79 | (injection eo79 with ea_ en_ ec_; (first | subst ea_ | (injection ea_ with ea_; subst ea_)); subst ec_; clear en_))
                                have GB79 := Aside0.mk gb79
                                have GG79 := Aside0.mk HG79
                                clear gb79 gl79 HG79
                                (first | simp only [add_plain] at hx293_0 | skip)
                                obtain ⟨hx79_0, hf79_0⟩ := Kd.R_celln (⟨#[]⟩ : ByteArray) HO_3.out ((ji74) : Int) p79 q79
                                replace p79 := eq_true p79
                                replace q79 := eq_true q79
                                have HP84 := Kd.R_putn HO_3.out ((ji74) : Int) (((rdOf ByteArray.empty t282 x14_6).extract 0 64) ++ ((rdOf ByteArray.empty x3_6 (ji74)).extract 64 (rdOf ByteArray.empty x3_6 (ji74)).size))
                                rw [← Ny294.out] at HP84
                                have HQ84 := Aside0.mk HP84
                                clear HP84
                                refine start_ (n := 21) (S := fun w' => w'.cell? (ad291.add (x14_6).toNat) = some (.string (rdOf ByteArray.empty t282 x14_6)) ∧ w'.cell? ⟨go79, ((ji74)).toNat, none⟩ = some (.string (rdOf ByteArray.empty x3_6 (ji74)))) (ds := [20]) #[false, false, false, false, false, false, false, false, false, false, false, false, false, false, false, false, false, false, false, false, false] (by kernel_rfl) rfl rfl ⟨hx292_0, hx293_0⟩ (fun hHeld => ?_); refine with_tabW quittancelaw04_SheafTorn.tab29 quittancelaw04_SheafTorn.bits29 (fun HT_ HW_ => ?_)
                                generalize wr.drew = w83 at HO_3 HO_5 HO_10 BK279 HB GG79 HQ84 hf79_0 hx292_0 hx293_0 hx79_0 hHeld ⊢
                                refine pure_ (i := 0) (N := some 124) (v := ?_) (a' := ?_) #[true, false, false, false, false, false, false, false, false, false, false, false, false, false, false, false, false, false, false, false, false] rfl rfl (any_of HT_.out (by kernel_rfl)) (fun _ _ _ h => h) (Or.inl ⟨by rfl, ?_⟩) ?_ ?_
                                rotate_left
                                ·
                                 intro w'
                                 go_simp
                                 with_reducible rfl
                                rotate_left
                                ·
                                 simp only [Act.put, List.setIfInBounds_toArray, List.set_cons_zero, List.set_cons_succ, i64_w, i32_w]
                                 rfl
                                refine pure_ (i := 1) (N := some 125) (v := ?_) (a' := ?_) #[true, true, false, false, false, false, false, false, false, false, false, false, false, false, false, false, false, false, false, false, false] rfl rfl (any_of HT_.out (by kernel_rfl)) (fun _ _ _ h => h) (Or.inl ⟨by rfl, ?_⟩) ?_ ?_
                                rotate_left
                                ·
                                 intro w'
                                 go_simp
                                 with_reducible rfl
                                rotate_left
                                ·
                                 simp only [Act.put, List.setIfInBounds_toArray, List.set_cons_zero, List.set_cons_succ, i64_w, i32_w]
                                 rfl
                                refine pure_ (i := 2) (N := some 126) (v := ?_) (a' := ?_) #[true, true, true, false, false, false, false, false, false, false, false, false, false, false, false, false, false, false, false, false, false] rfl rfl (any_of HT_.out (by kernel_rfl)) (fun _ _ _ h => h) (Or.inl ⟨by rfl, ?_⟩) ?_ ?_
                                rotate_left
                                ·
                                 intro w'
                                 go_simp
                                 with_reducible rfl
                                rotate_left
                                ·
                                 simp only [Act.put, List.setIfInBounds_toArray, List.set_cons_zero, List.set_cons_succ, i64_w, i32_w]
                                 rfl
                                refine pure_ (i := 3) (N := some 127) (v := ?_) (a' := ?_) #[true, true, true, true, false, false, false, false, false, false, false, false, false, false, false, false, false, false, false, false, false] rfl rfl (any_of HT_.out (by kernel_rfl)) (fun _ _ _ h => h) (Or.inl ⟨by rfl, ?_⟩) ?_ ?_
                                rotate_left
                                ·
                                 intro w'
                                 go_simp
                                 with_reducible rfl
                                rotate_left
                                ·
                                 simp only [Act.put, List.setIfInBounds_toArray, List.set_cons_zero, List.set_cons_succ, i64_w, i32_w]
                                 rfl
                                refine pure_ (i := 4) (N := some 128) (v := ?_) (a' := ?_) #[true, true, true, true, true, false, false, false, false, false, false, false, false, false, false, false, false, false, false, false, false] rfl rfl (any_of HT_.out (by kernel_rfl)) (fun _ _ _ h => h) (Or.inl ⟨by rfl, ?_⟩) ?_ ?_
                                rotate_left
                                ·
                                 intro w'
                                 go_simp
                                 with_reducible rfl
                                rotate_left
                                ·
                                 simp only [Act.put, List.setIfInBounds_toArray, List.set_cons_zero, List.set_cons_succ, i64_w, i32_w]
                                 rfl
                                refine pure_ (i := 5) (N := some 129) (v := ?_) (a' := ?_) #[true, true, true, true, true, true, false, false, false, false, false, false, false, false, false, false, false, false, false, false, false] rfl rfl (any_of HT_.out (by kernel_rfl)) (fun _ _ _ h => h) (Or.inl ⟨by rfl, ?_⟩) ?_ ?_
                                rotate_left
                                ·
                                 intro w'
                                 go_simp
                                 with_reducible rfl
                                rotate_left
                                ·
                                 simp only [Act.put, List.setIfInBounds_toArray, List.set_cons_zero, List.set_cons_succ, i64_w, i32_w]
                                 rfl
                                refine pure_ (i := 6) (N := some 130) (v := ?_) (a' := ?_) #[true, true, true, true, true, true, true, false, false, false, false, false, false, false, false, false, false, false, false, false, false] rfl rfl (any_of HT_.out (by kernel_rfl)) (fun _ _ _ h => h) (Or.inl ⟨by rfl, ?_⟩) ?_ ?_
                                rotate_left
                                ·
                                 intro w'
                                 go_simp
                                 with_reducible rfl
                                rotate_left
                                ·
                                 simp only [Act.put, List.setIfInBounds_toArray, List.set_cons_zero, List.set_cons_succ, i64_w, i32_w]
                                 rfl
                                refine pure_ (i := 8) (N := some 132) (v := ?_) (a' := ?_) #[true, true, true, true, true, true, true, false, true, false, false, false, false, false, false, false, false, false, false, false, false] rfl rfl (any_of HT_.out (by kernel_rfl)) (fun _ _ _ h => h) (Or.inl ⟨by rfl, ?_⟩) ?_ ?_
                                rotate_left
                                ·
                                 intro w'
                                 go_simp
                                 with_reducible rfl
                                rotate_left
                                ·
                                 simp only [Act.put, List.setIfInBounds_toArray, List.set_cons_zero, List.set_cons_succ, i64_w, i32_w]
                                 rfl
                                refine pure_ (i := 10) (N := some 134) (v := ?_) (a' := ?_) #[true, true, true, true, true, true, true, false, true, false, true, false, false, false, false, false, false, false, false, false, false] rfl rfl (any_of HT_.out (by kernel_rfl)) (fun _ _ _ h => h) (Or.inl ⟨by rfl, ?_⟩) ?_ ?_
                                rotate_left
                                ·
                                 intro w'
                                 go_simp
                                 with_reducible rfl
                                rotate_left
                                ·
                                 simp only [Act.put, List.setIfInBounds_toArray, List.set_cons_zero, List.set_cons_succ, i64_w, i32_w]
                                 rfl
                                refine pure_ (i := 11) (N := some 135) (v := ?_) (a' := ?_) #[true, true, true, true, true, true, true, false, true, false, true, true, false, false, false, false, false, false, false, false, false] rfl rfl (any_of HT_.out (by kernel_rfl)) (fun _ _ _ h => h) (Or.inl ⟨by rfl, ?_⟩) ?_ ?_
                                rotate_left
                                ·
                                 intro w'
                                 go_simp
                                 with_reducible rfl
                                rotate_left
                                ·
                                 simp only [Act.put, List.setIfInBounds_toArray, List.set_cons_zero, List.set_cons_succ, i64_w, i32_w]
                                 rfl
                                refine pure_ (i := 12) (N := some 136) (v := ?_) (a' := ?_) #[true, true, true, true, true, true, true, false, true, false, true, true, true, false, false, false, false, false, false, false, false] rfl rfl (any_of HT_.out (by kernel_rfl)) (fun _ _ _ h => h) (Or.inl ⟨by rfl, ?_⟩) ?_ ?_
                                rotate_left
                                ·
                                 intro w'
                                 go_simp
                                 with_reducible rfl
                                rotate_left
                                ·
                                 simp only [Act.put, List.setIfInBounds_toArray, List.set_cons_zero, List.set_cons_succ, i64_w, i32_w]
                                 rfl
                                refine pure_ (i := 13) (N := some 137) (v := ?_) (a' := ?_) #[true, true, true, true, true, true, true, false, true, false, true, true, true, true, false, false, false, false, false, false, false] rfl rfl (any_of HT_.out (by kernel_rfl)) (fun _ _ _ h => h) (Or.inl ⟨by rfl, ?_⟩) ?_ ?_
                                rotate_left
                                ·
                                 intro w'
                                 go_simp
                                 with_reducible rfl
                                rotate_left
                                ·
                                 simp only [Act.put, List.setIfInBounds_toArray, List.set_cons_zero, List.set_cons_succ, i64_w, i32_w]
                                 rfl
                                refine pure_ (i := 14) (N := some 138) (v := ?_) (a' := ?_) #[true, true, true, true, true, true, true, false, true, false, true, true, true, true, true, false, false, false, false, false, false] rfl rfl (any_of HT_.out (by kernel_rfl)) (fun _ _ _ h => h) (Or.inl ⟨by rfl, ?_⟩) ?_ ?_
                                rotate_left
                                ·
                                 intro w'
                                 go_simp
                                 with_reducible rfl
                                rotate_left
                                ·
                                 simp only [Act.put, List.setIfInBounds_toArray, List.set_cons_zero, List.set_cons_succ, i64_w, i32_w]
                                 rfl
                                refine pure_ (i := 16) (N := some 140) (v := ?_) (a' := ?_) #[true, true, true, true, true, true, true, false, true, false, true, true, true, true, true, false, true, false, false, false, false] rfl rfl (any_of HT_.out (by kernel_rfl)) (fun _ _ _ h => h) (Or.inl ⟨by rfl, ?_⟩) ?_ ?_
                                rotate_left
                                ·
                                 intro w'
                                 go_simp
                                 with_reducible rfl
                                rotate_left
                                ·
                                 simp only [Act.put, List.setIfInBounds_toArray, List.set_cons_zero, List.set_cons_succ, i64_w, i32_w]
                                 rfl
                                refine take_ (i := 7) (N := some 131) (v := ?_) (a' := ?_) #[true, true, true, true, true, true, true, true, true, false, true, true, true, true, true, false, true, false, false, false, false] rfl rfl (take_ofW HT_.out HW_.out (by kernel_rfl)) (fun _ _ _ h => h) (Or.inl ⟨by rfl, ?_⟩) hHeld ?_ ?_
                                rotate_left
                                ·
                                 rintro w' ⟨s0, s1⟩
                                 go_simp
                                 with_reducible rfl
                                rotate_left
                                ·
                                 simp only [Act.put, List.setIfInBounds_toArray, List.set_cons_zero, List.set_cons_succ, i64_w, i32_w]
                                 rfl
                                refine pure_ (i := 9) (N := some 133) (v := ?_) (a' := ?_) #[true, true, true, true, true, true, true, true, true, true, true, true, true, true, true, false, true, false, false, false, false] rfl rfl (any_of HT_.out (by kernel_rfl)) (fun _ _ _ h => h) (Or.inl ⟨by rfl, ?_⟩) ?_ ?_
                                rotate_left
                                ·
                                 intro w'
                                 go_simp
                                 with_reducible rfl
                                rotate_left
                                ·
                                 simp only [Act.put, List.setIfInBounds_toArray, List.set_cons_zero, List.set_cons_succ, i64_w, i32_w]
                                 rfl
                                refine take_ (i := 15) (N := some 139) (v := ?_) (a' := ?_) #[true, true, true, true, true, true, true, true, true, true, true, true, true, true, true, true, true, false, false, false, false] rfl rfl (take_ofW HT_.out HW_.out (by kernel_rfl)) (fun _ _ _ h => h) (Or.inl ⟨by rfl, ?_⟩) hHeld ?_ ?_
                                rotate_left
                                ·
                                 rintro w' ⟨s0, s1⟩
                                 go_simp
                                 with_reducible rfl
                                rotate_left
                                ·
                                 simp only [Act.put, List.setIfInBounds_toArray, List.set_cons_zero, List.set_cons_succ, i64_w, i32_w]
                                 rfl
                                refine pure_ (i := 17) (N := some 141) (v := ?_) (a' := ?_) #[true, true, true, true, true, true, true, true, true, true, true, true, true, true, true, true, true, true, false, false, false] rfl rfl (any_of HT_.out (by kernel_rfl)) (fun _ _ _ h => h) (Or.inl ⟨by rfl, ?_⟩) ?_ ?_
                                rotate_left
                                ·
                                 intro w'
                                 go_simp
                                 with_reducible rfl
                                rotate_left
                                ·
                                 simp only [Act.put, List.setIfInBounds_toArray, List.set_cons_zero, List.set_cons_succ, i64_w, i32_w]
                                 rfl
                                refine pure_ (i := 18) (N := some 142) (v := ?_) (a' := ?_) #[true, true, true, true, true, true, true, true, true, true, true, true, true, true, true, true, true, true, true, false, false] rfl rfl (any_of HT_.out (by kernel_rfl)) (fun _ _ _ h => h) (Or.inl ⟨by rfl, ?_⟩) ?_ ?_
                                rotate_left
                                ·
                                 intro w'
                                 go_simp
                                 with_reducible rfl
                                rotate_left
                                ·
                                 simp only [Act.put, List.setIfInBounds_toArray, List.set_cons_zero, List.set_cons_succ, i64_w, i32_w]
                                 rfl
                                refine pure_ (i := 19) (N := some 143) (v := ?_) (a' := ?_) #[true, true, true, true, true, true, true, true, true, true, true, true, true, true, true, true, true, true, true, true, false] rfl rfl (any_of HT_.out (by kernel_rfl)) (fun _ _ _ h => h) (Or.inl ⟨by rfl, ?_⟩) ?_ ?_
                                rotate_left
                                ·
                                 intro w'
                                 go_simp
                                 with_reducible rfl
                                rotate_left
                                ·
                                 simp only [Act.put, List.setIfInBounds_toArray, List.set_cons_zero, List.set_cons_succ, i64_w, i32_w]
                                 rfl
                                refine last_ (i := 20) (N := none) #[true, true, true, true, true, true, true, true, true, true, true, true, true, true, true, true, true, true, true, true, true] rfl rfl (one_of HT_.out (by kernel_rfl)) (by decide) (fun K hK => ?_)
                                refine skip_ (w1 := ?_) (by rfl) rfl ?_ ?_
                                rotate_left
                                ·
                                 go_simp
                                 rfl
                                refine hK.out _ _ ?_
                                clear hK K
                                refine done_ (done_of HT_.out (by kernel_rfl)) ?_
                                try go_wp2
                                (try simp only [← hl3_6])
                                go_roundg k6
                                case measure => have := HK1.out; have := HK2.out; have := HJ15.out; have := HJ21.out; have := HJ32.out; have := HK6.out; omega
                                case rel => exact ⟨(y294), ((64 == 64)), (wrap64 (x14_6 + 1)), (by first | rfl | (simp; done) | (simp [*]; done)), (by first | rfl | (simp; done) | (simp [*]; done)), H', ⟨by have := HK1.out; have := HK2.out; have := HJ15.out; have := HJ21.out; have := HJ32.out; have := HK6.out; omega⟩, ⟨by (try simp only [hl3_2]); (try simp only [hl3_6]); (with_reducible repeat (first | apply Kd.R_alloc | apply Kd.R_drewN | apply Kd.R_drew)); exact HQ84.out⟩, ⟨by (try simp only [hl3_2]); (try simp only [hl3_6]); (with_reducible repeat (first | apply Kd.R_alloc | apply Kd.R_drewN | apply Kd.R_drew)); exact Kd.R_mono (Kd.R_far (p := ⟨go79, ((ji74) : Int).toNat, none⟩) (Kd.R_types HO_5.out GG79.out (by decide)) (fun _ hk => hk.2) (.string (((rdOf ByteArray.empty t282 x14_6).extract 0 64) ++ ((rdOf ByteArray.empty x3_6 (ji74)).extract 64 (rdOf ByteArray.empty x3_6 (ji74)).size)))) (fun _ hk => trivial)⟩, ⟨by (try simp only [hl3_2]); (try simp only [hl3_6]); (with_reducible repeat (first | apply Kd.R_alloc | apply Kd.R_drewN | apply Kd.R_drew)); exact Kd.R_mono (Kd.R_far (p := ⟨go79, ((ji74) : Int).toNat, none⟩) (Kd.R_mono HO_10.out (fun k_ hk => (⟨hk, fun e_ => hk (by rw [e_]; rfl)⟩ : _ ∧ k_ ≠ go79))) (fun _ hk => hk.2) (.string (((rdOf ByteArray.empty t282 x14_6).extract 0 64) ++ ((rdOf ByteArray.empty x3_6 (ji74)).extract 64 (rdOf ByteArray.empty x3_6 (ji74)).size)))) (fun _ hk => hk.1)⟩, ⟨by (try simp only [hl3_2]); (try simp only [hl3_6]); (with_reducible repeat (first | refine blk_drewN ?_ _ | refine blk_drew ?_ | refine blk_alloc ?_ _)); refine blk_far ?_ (by have h_ := Kd.R_ne HO_3.out BK279.out (by decide); intro e_; exact h_ (by rw [e_]; rfl)) _; (with_reducible repeat (first | refine blk_drewN ?_ _ | refine blk_drew ?_ | refine blk_alloc ?_ _)); exact BK279.out⟩, ⟨by repeat (first | (with_reducible first | exact HB.out | apply below_alloc | apply pw_below_drewN | apply below_drew1 | refine below_set ?_ GB79.out | refine below_set ?_ GE279.out) | exact HB.out)⟩⟩
                               ·
                                replace c80 := Bool.eq_false_iff.mpr c80
                                subst c80
                                have H1 : (quittancelaw04_SheafTorn.l2 k6 l0 y294 x5_2 x6_2 (IntKind.u64.wrap ((IntKind.u64.wrap (t280 + 1)) + (IntKind.u64.wrap (((rd_T44 l0 x6_2).f1))))) t282 jm false (wrap64 (x14_6 + 1)) ((rd_T44 l0 x6_2).f0) ((rd_T44 l0 x6_2).f1) ((rd_T44 l0 x6_2).f2) ((rd_T44 l0 x6_2).f3)) = some r := by rw [if_neg (show ¬ (false = true) by decide)] at H; exact H
                                clear H
                                have H := H1
                                clear H1
                                have H' := Aside0.mk H
                                clear H
                                obtain ⟨Ao85, co85, eo85⟩ := Kd.R_slice HO_10.out
                                subst eo85
                                have hcz86_0 : wr.cell? ⟨gb279, 0, none⟩ = some (.int .u8 ((rd_T44 l0 x6_2).f0)) := (blk_cell BK279.out 0).trans rfl
                                have hcz86_1 : wr.cell? ⟨gb279, 1, none⟩ = some (.int .u16 ((rd_T44 l0 x6_2).f1)) := (blk_cell BK279.out 1).trans rfl
                                have hcz86_2 : wr.cell? ⟨gb279, 2, none⟩ = some (.string ((rd_T44 l0 x6_2).f2)) := (blk_cell BK279.out 2).trans rfl
                                have hcz86_3 : wr.cell? ⟨gb279, 3, none⟩ = some (.slice A278_3 ((rd_T44 l0 x6_2).f3).length c278_3) := (blk_cell BK279.out 3).trans rfl
                                have hfz86_0 := blk_frozen BK279.out 0
                                have hfz86_1 := blk_frozen BK279.out 1
                                have hfz86_2 := blk_frozen BK279.out 2
                                have hfz86_3 := blk_frozen BK279.out 3
                                have p291 : 0 ≤ (x14_6 : Int) := of_decide_eq_true (by first | (with_reducible assumption) | assumption)
                                have q291 : x14_6 < (t282.length : Int) := of_decide_eq_true (by first | (with_reducible assumption) | assumption)
                                obtain ⟨ad291, e291, hx291_0⟩ := Kd.at_string (Kd.R_reads' HO_10.out).2.2 x14_6 p291 q291
                                cases e291
                                replace p291 := eq_true p291
                                replace q291 := eq_true q291
                                try go_wp2
                                have n0_ := Aside0.mk (Kd.R_drew HO_3.out)
                                have n1_ := Aside0.mk (Kd.R_drew HO_5.out)
                                have n2_ := Aside0.mk (Kd.R_drew HO_10.out)
                                have n3_ := Aside0.mk (blk_drew BK279.out)
                                have n4_ := Aside0.mk (below_drew1 HB.out)
                                clear HO_3
                                clear HO_5
                                clear HO_10
                                clear BK279
                                clear HB
                                have HO_3 := n0_
                                have HO_5 := n1_
                                have HO_10 := n2_
                                have BK279 := n3_
                                have HB := n4_
                                clear n0_ n1_ n2_ n3_ n4_
                                have p292 : 0 ≤ (x14_6 : Int) := of_decide_eq_true (by first | (with_reducible assumption) | assumption)
                                have q292 : x14_6 < (t282.length : Int) := of_decide_eq_true (by first | (with_reducible assumption) | assumption)
                                obtain ⟨ad292, e292, hx292_0⟩ := Kd.at_string (Kd.R_reads' HO_10.out).2.2 x14_6 p292 q292
                                obtain rfl : ad291 = ad292 := (by injection e292)
                                replace p292 := eq_true p292
                                replace q292 := eq_true q292
                                have p293 : 0 ≤ ((ji74) : Int) := of_decide_eq_true (by first | (with_reducible assumption) | assumption)
                                have q293 : (ji74) < (x3_6.length : Int) := of_decide_eq_true (by first | (with_reducible assumption) | assumption)
                                obtain ⟨ad293, e293, hx293_0⟩ := Kd.at_string (Kd.R_reads' HO_3.out).2.2 (ji74) p293 q293
                                cases e293
                                replace p293 := eq_true p293
                                replace q293 := eq_true q293
                                have p79 : 0 ≤ ((ji74) : Int) := of_decide_eq_true (by first | (with_reducible assumption) | assumption)
                                have q79 : ((ji74) : Int) < ((x3_6.length : Int) : Int) := of_decide_eq_true (by first | (with_reducible assumption) | assumption)
                                obtain ⟨go79, co79, eo79, gb79, gl79, cl79, HG79⟩ := Kd.R_form HO_3.out (by omega)
                                (first | cases eo79 | (injection eo79 with ea_ en_ ec_; (first | subst ea_ | (injection ea_ with ea_; subst ea_)); subst ec_; clear en_))
                                have GB79 := Aside0.mk gb79
                                have GG79 := Aside0.mk HG79
                                clear gb79 gl79 HG79
                                (first | simp only [add_plain] at hx293_0 | skip)
                                obtain ⟨hx79_0, hf79_0⟩ := Kd.R_celln (⟨#[]⟩ : ByteArray) HO_3.out ((ji74) : Int) p79 q79
                                replace p79 := eq_true p79
                                replace q79 := eq_true q79
                                have HP88 := Kd.R_putn HO_3.out ((ji74) : Int) (((rdOf ByteArray.empty t282 x14_6).extract 0 64) ++ ((rdOf ByteArray.empty x3_6 (ji74)).extract 64 (rdOf ByteArray.empty x3_6 (ji74)).size))
                                rw [← Ny294.out] at HP88
                                have HQ88 := Aside0.mk HP88
                                clear HP88
                                refine start_ (n := 21) (S := fun w' => w'.cell? (ad291.add (x14_6).toNat) = some (.string (rdOf ByteArray.empty t282 x14_6)) ∧ w'.cell? ⟨go79, ((ji74)).toNat, none⟩ = some (.string (rdOf ByteArray.empty x3_6 (ji74)))) (ds := [20]) #[false, false, false, false, false, false, false, false, false, false, false, false, false, false, false, false, false, false, false, false, false] (by kernel_rfl) rfl rfl ⟨hx292_0, hx293_0⟩ (fun hHeld => ?_); refine with_tabW quittancelaw04_SheafTorn.tab29 quittancelaw04_SheafTorn.bits29 (fun HT_ HW_ => ?_)
                                generalize wr.drew = w87 at HO_3 HO_5 HO_10 BK279 HB GG79 HQ88 hf79_0 hx292_0 hx293_0 hx79_0 hHeld ⊢
                                refine pure_ (i := 0) (N := some 124) (v := ?_) (a' := ?_) #[true, false, false, false, false, false, false, false, false, false, false, false, false, false, false, false, false, false, false, false, false] rfl rfl (any_of HT_.out (by kernel_rfl)) (fun _ _ _ h => h) (Or.inl ⟨by rfl, ?_⟩) ?_ ?_
                                rotate_left
                                ·
                                 intro w'
                                 go_simp
                                 with_reducible rfl
                                rotate_left
                                ·
                                 simp only [Act.put, List.setIfInBounds_toArray, List.set_cons_zero, List.set_cons_succ, i64_w, i32_w]
                                 rfl
                                refine pure_ (i := 1) (N := some 125) (v := ?_) (a' := ?_) #[true, true, false, false, false, false, false, false, false, false, false, false, false, false, false, false, false, false, false, false, false] rfl rfl (any_of HT_.out (by kernel_rfl)) (fun _ _ _ h => h) (Or.inl ⟨by rfl, ?_⟩) ?_ ?_
                                rotate_left
                                ·
                                 intro w'
                                 go_simp
                                 with_reducible rfl
                                rotate_left
                                ·
                                 simp only [Act.put, List.setIfInBounds_toArray, List.set_cons_zero, List.set_cons_succ, i64_w, i32_w]
                                 rfl
                                refine pure_ (i := 2) (N := some 126) (v := ?_) (a' := ?_) #[true, true, true, false, false, false, false, false, false, false, false, false, false, false, false, false, false, false, false, false, false] rfl rfl (any_of HT_.out (by kernel_rfl)) (fun _ _ _ h => h) (Or.inl ⟨by rfl, ?_⟩) ?_ ?_
                                rotate_left
                                ·
                                 intro w'
                                 go_simp
                                 with_reducible rfl
                                rotate_left
                                ·
                                 simp only [Act.put, List.setIfInBounds_toArray, List.set_cons_zero, List.set_cons_succ, i64_w, i32_w]
                                 rfl
                                refine pure_ (i := 3) (N := some 127) (v := ?_) (a' := ?_) #[true, true, true, true, false, false, false, false, false, false, false, false, false, false, false, false, false, false, false, false, false] rfl rfl (any_of HT_.out (by kernel_rfl)) (fun _ _ _ h => h) (Or.inl ⟨by rfl, ?_⟩) ?_ ?_
                                rotate_left
                                ·
                                 intro w'
                                 go_simp
                                 with_reducible rfl
                                rotate_left
                                ·
                                 simp only [Act.put, List.setIfInBounds_toArray, List.set_cons_zero, List.set_cons_succ, i64_w, i32_w]
                                 rfl
                                refine pure_ (i := 4) (N := some 128) (v := ?_) (a' := ?_) #[true, true, true, true, true, false, false, false, false, false, false, false, false, false, false, false, false, false, false, false, false] rfl rfl (any_of HT_.out (by kernel_rfl)) (fun _ _ _ h => h) (Or.inl ⟨by rfl, ?_⟩) ?_ ?_
                                rotate_left
                                ·
                                 intro w'
                                 go_simp
                                 with_reducible rfl
                                rotate_left
                                ·
                                 simp only [Act.put, List.setIfInBounds_toArray, List.set_cons_zero, List.set_cons_succ, i64_w, i32_w]
                                 rfl
                                refine pure_ (i := 5) (N := some 129) (v := ?_) (a' := ?_) #[true, true, true, true, true, true, false, false, false, false, false, false, false, false, false, false, false, false, false, false, false] rfl rfl (any_of HT_.out (by kernel_rfl)) (fun _ _ _ h => h) (Or.inl ⟨by rfl, ?_⟩) ?_ ?_
                                rotate_left
                                ·
                                 intro w'
                                 go_simp
                                 with_reducible rfl
                                rotate_left
                                ·
                                 simp only [Act.put, List.setIfInBounds_toArray, List.set_cons_zero, List.set_cons_succ, i64_w, i32_w]
                                 rfl
                                refine pure_ (i := 6) (N := some 130) (v := ?_) (a' := ?_) #[true, true, true, true, true, true, true, false, false, false, false, false, false, false, false, false, false, false, false, false, false] rfl rfl (any_of HT_.out (by kernel_rfl)) (fun _ _ _ h => h) (Or.inl ⟨by rfl, ?_⟩) ?_ ?_
                                rotate_left
                                ·
                                 intro w'
                                 go_simp
                                 with_reducible rfl
                                rotate_left
                                ·
                                 simp only [Act.put, List.setIfInBounds_toArray, List.set_cons_zero, List.set_cons_succ, i64_w, i32_w]
                                 rfl
                                refine pure_ (i := 8) (N := some 132) (v := ?_) (a' := ?_) #[true, true, true, true, true, true, true, false, true, false, false, false, false, false, false, false, false, false, false, false, false] rfl rfl (any_of HT_.out (by kernel_rfl)) (fun _ _ _ h => h) (Or.inl ⟨by rfl, ?_⟩) ?_ ?_
                                rotate_left
                                ·
                                 intro w'
                                 go_simp
                                 with_reducible rfl
                                rotate_left
                                ·
                                 simp only [Act.put, List.setIfInBounds_toArray, List.set_cons_zero, List.set_cons_succ, i64_w, i32_w]
                                 rfl
                                refine pure_ (i := 10) (N := some 134) (v := ?_) (a' := ?_) #[true, true, true, true, true, true, true, false, true, false, true, false, false, false, false, false, false, false, false, false, false] rfl rfl (any_of HT_.out (by kernel_rfl)) (fun _ _ _ h => h) (Or.inl ⟨by rfl, ?_⟩) ?_ ?_
                                rotate_left
                                ·
                                 intro w'
                                 go_simp
                                 with_reducible rfl
                                rotate_left
                                ·
                                 simp only [Act.put, List.setIfInBounds_toArray, List.set_cons_zero, List.set_cons_succ, i64_w, i32_w]
                                 rfl
                                refine pure_ (i := 11) (N := some 135) (v := ?_) (a' := ?_) #[true, true, true, true, true, true, true, false, true, false, true, true, false, false, false, false, false, false, false, false, false] rfl rfl (any_of HT_.out (by kernel_rfl)) (fun _ _ _ h => h) (Or.inl ⟨by rfl, ?_⟩) ?_ ?_
                                rotate_left
                                ·
                                 intro w'
                                 go_simp
                                 with_reducible rfl
                                rotate_left
                                ·
                                 simp only [Act.put, List.setIfInBounds_toArray, List.set_cons_zero, List.set_cons_succ, i64_w, i32_w]
                                 rfl
                                refine pure_ (i := 12) (N := some 136) (v := ?_) (a' := ?_) #[true, true, true, true, true, true, true, false, true, false, true, true, true, false, false, false, false, false, false, false, false] rfl rfl (any_of HT_.out (by kernel_rfl)) (fun _ _ _ h => h) (Or.inl ⟨by rfl, ?_⟩) ?_ ?_
                                rotate_left
                                ·
                                 intro w'
                                 go_simp
                                 with_reducible rfl
                                rotate_left
                                ·
                                 simp only [Act.put, List.setIfInBounds_toArray, List.set_cons_zero, List.set_cons_succ, i64_w, i32_w]
                                 rfl
                                refine pure_ (i := 13) (N := some 137) (v := ?_) (a' := ?_) #[true, true, true, true, true, true, true, false, true, false, true, true, true, true, false, false, false, false, false, false, false] rfl rfl (any_of HT_.out (by kernel_rfl)) (fun _ _ _ h => h) (Or.inl ⟨by rfl, ?_⟩) ?_ ?_
                                rotate_left
                                ·
                                 intro w'
                                 go_simp
                                 with_reducible rfl
                                rotate_left
                                ·
                                 simp only [Act.put, List.setIfInBounds_toArray, List.set_cons_zero, List.set_cons_succ, i64_w, i32_w]
                                 rfl
                                refine pure_ (i := 14) (N := some 138) (v := ?_) (a' := ?_) #[true, true, true, true, true, true, true, false, true, false, true, true, true, true, true, false, false, false, false, false, false] rfl rfl (any_of HT_.out (by kernel_rfl)) (fun _ _ _ h => h) (Or.inl ⟨by rfl, ?_⟩) ?_ ?_
                                rotate_left
                                ·
                                 intro w'
                                 go_simp
                                 with_reducible rfl
                                rotate_left
                                ·
                                 simp only [Act.put, List.setIfInBounds_toArray, List.set_cons_zero, List.set_cons_succ, i64_w, i32_w]
                                 rfl
                                refine pure_ (i := 16) (N := some 140) (v := ?_) (a' := ?_) #[true, true, true, true, true, true, true, false, true, false, true, true, true, true, true, false, true, false, false, false, false] rfl rfl (any_of HT_.out (by kernel_rfl)) (fun _ _ _ h => h) (Or.inl ⟨by rfl, ?_⟩) ?_ ?_
                                rotate_left
                                ·
                                 intro w'
                                 go_simp
                                 with_reducible rfl
                                rotate_left
                                ·
                                 simp only [Act.put, List.setIfInBounds_toArray, List.set_cons_zero, List.set_cons_succ, i64_w, i32_w]
                                 rfl
                                refine take_ (i := 7) (N := some 131) (v := ?_) (a' := ?_) #[true, true, true, true, true, true, true, true, true, false, true, true, true, true, true, false, true, false, false, false, false] rfl rfl (take_ofW HT_.out HW_.out (by kernel_rfl)) (fun _ _ _ h => h) (Or.inl ⟨by rfl, ?_⟩) hHeld ?_ ?_
                                rotate_left
                                ·
                                 rintro w' ⟨s0, s1⟩
                                 go_simp
                                 with_reducible rfl
                                rotate_left
                                ·
                                 simp only [Act.put, List.setIfInBounds_toArray, List.set_cons_zero, List.set_cons_succ, i64_w, i32_w]
                                 rfl
                                refine pure_ (i := 9) (N := some 133) (v := ?_) (a' := ?_) #[true, true, true, true, true, true, true, true, true, true, true, true, true, true, true, false, true, false, false, false, false] rfl rfl (any_of HT_.out (by kernel_rfl)) (fun _ _ _ h => h) (Or.inl ⟨by rfl, ?_⟩) ?_ ?_
                                rotate_left
                                ·
                                 intro w'
                                 go_simp
                                 with_reducible rfl
                                rotate_left
                                ·
                                 simp only [Act.put, List.setIfInBounds_toArray, List.set_cons_zero, List.set_cons_succ, i64_w, i32_w]
                                 rfl
                                refine take_ (i := 15) (N := some 139) (v := ?_) (a' := ?_) #[true, true, true, true, true, true, true, true, true, true, true, true, true, true, true, true, true, false, false, false, false] rfl rfl (take_ofW HT_.out HW_.out (by kernel_rfl)) (fun _ _ _ h => h) (Or.inl ⟨by rfl, ?_⟩) hHeld ?_ ?_
                                rotate_left
                                ·
                                 rintro w' ⟨s0, s1⟩
                                 go_simp
                                 with_reducible rfl
                                rotate_left
                                ·
                                 simp only [Act.put, List.setIfInBounds_toArray, List.set_cons_zero, List.set_cons_succ, i64_w, i32_w]
                                 rfl
                                refine pure_ (i := 17) (N := some 141) (v := ?_) (a' := ?_) #[true, true, true, true, true, true, true, true, true, true, true, true, true, true, true, true, true, true, false, false, false] rfl rfl (any_of HT_.out (by kernel_rfl)) (fun _ _ _ h => h) (Or.inl ⟨by rfl, ?_⟩) ?_ ?_
                                rotate_left
                                ·
                                 intro w'
                                 go_simp
                                 with_reducible rfl
                                rotate_left
                                ·
                                 simp only [Act.put, List.setIfInBounds_toArray, List.set_cons_zero, List.set_cons_succ, i64_w, i32_w]
                                 rfl
                                refine pure_ (i := 18) (N := some 142) (v := ?_) (a' := ?_) #[true, true, true, true, true, true, true, true, true, true, true, true, true, true, true, true, true, true, true, false, false] rfl rfl (any_of HT_.out (by kernel_rfl)) (fun _ _ _ h => h) (Or.inl ⟨by rfl, ?_⟩) ?_ ?_
                                rotate_left
                                ·
                                 intro w'
                                 go_simp
                                 with_reducible rfl
                                rotate_left
                                ·
                                 simp only [Act.put, List.setIfInBounds_toArray, List.set_cons_zero, List.set_cons_succ, i64_w, i32_w]
                                 rfl
                                refine pure_ (i := 19) (N := some 143) (v := ?_) (a' := ?_) #[true, true, true, true, true, true, true, true, true, true, true, true, true, true, true, true, true, true, true, true, false] rfl rfl (any_of HT_.out (by kernel_rfl)) (fun _ _ _ h => h) (Or.inl ⟨by rfl, ?_⟩) ?_ ?_
                                rotate_left
                                ·
                                 intro w'
                                 go_simp
                                 with_reducible rfl
                                rotate_left
                                ·
                                 simp only [Act.put, List.setIfInBounds_toArray, List.set_cons_zero, List.set_cons_succ, i64_w, i32_w]
                                 rfl
                                refine last_ (i := 20) (N := none) #[true, true, true, true, true, true, true, true, true, true, true, true, true, true, true, true, true, true, true, true, true] rfl rfl (one_of HT_.out (by kernel_rfl)) (by decide) (fun K hK => ?_)
                                refine skip_ (w1 := ?_) (by rfl) rfl ?_ ?_
                                rotate_left
                                ·
                                 go_simp
                                 rfl
                                refine hK.out _ _ ?_
                                clear hK K
                                refine done_ (done_of HT_.out (by kernel_rfl)) ?_
                                try go_wp2
                                (try simp only [← hl3_6])
                                go_roundg k6
                                case measure => have := HK1.out; have := HK2.out; have := HJ15.out; have := HJ21.out; have := HJ32.out; have := HK6.out; omega
                                case rel => exact ⟨(y294), (false), (wrap64 (x14_6 + 1)), (by first | rfl | (simp; done) | (simp [*]; done)), (by first | rfl | (simp; done) | (simp [*]; done)), H', ⟨by have := HK1.out; have := HK2.out; have := HJ15.out; have := HJ21.out; have := HJ32.out; have := HK6.out; omega⟩, ⟨by (try simp only [hl3_2]); (try simp only [hl3_6]); (with_reducible repeat (first | apply Kd.R_alloc | apply Kd.R_drewN | apply Kd.R_drew)); exact HQ88.out⟩, ⟨by (try simp only [hl3_2]); (try simp only [hl3_6]); (with_reducible repeat (first | apply Kd.R_alloc | apply Kd.R_drewN | apply Kd.R_drew)); exact Kd.R_mono (Kd.R_far (p := ⟨go79, ((ji74) : Int).toNat, none⟩) (Kd.R_types HO_5.out GG79.out (by decide)) (fun _ hk => hk.2) (.string (((rdOf ByteArray.empty t282 x14_6).extract 0 64) ++ ((rdOf ByteArray.empty x3_6 (ji74)).extract 64 (rdOf ByteArray.empty x3_6 (ji74)).size)))) (fun _ hk => trivial)⟩, ⟨by (try simp only [hl3_2]); (try simp only [hl3_6]); (with_reducible repeat (first | apply Kd.R_alloc | apply Kd.R_drewN | apply Kd.R_drew)); exact Kd.R_mono (Kd.R_far (p := ⟨go79, ((ji74) : Int).toNat, none⟩) (Kd.R_mono HO_10.out (fun k_ hk => (⟨hk, fun e_ => hk (by rw [e_]; rfl)⟩ : _ ∧ k_ ≠ go79))) (fun _ hk => hk.2) (.string (((rdOf ByteArray.empty t282 x14_6).extract 0 64) ++ ((rdOf ByteArray.empty x3_6 (ji74)).extract 64 (rdOf ByteArray.empty x3_6 (ji74)).size)))) (fun _ hk => hk.1)⟩, ⟨by (try simp only [hl3_2]); (try simp only [hl3_6]); (with_reducible repeat (first | refine blk_drewN ?_ _ | refine blk_drew ?_ | refine blk_alloc ?_ _)); refine blk_far ?_ (by have h_ := Kd.R_ne HO_3.out BK279.out (by decide); intro e_; exact h_ (by rw [e_]; rfl)) _; (with_reducible repeat (first | refine blk_drewN ?_ _ | refine blk_drew ?_ | refine blk_alloc ?_ _)); exact BK279.out⟩, ⟨by repeat (first | (with_reducible first | exact HB.out | apply below_alloc | apply pw_below_drewN | apply below_drew1 | refine below_set ?_ GB79.out | refine below_set ?_ GE279.out) | exact HB.out)⟩⟩
                              ·
                               rw [if_neg c78] at H
                               exact absurd H (by simp)
                             ·
                              rw [if_neg c77] at H
                              exact absurd H (by simp)
                            ·
                             rw [if_neg c76] at H
                             exact absurd H (by simp)
                           ·
                            rw [if_neg c75] at H
                            exact absurd H (by simp)
                          ·
                           rw [if_neg c73] at H
                           exact absurd H (by simp)
                         ·
                          rw [if_neg c72] at H
                          exact absurd H (by simp)
                        ·
                         rw [if_neg c71] at H
                         have c71b0 : (((rdOf ByteArray.empty t282 x14_6).size : Int) == 64) = false := beq_eq_false_iff_ne.mpr c71
                         have c71b1 : (((rdOf ByteArray.empty t282 x14_6).size : Int) != 64) = true := bne_iff_ne.mpr c71
                         exact absurd ((Option.some.inj H).trans hr) (by decide)
                       ·
                        rw [if_neg c70] at H
                        exact absurd H (by simp)
                     ·
                      rw [if_neg c41] at H
                      have c41b0 : decide (x14_6 < (t282.length : Int)) = false := decide_eq_false c41
                      clear c41
                      by_cases c91 : x5_2.length < 3518437208883
                      ·
                       rw [if_pos c91] at H
                       have LMc91 := Aside0.mk c91
                       clear c91
                       obtain ⟨y295, hy295⟩ : ∃ y_ : List (S46), y_ = (x5_2 ++ [(⟨jm, (t282.length : Int), (IntKind.u64.wrap ((IntKind.u64.wrap (t280 + 1)) + (IntKind.u64.wrap (((rd_T44 l0 x6_2).f1))))), ((rd_T44 l0 x6_2).f2)⟩ : S46)]) := ⟨_, rfl⟩
                       replace H : (if 0 ≤ jm then (if jm ≤ (x3_6.length : Int) then ((sheaf_Get.f (x3_6.drop (jm : Int).toNat)).bind fun bt302 => (if x13_6 = true then (if bt302.2.2.2 = true then (if bt302.1 = (IntKind.u64.wrap ((IntKind.u64.wrap (t280 + 1)) + (IntKind.u64.wrap (((rd_T44 l0 x6_2).f1))))) then (if bt302.2.1.toList = ((rd_T44 l0 x6_2).f2).toList then (quittancelaw04_SheafTorn.j6 k6 l0 x3_6 y295 x6_2 (bt302.2.2.1 != (t282.length : Int))) else (quittancelaw04_SheafTorn.j6 k6 l0 x3_6 y295 x6_2 true)) else (quittancelaw04_SheafTorn.j6 k6 l0 x3_6 y295 x6_2 true)) else (quittancelaw04_SheafTorn.j6 k6 l0 x3_6 y295 x6_2 true)) else (quittancelaw04_SheafTorn.j6 k6 l0 x3_6 y295 x6_2 false))) else (none)) else (none)) = some r := by first | (rw [hy295]; with_reducible exact H) | (have H2_ := (Option.bind_some _ _).symm.trans H; rw [hy295]; with_reducible exact H2_) | (have H2_ := (Option.bind_some _ _).symm.trans H; with_reducible exact H2_) | with_reducible exact H | (rw [hy295]; exact H) | exact H
                       have Ny295 := Aside0.mk hy295
                       clear hy295
                       obtain ⟨ji92, hji92⟩ : ∃ j_ : Int, jm = j_ := ⟨_, rfl⟩
                       replace H : (if 0 ≤ (ji92) then (if (ji92) ≤ (x3_6.length : Int) then ((sheaf_Get.f (x3_6.drop ((ji92) : Int).toNat)).bind fun bt302 => (if x13_6 = true then (if bt302.2.2.2 = true then (if bt302.1 = (IntKind.u64.wrap ((IntKind.u64.wrap (t280 + 1)) + (IntKind.u64.wrap (((rd_T44 l0 x6_2).f1))))) then (if bt302.2.1.toList = ((rd_T44 l0 x6_2).f2).toList then (quittancelaw04_SheafTorn.j6 k6 l0 x3_6 y295 x6_2 (bt302.2.2.1 != (t282.length : Int))) else (quittancelaw04_SheafTorn.j6 k6 l0 x3_6 y295 x6_2 true)) else (quittancelaw04_SheafTorn.j6 k6 l0 x3_6 y295 x6_2 true)) else (quittancelaw04_SheafTorn.j6 k6 l0 x3_6 y295 x6_2 true)) else (quittancelaw04_SheafTorn.j6 k6 l0 x3_6 y295 x6_2 false))) else (none)) else (none)) = some r := by first | (rw [hji92] at H; exact H) | (simp only [hji92] at H ⊢; exact H)
                       (try rw [hji92] at Ny295)
                       by_cases c93 : 0 ≤ (ji92)
                       ·
                        rw [if_pos c93] at H
                        have c93b0 := eq_true c93
                        have c93b1 : decide (0 ≤ (ji92)) = true := decide_eq_true c93
                        clear c93
                        by_cases c94 : (ji92) ≤ (x3_6.length : Int)
                        ·
                         rw [if_pos c94] at H
                         have c94b0 := eq_true c94
                         have c94b1 : decide ((ji92) ≤ (x3_6.length : Int)) = true := decide_eq_true c94
                         clear c94
                         obtain ⟨y298, hy298⟩ : ∃ y_ : List ByteArray, y_ = (x3_6.drop ((ji92) : Int).toNat) := ⟨_, rfl⟩
                         replace H : ((sheaf_Get.f y298).bind fun bt302 => (if x13_6 = true then (if bt302.2.2.2 = true then (if bt302.1 = (IntKind.u64.wrap ((IntKind.u64.wrap (t280 + 1)) + (IntKind.u64.wrap (((rd_T44 l0 x6_2).f1))))) then (if bt302.2.1.toList = ((rd_T44 l0 x6_2).f2).toList then (quittancelaw04_SheafTorn.j6 k6 l0 x3_6 y295 x6_2 (bt302.2.2.1 != (t282.length : Int))) else (quittancelaw04_SheafTorn.j6 k6 l0 x3_6 y295 x6_2 true)) else (quittancelaw04_SheafTorn.j6 k6 l0 x3_6 y295 x6_2 true)) else (quittancelaw04_SheafTorn.j6 k6 l0 x3_6 y295 x6_2 true)) else (quittancelaw04_SheafTorn.j6 k6 l0 x3_6 y295 x6_2 false))) = some r := by first | (rw [hy298]; with_reducible exact H) | (have H2_ := (Option.bind_some _ _).symm.trans H; rw [hy298]; with_reducible exact H2_) | (have H2_ := (Option.bind_some _ _).symm.trans H; with_reducible exact H2_) | with_reducible exact H | (rw [hy298]; exact H) | exact H
                         have Ny298 := Aside0.mk hy298
                         clear hy298
                         replace H := Option.bind_eq_some_iff.mp H
                         obtain ⟨⟨t302, t303, t304, t305⟩, A950, H⟩ := H
                         replace H : (if x13_6 = true then (if t305 = true then (if t302 = (IntKind.u64.wrap ((IntKind.u64.wrap (t280 + 1)) + (IntKind.u64.wrap (((rd_T44 l0 x6_2).f1))))) then (if t303.toList = ((rd_T44 l0 x6_2).f2).toList then (quittancelaw04_SheafTorn.j6 k6 l0 x3_6 y295 x6_2 (t304 != (t282.length : Int))) else (quittancelaw04_SheafTorn.j6 k6 l0 x3_6 y295 x6_2 true)) else (quittancelaw04_SheafTorn.j6 k6 l0 x3_6 y295 x6_2 true)) else (quittancelaw04_SheafTorn.j6 k6 l0 x3_6 y295 x6_2 true)) else (quittancelaw04_SheafTorn.j6 k6 l0 x3_6 y295 x6_2 false)) = some r := H
                         have A95 := Aside0.mk A950
                         clear A950
                         have HC96 := Aside0.mk H
                         clear H
                         obtain ⟨Ao97, co97, eo97⟩ := Kd.R_slice HO_10.out
                         subst eo97
                         have hcz98_0 : wr.cell? ⟨gb279, 0, none⟩ = some (.int .u8 ((rd_T44 l0 x6_2).f0)) := (blk_cell BK279.out 0).trans rfl
                         have hcz98_1 : wr.cell? ⟨gb279, 1, none⟩ = some (.int .u16 ((rd_T44 l0 x6_2).f1)) := (blk_cell BK279.out 1).trans rfl
                         have hcz98_2 : wr.cell? ⟨gb279, 2, none⟩ = some (.string ((rd_T44 l0 x6_2).f2)) := (blk_cell BK279.out 2).trans rfl
                         have hcz98_3 : wr.cell? ⟨gb279, 3, none⟩ = some (.slice A278_3 ((rd_T44 l0 x6_2).f3).length c278_3) := (blk_cell BK279.out 3).trans rfl
                         have hfz98_0 := blk_frozen BK279.out 0
                         have hfz98_1 := blk_frozen BK279.out 1
                         have hfz98_2 := blk_frozen BK279.out 2
                         have hfz98_3 := blk_frozen BK279.out 3
                         go_upto_region 33 with (first | ((with_reducible refine gate_builtin (b := .append) (xs := #[.tmp 149, .tmp 157]) rfl ?_); (try (refine gate_guard (by rfl) ?_; dsimp only)); at_builtin; refine Kd.R_append k46 (w0 := w) w.heap.size rfl (.tmp 149) (.tmp 157) 40 46 (.agg #[(.int .i64 0), (.int .i64 0), (.int .u64 0), (.string ⟨#[]⟩)]) 40 rfl Try.underlying40 info46 rfl (by decide) (by omega) u5 x5_2 (⟨(ji92), (t282.length : Int), (IntKind.u64.wrap ((IntKind.u64.wrap (t280 + 1)) + (IntKind.u64.wrap (((rd_T44 l0 x6_2).f1))))), ((rd_T44 l0 x6_2).f2)⟩ : S46) [.int .i64 (ji92), .int .i64 (t282.length : Int), .int .u64 (IntKind.u64.wrap ((IntKind.u64.wrap (t280 + 1)) + (IntKind.u64.wrap (((rd_T44 l0 x6_2).f1))))), .string ((rd_T44 l0 x6_2).f2)] (fun _ => True) (fun _ => False) rfl rfl ?aP (fun _ hk => hk.elim) ?aF ?aO ?aB ?aS ?aL ?_; (case aP => exact k46_mkM _ _ _ (⟨(ji92), (t282.length : Int), (IntKind.u64.wrap ((IntKind.u64.wrap (t280 + 1)) + (IntKind.u64.wrap (((rd_T44 l0 x6_2).f1))))), ((rd_T44 l0 x6_2).f2)⟩ : S46)); (case aB => exact (by repeat (first | (with_reducible first | exact HB.out | apply below_alloc | apply pw_below_drewN | apply below_drew1 | refine below_set ?_ GE279.out) | exact HB.out))); (case aF => exact (fun _ _ => trivial)); (case aO => exact (by (with_reducible repeat (first | apply Kd.R_alloc | apply Kd.R_drewN | apply Kd.R_drew)); exact HO_5.out)); (case aS => exact (below_size (by repeat (first | (with_reducible first | exact HB.out | apply below_alloc | apply pw_below_drewN | apply below_drew1 | refine below_set ?_ GE279.out) | exact HB.out)))); (case aL => have := LMc91.out; omega); intro v296 w99 ho hb hg hat; rw [← Ny295.out] at ho; have n0_ := Aside0.mk (Kd.R_over' (by (with_reducible repeat (first | apply Kd.R_alloc | apply Kd.R_drewN | apply Kd.R_drew)); exact HO_3.out) (Kd.R_typed (by (with_reducible repeat (first | apply Kd.R_alloc | apply Kd.R_drewN | apply Kd.R_drew)); exact HO_5.out)) (by decide) hg); have n1_ := Aside0.mk (Kd.R_over' (by (with_reducible repeat (first | apply Kd.R_alloc | apply Kd.R_drewN | apply Kd.R_drew)); exact HO_10.out) (Kd.R_typed (by (with_reducible repeat (first | apply Kd.R_alloc | apply Kd.R_drewN | apply Kd.R_drew)); exact HO_5.out)) (by decide) hg); have n2_ := Aside0.mk (blk_grown (g := gb279) (o := .cells #[.int .u8 ((rd_T44 l0 x6_2).f0), .int .u16 ((rd_T44 l0 x6_2).f1), .string ((rd_T44 l0 x6_2).f2), .slice A278_3 ((rd_T44 l0 x6_2).f3).length c278_3] 44 (0, 0)) (by (with_reducible repeat (first | refine blk_drewN ?_ _ | refine blk_drew ?_ | refine blk_alloc ?_ _)); exact BK279.out) hg (Kd.R_ne HO_5.out BK279.out (by decide))); have n3_ := Aside0.mk (hb); have n4_ := Aside0.mk (ho); clear HO_3; clear HO_10; clear BK279; clear HB; clear HO_5; have HO_3 := n0_; have HO_10 := n1_; have BK279 := n2_; have HB := n3_; have HO297 := n4_; clear n0_ n1_ n2_ n3_ n4_; clear ho hb hg hat; have q100 : ((ji92) : Int) ≤ ((x3_6.length : Int) : Int) := of_decide_eq_true (by first | (with_reducible assumption) | assumption); obtain ⟨i0100, hi0100, _, hsz100, _⟩ := info_parts info9; have hroom100 : x3_6.length ≤ co15 := (Kd.R_reads' HO_3.out).2.1; have hC100 : Kd.C Kd.string _ Ao15 x3_6.length x3_6 := (Kd.R_reads' HO_3.out).2.2; have q0100 : (0 : Int) ≤ ((ji92) : Int) := of_decide_eq_true (by first | (with_reducible assumption) | assumption); have hcut100 := cut_from (P := Try.prog) 24 9 .i64 Try.underlying24 hi0100 1 hsz100 Ao15 x3_6.length co15 (ji92) q0100 q100; have hr100 := Kd.C_drop (m := ((ji92) : Int).toNat) (c := co15) hC100 (by omega) hroom100; obtain ⟨A100, hA100⟩ : ∃ A1, A1 = (if co15 = ((ji92) : Int).toNat then Ao15 else (Ao15 : Option Addr).map (·.add (((ji92) : Int).toNat * 1))) := ⟨_, rfl⟩; obtain ⟨c100, hc100⟩ : ∃ c1, c1 = co15 - ((ji92) : Int).toNat := ⟨_, rfl⟩; have hy100 : y298.length = x3_6.length - ((ji92) : Int).toNat := (by rw [Ny298.out, List.length_drop] <;> omega); rw [show (x3_6).drop ((ji92) : Int).toNat = y298 from Ny298.out.symm] at hr100; replace hr100 : Kd.C Kd.string _ A100 y298.length y298 := (by rw [hA100]; exact hr100); rw [← hy100, ← hA100, ← hc100] at hcut100; have HR301 := Aside0.mk hr100; have HC301 := Aside0.mk (show y298.length ≤ c100 from by rw [hy100, hc100]; exact Nat.sub_le_sub_right hroom100 _); clear hr100 hC100 hroom100 hi0100 hsz100 hc100; have KY100 := Aside0.mk hy100; have KA100 := Aside0.mk hA100; clear hy100 hA100; have KL100 := Aside0.mk (show ((ji92) : Int).toNat ≤ x3_6.length from by omega); replace q100 := eq_true q100) | ((with_reducible refine gate_callee (f := 14) rfl ?_); refine goesL_ (some 163) rfl rfl Try.func14 (by kernel_rfl) rfl #[.slice A100 y298.length c100] rfl (by (try simp only [List.map_toArray, List.map_cons, List.map_nil]); first | done | rfl | (simp only [List.length_drop, List.length_take]; rfl)) ?_; (with_reducible refine (sheaf_Get.calls _ _ y298 t302 t303 t304 t305 _ ?side1 ?side2 A95.out).mono ?_); (case side1 => repeat (first | exact (by repeat (first | (with_reducible exact HR301.out) | (with_reducible refine Kd.C_alloc ?_ _) | (with_reducible refine Kd.C_drewN ?_ _) | (with_reducible refine Kd.C_drew ?_) | exact HR301.out)) | (with_reducible refine Kd.C_alloc ?_ _) | (with_reducible refine Kd.C_drewN ?_ _) | (with_reducible refine Kd.C_drew ?_))); (case side2 => exact HC301.out); rintro e w101 ⟨rfl, hb⟩; refine ⟨_, rfl, ?_⟩; have n0_ := Aside0.mk (Kd.R_below (by (with_reducible repeat (first | apply Kd.R_alloc | apply Kd.R_drewN | apply Kd.R_drew)); exact HO_3.out) hb); have n1_ := Aside0.mk (Kd.R_below (by (with_reducible repeat (first | apply Kd.R_alloc | apply Kd.R_drewN | apply Kd.R_drew)); exact HO_10.out) hb); have n2_ := Aside0.mk (Kd.R_below (by (with_reducible repeat (first | apply Kd.R_alloc | apply Kd.R_drewN | apply Kd.R_drew)); exact HO297.out) hb); have n3_ := Aside0.mk (blk_below (g := gb279) (o := .cells #[.int .u8 ((rd_T44 l0 x6_2).f0), .int .u16 ((rd_T44 l0 x6_2).f1), .string ((rd_T44 l0 x6_2).f2), .slice A278_3 ((rd_T44 l0 x6_2).f3).length c278_3] 44 (0, 0)) (by (with_reducible repeat (first | refine blk_drewN ?_ _ | refine blk_drew ?_ | refine blk_alloc ?_ _)); exact BK279.out) hb); have n4_ := Aside0.mk (Kd.C_below (by repeat (first | (with_reducible exact HR301.out) | (with_reducible refine Kd.C_alloc ?_ _) | (with_reducible refine Kd.C_drewN ?_ _) | (with_reducible refine Kd.C_drew ?_) | exact HR301.out)) hb); have n5_ := Aside0.mk (below_step (by repeat (first | (with_reducible first | exact HB.out | apply below_alloc | apply pw_below_drewN | apply below_drew1 | refine below_set ?_ GE279.out) | exact HB.out)) hb); clear HO_3; clear HO_10; clear HO297; clear BK279; clear HR301; clear HB; have HO_3 := n0_; have HO_10 := n1_; have HO297 := n2_; have BK279 := n3_; have HR301 := n4_; have HB := n5_; clear n0_ n1_ n2_ n3_ n4_ n5_; (try clear hb); (try clear hb2); (try clear hk); (try clear hi)))
                         (try simp only [Act.put, List.setIfInBounds_toArray, List.set_cons_zero, List.set_cons_succ])
                         go_cut [189] (fun v189 wc => ∃ (kq : Nat) (x189_95 : Bool), v189 = .bool x189_95 ∧ Aside0 (quittancelaw04_SheafTorn.j6 kq l0 x3_6 y295 x6_2 x189_95 = some r) ∧ Aside0 (kq ≤ k6) ∧ Aside0 (Kd.R Kd.string 9 wc w.heap.size (fun _ => True) (.slice Ao15 x3_6.length co15) x3_6) ∧ Aside0 (Kd.R k46 46 wc w.heap.size (fun _ => True) v296 y295) ∧ Aside0 (wc.heap[gb279]? = some (.cells #[.int .u8 ((rd_T44 l0 x6_2).f0), .int .u16 ((rd_T44 l0 x6_2).f1), .string ((rd_T44 l0 x6_2).f2), (.slice A278_3 ((rd_T44 l0 x6_2).f3).length c278_3)] 44 (0, 0))) ∧ Aside0 (Kd.C Kd.string wc Ao15 x3_6.length x3_6) ∧ Aside0 (Below w.heap.size w wc))
                         case first => as_aux_lemma =>
                          have H := HC96.out
                          clear HC96
                          by_cases c102 : x13_6 = true
                          ·
                           subst c102
                           have H1 : (if t305 = true then (if t302 = (IntKind.u64.wrap ((IntKind.u64.wrap (t280 + 1)) + (IntKind.u64.wrap (((rd_T44 l0 x6_2).f1))))) then (if t303.toList = ((rd_T44 l0 x6_2).f2).toList then (quittancelaw04_SheafTorn.j6 k6 l0 x3_6 y295 x6_2 (t304 != (t282.length : Int))) else (quittancelaw04_SheafTorn.j6 k6 l0 x3_6 y295 x6_2 true)) else (quittancelaw04_SheafTorn.j6 k6 l0 x3_6 y295 x6_2 true)) else (quittancelaw04_SheafTorn.j6 k6 l0 x3_6 y295 x6_2 true)) = some r := by rw [if_pos rfl] at H; exact H
                           clear H
                           have H := H1
                           clear H1
                           by_cases c103 : t305 = true
                           ·
                            subst c103
                            have H1 : (if t302 = (IntKind.u64.wrap ((IntKind.u64.wrap (t280 + 1)) + (IntKind.u64.wrap (((rd_T44 l0 x6_2).f1))))) then (if t303.toList = ((rd_T44 l0 x6_2).f2).toList then (quittancelaw04_SheafTorn.j6 k6 l0 x3_6 y295 x6_2 (t304 != (t282.length : Int))) else (quittancelaw04_SheafTorn.j6 k6 l0 x3_6 y295 x6_2 true)) else (quittancelaw04_SheafTorn.j6 k6 l0 x3_6 y295 x6_2 true)) = some r := by rw [if_pos rfl] at H; exact H
                            clear H
                            have H := H1
                            clear H1
                            by_cases c104 : t302 = (IntKind.u64.wrap ((IntKind.u64.wrap (t280 + 1)) + (IntKind.u64.wrap (((rd_T44 l0 x6_2).f1)))))
                            ·
                             rw [if_pos c104] at H
                             have c104b0 : (t302 == (IntKind.u64.wrap ((IntKind.u64.wrap (t280 + 1)) + (IntKind.u64.wrap (((rd_T44 l0 x6_2).f1)))))) = true := beq_iff_eq.mpr c104
                             have c104b1 : (t302 != (IntKind.u64.wrap ((IntKind.u64.wrap (t280 + 1)) + (IntKind.u64.wrap (((rd_T44 l0 x6_2).f1)))))) = false := bne_eq_false_iff_eq.mpr c104
                             clear c104
                             (first | rw [c104b0] | (simp only [i64_w, i32_w]; rw [c104b0]) | skip)
                             by_cases c105 : t303.toList = ((rd_T44 l0 x6_2).f2).toList
                             ·
                              rw [if_pos c105] at H
                              have c105b0 : (t303.toList == ((rd_T44 l0 x6_2).f2).toList) = true := beq_iff_eq.mpr c105
                              have c105b1 : (t303.toList != ((rd_T44 l0 x6_2).f2).toList) = false := bne_eq_false_iff_eq.mpr c105
                              clear c105
                              have H' := Aside0.mk H
                              clear H
                              have hcz106_0 : w101.cell? ⟨gb279, 0, none⟩ = some (.int .u8 ((rd_T44 l0 x6_2).f0)) := (blk_cell BK279.out 0).trans rfl
                              have hcz106_1 : w101.cell? ⟨gb279, 1, none⟩ = some (.int .u16 ((rd_T44 l0 x6_2).f1)) := (blk_cell BK279.out 1).trans rfl
                              have hcz106_2 : w101.cell? ⟨gb279, 2, none⟩ = some (.string ((rd_T44 l0 x6_2).f2)) := (blk_cell BK279.out 2).trans rfl
                              have hcz106_3 : w101.cell? ⟨gb279, 3, none⟩ = some (.slice A278_3 ((rd_T44 l0 x6_2).f3).length c278_3) := (blk_cell BK279.out 3).trans rfl
                              have hfz106_0 := blk_frozen BK279.out 0
                              have hfz106_1 := blk_frozen BK279.out 1
                              have hfz106_2 := blk_frozen BK279.out 2
                              have hfz106_3 := blk_frozen BK279.out 3
                              go_wp2
                              go_meet
                              case rel => exact ⟨_, ((t304 != (t282.length : Int))), (by first | rfl | (simp; done) | (simp [*]; done)), H', ⟨by have := HK1.out; have := HK2.out; have := HJ15.out; have := HJ21.out; have := HJ32.out; have := HK6.out; first | omega | exact Nat.le_refl _⟩, ⟨by (try simp only [hl3_2]); (try simp only [hl3_6]); (with_reducible repeat (first | apply Kd.R_alloc | apply Kd.R_drewN | apply Kd.R_drew)); exact Kd.R_mono HO_3.out (fun _ hk => trivial)⟩, ⟨by (try simp only [hl3_2]); (try simp only [hl3_6]); (with_reducible repeat (first | apply Kd.R_alloc | apply Kd.R_drewN | apply Kd.R_drew)); exact HO297.out⟩, ⟨by (try simp only [hl3_2]); (try simp only [hl3_6]); (with_reducible repeat (first | refine blk_drewN ?_ _ | refine blk_drew ?_ | refine blk_alloc ?_ _)); exact BK279.out⟩, ⟨by repeat (first | (with_reducible exact (Kd.R_reads' HO_3.out).2.2) | (with_reducible refine Kd.C_alloc ?_ _) | (with_reducible refine Kd.C_drewN ?_ _) | (with_reducible refine Kd.C_drew ?_) | exact (Kd.R_reads' HO_3.out).2.2)⟩, ⟨by repeat (first | (with_reducible first | exact HB.out | apply below_alloc | apply pw_below_drewN | apply below_drew1 | refine below_set ?_ GE279.out) | exact HB.out)⟩⟩
                             ·
                              rw [if_neg c105] at H
                              have c105b0 : (t303.toList == ((rd_T44 l0 x6_2).f2).toList) = false := beq_eq_false_iff_ne.mpr c105
                              have c105b1 : (t303.toList != ((rd_T44 l0 x6_2).f2).toList) = true := bne_iff_ne.mpr c105
                              have H' := Aside0.mk H
                              clear H
                              have hcz107_0 : w101.cell? ⟨gb279, 0, none⟩ = some (.int .u8 ((rd_T44 l0 x6_2).f0)) := (blk_cell BK279.out 0).trans rfl
                              have hcz107_1 : w101.cell? ⟨gb279, 1, none⟩ = some (.int .u16 ((rd_T44 l0 x6_2).f1)) := (blk_cell BK279.out 1).trans rfl
                              have hcz107_2 : w101.cell? ⟨gb279, 2, none⟩ = some (.string ((rd_T44 l0 x6_2).f2)) := (blk_cell BK279.out 2).trans rfl
                              have hcz107_3 : w101.cell? ⟨gb279, 3, none⟩ = some (.slice A278_3 ((rd_T44 l0 x6_2).f3).length c278_3) := (blk_cell BK279.out 3).trans rfl
                              have hfz107_0 := blk_frozen BK279.out 0
                              have hfz107_1 := blk_frozen BK279.out 1
                              have hfz107_2 := blk_frozen BK279.out 2
                              have hfz107_3 := blk_frozen BK279.out 3
                              go_wp2
                              go_meet
                              case rel => exact ⟨_, (true), (by first | rfl | (simp; done) | (simp [*]; done)), H', ⟨by have := HK1.out; have := HK2.out; have := HJ15.out; have := HJ21.out; have := HJ32.out; have := HK6.out; first | omega | exact Nat.le_refl _⟩, ⟨by (try simp only [hl3_2]); (try simp only [hl3_6]); (with_reducible repeat (first | apply Kd.R_alloc | apply Kd.R_drewN | apply Kd.R_drew)); exact Kd.R_mono HO_3.out (fun _ hk => trivial)⟩, ⟨by (try simp only [hl3_2]); (try simp only [hl3_6]); (with_reducible repeat (first | apply Kd.R_alloc | apply Kd.R_drewN | apply Kd.R_drew)); exact HO297.out⟩, ⟨by (try simp only [hl3_2]); (try simp only [hl3_6]); (with_reducible repeat (first | refine blk_drewN ?_ _ | refine blk_drew ?_ | refine blk_alloc ?_ _)); exact BK279.out⟩, ⟨by repeat (first | (with_reducible exact (Kd.R_reads' HO_3.out).2.2) | (with_reducible refine Kd.C_alloc ?_ _) | (with_reducible refine Kd.C_drewN ?_ _) | (with_reducible refine Kd.C_drew ?_) | exact (Kd.R_reads' HO_3.out).2.2)⟩, ⟨by repeat (first | (with_reducible first | exact HB.out | apply below_alloc | apply pw_below_drewN | apply below_drew1 | refine below_set ?_ GE279.out) | exact HB.out)⟩⟩
                            ·
                             rw [if_neg c104] at H
                             have c104b0 : (t302 == (IntKind.u64.wrap ((IntKind.u64.wrap (t280 + 1)) + (IntKind.u64.wrap (((rd_T44 l0 x6_2).f1)))))) = false := beq_eq_false_iff_ne.mpr c104
                             have c104b1 : (t302 != (IntKind.u64.wrap ((IntKind.u64.wrap (t280 + 1)) + (IntKind.u64.wrap (((rd_T44 l0 x6_2).f1)))))) = true := bne_iff_ne.mpr c104
                             (first | rw [c104b0] | (simp only [i64_w, i32_w]; rw [c104b0]) | skip)
                             have H' := Aside0.mk H
                             clear H
                             go_wp2
                             go_meet
                             case rel => exact ⟨_, (true), (by first | rfl | (simp; done) | (simp [*]; done)), H', ⟨by have := HK1.out; have := HK2.out; have := HJ15.out; have := HJ21.out; have := HJ32.out; have := HK6.out; first | omega | exact Nat.le_refl _⟩, ⟨by (try simp only [hl3_2]); (try simp only [hl3_6]); (with_reducible repeat (first | apply Kd.R_alloc | apply Kd.R_drewN | apply Kd.R_drew)); exact Kd.R_mono HO_3.out (fun _ hk => trivial)⟩, ⟨by (try simp only [hl3_2]); (try simp only [hl3_6]); (with_reducible repeat (first | apply Kd.R_alloc | apply Kd.R_drewN | apply Kd.R_drew)); exact HO297.out⟩, ⟨by (try simp only [hl3_2]); (try simp only [hl3_6]); (with_reducible repeat (first | refine blk_drewN ?_ _ | refine blk_drew ?_ | refine blk_alloc ?_ _)); exact BK279.out⟩, ⟨by repeat (first | (with_reducible exact (Kd.R_reads' HO_3.out).2.2) | (with_reducible refine Kd.C_alloc ?_ _) | (with_reducible refine Kd.C_drewN ?_ _) | (with_reducible refine Kd.C_drew ?_) | exact (Kd.R_reads' HO_3.out).2.2)⟩, ⟨by repeat (first | (with_reducible first | exact HB.out | apply below_alloc | apply pw_below_drewN | apply below_drew1 | refine below_set ?_ GE279.out) | exact HB.out)⟩⟩
                           ·
                            replace c103 := Bool.eq_false_iff.mpr c103
                            subst c103
                            have H1 : (quittancelaw04_SheafTorn.j6 k6 l0 x3_6 y295 x6_2 true) = some r := by rw [if_neg (show ¬ (false = true) by decide)] at H; exact H
                            clear H
                            have H := H1
                            clear H1
                            have H' := Aside0.mk H
                            clear H
                            go_wp2
                            go_meet
                            case rel => exact ⟨_, (true), (by first | rfl | (simp; done) | (simp [*]; done)), H', ⟨by have := HK1.out; have := HK2.out; have := HJ15.out; have := HJ21.out; have := HJ32.out; have := HK6.out; first | omega | exact Nat.le_refl _⟩, ⟨by (try simp only [hl3_2]); (try simp only [hl3_6]); (with_reducible repeat (first | apply Kd.R_alloc | apply Kd.R_drewN | apply Kd.R_drew)); exact Kd.R_mono HO_3.out (fun _ hk => trivial)⟩, ⟨by (try simp only [hl3_2]); (try simp only [hl3_6]); (with_reducible repeat (first | apply Kd.R_alloc | apply Kd.R_drewN | apply Kd.R_drew)); exact HO297.out⟩, ⟨by (try simp only [hl3_2]); (try simp only [hl3_6]); (with_reducible repeat (first | refine blk_drewN ?_ _ | refine blk_drew ?_ | refine blk_alloc ?_ _)); exact BK279.out⟩, ⟨by repeat (first | (with_reducible exact (Kd.R_reads' HO_3.out).2.2) | (with_reducible refine Kd.C_alloc ?_ _) | (with_reducible refine Kd.C_drewN ?_ _) | (with_reducible refine Kd.C_drew ?_) | exact (Kd.R_reads' HO_3.out).2.2)⟩, ⟨by repeat (first | (with_reducible first | exact HB.out | apply below_alloc | apply pw_below_drewN | apply below_drew1 | refine below_set ?_ GE279.out) | exact HB.out)⟩⟩
                          ·
                           replace c102 := Bool.eq_false_iff.mpr c102
                           subst c102
                           have H1 : (quittancelaw04_SheafTorn.j6 k6 l0 x3_6 y295 x6_2 false) = some r := by rw [if_neg (show ¬ (false = true) by decide)] at H; exact H
                           clear H
                           have H := H1
                           clear H1
                           have H' := Aside0.mk H
                           clear H
                           go_wp2
                           go_meet
                           case rel => exact ⟨_, (false), (by first | rfl | (simp; done) | (simp [*]; done)), H', ⟨by have := HK1.out; have := HK2.out; have := HJ15.out; have := HJ21.out; have := HJ32.out; have := HK6.out; first | omega | exact Nat.le_refl _⟩, ⟨by (try simp only [hl3_2]); (try simp only [hl3_6]); (with_reducible repeat (first | apply Kd.R_alloc | apply Kd.R_drewN | apply Kd.R_drew)); exact Kd.R_mono HO_3.out (fun _ hk => trivial)⟩, ⟨by (try simp only [hl3_2]); (try simp only [hl3_6]); (with_reducible repeat (first | apply Kd.R_alloc | apply Kd.R_drewN | apply Kd.R_drew)); exact HO297.out⟩, ⟨by (try simp only [hl3_2]); (try simp only [hl3_6]); (with_reducible repeat (first | refine blk_drewN ?_ _ | refine blk_drew ?_ | refine blk_alloc ?_ _)); exact BK279.out⟩, ⟨by repeat (first | (with_reducible exact (Kd.R_reads' HO_3.out).2.2) | (with_reducible refine Kd.C_alloc ?_ _) | (with_reducible refine Kd.C_drewN ?_ _) | (with_reducible refine Kd.C_drew ?_) | exact (Kd.R_reads' HO_3.out).2.2)⟩, ⟨by repeat (first | (with_reducible first | exact HB.out | apply below_alloc | apply pw_below_drewN | apply below_drew1 | refine below_set ?_ GE279.out) | exact HB.out)⟩⟩
                         case rest => as_aux_lemma =>
                          clear HC96
                          try clear c1
                          try clear q1
                          try clear c2
                          try clear p2
                          try clear q2
                          try clear hx2
                          try clear c4
                          try clear p6
                          try clear c7
                          try clear p7
                          try clear q7
                          try clear hx7
                          try clear hf7
                          try clear c8
                          try clear c9
                          try clear c10
                          try clear q10
                          try clear c14
                          try clear c27
                          try clear p29
                          try clear q29
                          try clear hx29
                          try clear c41
                          try clear c41b0
                          try clear p64
                          try clear c70
                          try clear c71
                          try clear c71b0
                          try clear c71b1
                          try clear c72
                          try clear c73
                          try clear c75
                          try clear c76
                          try clear c77
                          try clear c78
                          try clear p79
                          try clear q79
                          try clear hx79
                          try clear hf79
                          try clear c80
                          try clear c91
                          try clear c93
                          try clear c93b0
                          try clear c93b1
                          try clear c94
                          try clear c94b0
                          try clear c94b1
                          try clear c100
                          try clear q100
                          try clear c102
                          try clear c103
                          try clear c104
                          try clear c104b0
                          try clear c104b1
                          try clear c105
                          try clear c105b0
                          try clear c105b1
                          try clear hcz106_0
                          try clear hcz106_1
                          try clear hcz106_2
                          try clear hcz106_3
                          try clear hcz107_0
                          try clear hcz107_1
                          try clear hcz107_2
                          try clear hcz107_3
                          try clear hcz86_0
                          try clear hcz86_1
                          try clear hcz86_2
                          try clear hcz86_3
                          try clear hcz90_0
                          try clear hcz90_1
                          try clear hcz90_2
                          try clear hcz90_3
                          try clear hcz98_0
                          try clear hcz98_1
                          try clear hcz98_2
                          try clear hcz98_3
                          try clear hfz106_0
                          try clear hfz106_1
                          try clear hfz106_2
                          try clear hfz106_3
                          try clear hfz107_0
                          try clear hfz107_1
                          try clear hfz107_2
                          try clear hfz107_3
                          try clear hfz86_0
                          try clear hfz86_1
                          try clear hfz86_2
                          try clear hfz86_3
                          try clear hfz90_0
                          try clear hfz90_1
                          try clear hfz90_2
                          try clear hfz90_3
                          try clear hfz98_0
                          try clear hfz98_1
                          try clear hfz98_2
                          try clear hfz98_3
                          try clear hx291_0
                          try clear hx292_0
                          try clear hx293_0
                          try clear hx79_0
                          try clear p291
                          try clear p292
                          try clear p293
                          try clear p79
                          try clear q0100
                          try clear q100
                          try clear q291
                          try clear q292
                          try clear q293
                          try clear q79
                          obtain ⟨kq, x189_95, rfl, HA, HJ95, HO_3, HO_5, BK279, HR301, HB⟩ := hcut
                          cases kq with
                          | zero => exact absurd HA.out (by simp [quittancelaw04_SheafTorn.j6])
                          | succ kj95 =>
                           have H := HA.out
                           clear HA
                           simp only [quittancelaw04_SheafTorn.j6] at H
                           by_cases c108 : x189_95 = true
                           ·
                            subst c108
                            have H1 : (some false) = some r := by rw [if_pos rfl] at H; exact H
                            clear H
                            have H := H1
                            clear H1
                            exact absurd ((Option.some.inj H).trans hr) (by decide)
                           ·
                            replace c108 := Bool.eq_false_iff.mpr c108
                            subst c108
                            have H1 : (quittancelaw04_SheafTorn.l3 kj95 l0 x3_6 y295 x6_2 0) = some r := by rw [if_neg (show ¬ (false = true) by decide)] at H; exact H
                            clear H
                            have H := H1
                            clear H1
                            have H' := Aside0.mk H
                            clear H
                            go_wp2
                            go_loopg [20] kj95 (fun kq v20 w' => ∃ (x20_8 : Int), v20 = .int .i64 x20_8 ∧ Aside0 (quittancelaw04_SheafTorn.l3 kq l0 x3_6 y295 x6_2 x20_8 = some r) ∧ Aside0 (kq ≤ kj95) ∧ Aside0 (Kd.R Kd.string 9 w' w.heap.size (fun _ => True) (.slice Ao15 x3_6.length co15) x3_6) ∧ Aside0 (Kd.R k46 46 w' w.heap.size (fun _ => True) v296 y295) ∧ Aside0 (w'.heap[gb279]? = some (.cells #[.int .u8 ((rd_T44 l0 x6_2).f0), .int .u16 ((rd_T44 l0 x6_2).f1), .string ((rd_T44 l0 x6_2).f2), (.slice A278_3 ((rd_T44 l0 x6_2).f3).length c278_3)] 44 (0, 0))) ∧ Aside0 (Kd.C Kd.string w' Ao15 x3_6.length x3_6) ∧ Aside0 (Below w.heap.size w w'))
                            case atStart => exact ⟨(0), (by first | rfl | (simp; done) | (simp [*]; done)), H', ⟨Nat.le_refl _⟩, ⟨by (try simp only [hl3_2]); (try simp only [hl3_6]); (with_reducible repeat (first | apply Kd.R_alloc | apply Kd.R_drewN | apply Kd.R_drew)); exact HO_3.out⟩, ⟨by (try simp only [hl3_2]); (try simp only [hl3_6]); (with_reducible repeat (first | apply Kd.R_alloc | apply Kd.R_drewN | apply Kd.R_drew)); exact HO_5.out⟩, ⟨by (try simp only [hl3_2]); (try simp only [hl3_6]); (with_reducible repeat (first | refine blk_drewN ?_ _ | refine blk_drew ?_ | refine blk_alloc ?_ _)); exact BK279.out⟩, ⟨by repeat (first | (with_reducible exact HR301.out) | (with_reducible refine Kd.C_alloc ?_ _) | (with_reducible refine Kd.C_drewN ?_ _) | (with_reducible refine Kd.C_drew ?_) | exact HR301.out)⟩, ⟨by repeat (first | (with_reducible first | exact HB.out | apply below_alloc | apply pw_below_drewN | apply below_drew1 | refine below_set ?_ GE279.out) | exact HB.out)⟩⟩
                            case round => as_aux_lemma =>
                             clear H'
                             try clear c1
                             try clear q1
                             try clear c2
                             try clear p2
                             try clear q2
                             try clear hx2
                             try clear c4
                             try clear p6
                             try clear c7
                             try clear p7
                             try clear q7
                             try clear hx7
                             try clear hf7
                             try clear c8
                             try clear c9
                             try clear c10
                             try clear q10
                             try clear c14
                             try clear c27
                             try clear p29
                             try clear q29
                             try clear hx29
                             try clear c41
                             try clear c41b0
                             try clear p64
                             try clear c70
                             try clear c71
                             try clear c71b0
                             try clear c71b1
                             try clear c72
                             try clear c73
                             try clear c75
                             try clear c76
                             try clear c77
                             try clear c78
                             try clear p79
                             try clear q79
                             try clear hx79
                             try clear hf79
                             try clear c80
                             try clear c91
                             try clear c93
                             try clear c93b0
                             try clear c93b1
                             try clear c94
                             try clear c94b0
                             try clear c94b1
                             try clear c100
                             try clear q100
                             try clear c102
                             try clear c103
                             try clear c104
                             try clear c104b0
                             try clear c104b1
                             try clear c105
                             try clear c105b0
                             try clear c105b1
                             try clear c108
                             try clear hcz106_0
                             try clear hcz106_1
                             try clear hcz106_2
                             try clear hcz106_3
                             try clear hcz107_0
                             try clear hcz107_1
                             try clear hcz107_2
                             try clear hcz107_3
                             try clear hcz86_0
                             try clear hcz86_1
                             try clear hcz86_2
                             try clear hcz86_3
                             try clear hcz90_0
                             try clear hcz90_1
                             try clear hcz90_2
                             try clear hcz90_3
                             try clear hcz98_0
                             try clear hcz98_1
                             try clear hcz98_2
                             try clear hcz98_3
                             try clear hfz106_0
                             try clear hfz106_1
                             try clear hfz106_2
                             try clear hfz106_3
                             try clear hfz107_0
                             try clear hfz107_1
                             try clear hfz107_2
                             try clear hfz107_3
                             try clear hfz86_0
                             try clear hfz86_1
                             try clear hfz86_2
                             try clear hfz86_3
                             try clear hfz90_0
                             try clear hfz90_1
                             try clear hfz90_2
                             try clear hfz90_3
                             try clear hfz98_0
                             try clear hfz98_1
                             try clear hfz98_2
                             try clear hfz98_3
                             try clear hx291_0
                             try clear hx292_0
                             try clear hx293_0
                             try clear hx79_0
                             try clear p2
                             try clear p29
                             try clear p291
                             try clear p292
                             try clear p293
                             try clear p6
                             try clear p64
                             try clear p7
                             try clear p79
                             try clear q0100
                             try clear q1
                             try clear q10
                             try clear q100
                             try clear q2
                             try clear q29
                             try clear q291
                             try clear q292
                             try clear q293
                             try clear q7
                             try clear q79
                             obtain ⟨x20_8, rfl, HA, HK8, HO_3, HO_5, BK279, HR301, HB⟩ := hrel
                             cases gk with
                             | zero => exact absurd HA.out (by simp [quittancelaw04_SheafTorn.l3])
                             | succ k8 =>
                              have H := HA.out
                              clear HA
                              simp only [quittancelaw04_SheafTorn.l3] at H
                              by_cases c109 : x20_8 < (x3_6.length : Int)
                              ·
                               rw [if_pos c109] at H
                               have c109b0 : decide (x20_8 < (x3_6.length : Int)) = true := decide_eq_true c109
                               clear c109
                               by_cases c110 : 0 ≤ x20_8
                               ·
                                rw [if_pos c110] at H
                                have c110b0 := eq_true c110
                                have c110b1 : decide (0 ≤ x20_8) = true := decide_eq_true c110
                                clear c110
                                by_cases c111 : x20_8 ≤ (x3_6.length : Int)
                                ·
                                 rw [if_pos c111] at H
                                 have c111b0 := eq_true c111
                                 have c111b1 : decide (x20_8 ≤ (x3_6.length : Int)) = true := decide_eq_true c111
                                 clear c111
                                 obtain ⟨y306, hy306⟩ : ∃ y_ : List ByteArray, y_ = (x3_6.drop (x20_8 : Int).toNat) := ⟨_, rfl⟩
                                 replace H : ((sheaf_Get.f y306).bind fun bt310 => (if bt310.2.2.2 = true then ((quittancelaw04_one.f k8 y295 x20_8 bt310.1 bt310.2.1 bt310.2.2.1).bind fun t314 => (quittancelaw04_SheafTorn.j8 k8 l0 x3_6 y295 x6_2 x20_8 (!t314))) else (quittancelaw04_SheafTorn.j8 k8 l0 x3_6 y295 x6_2 x20_8 false))) = some r := by first | (rw [hy306]; with_reducible exact H) | (have H2_ := (Option.bind_some _ _).symm.trans H; rw [hy306]; with_reducible exact H2_) | (have H2_ := (Option.bind_some _ _).symm.trans H; with_reducible exact H2_) | with_reducible exact H | (rw [hy306]; exact H) | exact H
                                 have Ny306 := Aside0.mk hy306
                                 clear hy306
                                 replace H := Option.bind_eq_some_iff.mp H
                                 obtain ⟨⟨t310, t311, t312, t313⟩, A1120, H⟩ := H
                                 replace H : (if t313 = true then ((quittancelaw04_one.f k8 y295 x20_8 t310 t311 t312).bind fun t314 => (quittancelaw04_SheafTorn.j8 k8 l0 x3_6 y295 x6_2 x20_8 (!t314))) else (quittancelaw04_SheafTorn.j8 k8 l0 x3_6 y295 x6_2 x20_8 false)) = some r := H
                                 have A112 := Aside0.mk A1120
                                 clear A1120
                                 have HC113 := Aside0.mk H
                                 clear H
                                 have q114 : (x20_8 : Int) ≤ ((x3_6.length : Int) : Int) := of_decide_eq_true (by first | (with_reducible assumption) | assumption)
                                 obtain ⟨i0114, hi0114, _, hsz114, _⟩ := info_parts info9
                                 have hroom114 : x3_6.length ≤ co15 := (Kd.R_reads' HO_3.out).2.1
                                 have hC114 : Kd.C Kd.string _ Ao15 x3_6.length x3_6 := (Kd.R_reads' HO_3.out).2.2
                                 have q0114 : (0 : Int) ≤ (x20_8 : Int) := of_decide_eq_true (by first | (with_reducible assumption) | assumption)
                                 have hcut114 := cut_from (P := Try.prog) 24 9 .i64 Try.underlying24 hi0114 1 hsz114 Ao15 x3_6.length co15 x20_8 q0114 q114
                                 have hr114 := Kd.C_drop (m := (x20_8 : Int).toNat) (c := co15) hC114 (by omega) hroom114
                                 obtain ⟨A114, hA114⟩ : ∃ A1, A1 = (if co15 = (x20_8 : Int).toNat then Ao15 else (Ao15 : Option Addr).map (·.add ((x20_8 : Int).toNat * 1))) := ⟨_, rfl⟩
                                 obtain ⟨c114, hc114⟩ : ∃ c1, c1 = co15 - (x20_8 : Int).toNat := ⟨_, rfl⟩
                                 have hy114 : y306.length = x3_6.length - (x20_8 : Int).toNat := (by rw [Ny306.out, List.length_drop] <;> omega)
                                 rw [show (x3_6).drop (x20_8 : Int).toNat = y306 from Ny306.out.symm] at hr114
                                 replace hr114 : Kd.C Kd.string _ A114 y306.length y306 := (by rw [hA114]; exact hr114)
                                 rw [← hy114, ← hA114, ← hc114] at hcut114
                                 have HR309 := Aside0.mk hr114
                                 have HC309 := Aside0.mk (show y306.length ≤ c114 from by rw [hy114, hc114]; exact Nat.sub_le_sub_right hroom114 _)
                                 clear hr114 hC114 hroom114 hi0114 hsz114 hc114
                                 have KY114 := Aside0.mk hy114
                                 have KA114 := Aside0.mk hA114
                                 clear hy114 hA114
                                 have KL114 := Aside0.mk (show (x20_8 : Int).toNat ≤ x3_6.length from by omega)
                                 replace q114 := eq_true q114
                                 go_upto_region 39 with (first | ((with_reducible refine gate_callee (f := 14) rfl ?_); refine goesL_ (some 200) rfl rfl Try.func14 (by kernel_rfl) rfl #[.slice A114 y306.length c114] rfl (by (try simp only [List.map_toArray, List.map_cons, List.map_nil]); first | done | rfl | (simp only [List.length_drop, List.length_take]; rfl)) ?_; (with_reducible refine (sheaf_Get.calls _ _ y306 t310 t311 t312 t313 _ ?side1 ?side2 A112.out).mono ?_); (case side1 => repeat (first | exact (by repeat (first | (with_reducible exact HR309.out) | (with_reducible refine Kd.C_alloc ?_ _) | (with_reducible refine Kd.C_drewN ?_ _) | (with_reducible refine Kd.C_drew ?_) | exact HR309.out)) | (with_reducible refine Kd.C_alloc ?_ _) | (with_reducible refine Kd.C_drewN ?_ _) | (with_reducible refine Kd.C_drew ?_))); (case side2 => exact HC309.out); rintro e w115 ⟨rfl, hb⟩; refine ⟨_, rfl, ?_⟩; have n0_ := Aside0.mk (Kd.R_below (by (with_reducible repeat (first | apply Kd.R_alloc | apply Kd.R_drewN | apply Kd.R_drew)); exact HO_3.out) hb); have n1_ := Aside0.mk (Kd.R_below (by (with_reducible repeat (first | apply Kd.R_alloc | apply Kd.R_drewN | apply Kd.R_drew)); exact HO_5.out) hb); have n2_ := Aside0.mk (blk_below (g := gb279) (o := .cells #[.int .u8 ((rd_T44 l0 x6_2).f0), .int .u16 ((rd_T44 l0 x6_2).f1), .string ((rd_T44 l0 x6_2).f2), .slice A278_3 ((rd_T44 l0 x6_2).f3).length c278_3] 44 (0, 0)) (by (with_reducible repeat (first | refine blk_drewN ?_ _ | refine blk_drew ?_ | refine blk_alloc ?_ _)); exact BK279.out) hb); have n3_ := Aside0.mk (Kd.C_below (by repeat (first | (with_reducible exact HR301.out) | (with_reducible refine Kd.C_alloc ?_ _) | (with_reducible refine Kd.C_drewN ?_ _) | (with_reducible refine Kd.C_drew ?_) | exact HR301.out)) hb); have n4_ := Aside0.mk (Kd.C_below (by repeat (first | (with_reducible exact HR309.out) | (with_reducible refine Kd.C_alloc ?_ _) | (with_reducible refine Kd.C_drewN ?_ _) | (with_reducible refine Kd.C_drew ?_) | exact HR309.out)) hb); have n5_ := Aside0.mk (below_step (by repeat (first | (with_reducible first | exact HB.out | apply below_alloc | apply pw_below_drewN | apply below_drew1 | refine below_set ?_ GE279.out) | exact HB.out)) hb); clear HO_3; clear HO_5; clear BK279; clear HR301; clear HR309; clear HB; have HO_3 := n0_; have HO_5 := n1_; have BK279 := n2_; have HR301 := n3_; have HR309 := n4_; have HB := n5_; clear n0_ n1_ n2_ n3_ n4_ n5_; (try clear hb); (try clear hb2); (try clear hk); (try clear hi)))
                                 (try simp only [Act.put, List.setIfInBounds_toArray, List.set_cons_zero, List.set_cons_succ])
                                 go_cut [214] (fun v214 wc => ∃ (kq : Nat) (x214_112 : Bool), v214 = .bool x214_112 ∧ Aside0 (quittancelaw04_SheafTorn.j8 kq l0 x3_6 y295 x6_2 x20_8 x214_112 = some r) ∧ Aside0 (kq ≤ k8) ∧ Aside0 (Kd.R Kd.string 9 wc w.heap.size (fun _ => True) (.slice Ao15 x3_6.length co15) x3_6) ∧ Aside0 (Kd.R k46 46 wc w.heap.size (fun _ => True) v296 y295) ∧ Aside0 (wc.heap[gb279]? = some (.cells #[.int .u8 ((rd_T44 l0 x6_2).f0), .int .u16 ((rd_T44 l0 x6_2).f1), .string ((rd_T44 l0 x6_2).f2), (.slice A278_3 ((rd_T44 l0 x6_2).f3).length c278_3)] 44 (0, 0))) ∧ Aside0 (Kd.C Kd.string wc Ao15 x3_6.length x3_6) ∧ Aside0 (Kd.C Kd.string wc Ao15 x3_6.length x3_6) ∧ Aside0 (Below w.heap.size w wc))
                                 case first => as_aux_lemma =>
                                  have H := HC113.out
                                  clear HC113
                                  by_cases c116 : t313 = true
                                  ·
                                   subst c116
                                   have H1 : ((quittancelaw04_one.f k8 y295 x20_8 t310 t311 t312).bind fun t314 => (quittancelaw04_SheafTorn.j8 k8 l0 x3_6 y295 x6_2 x20_8 (!t314))) = some r := by rw [if_pos rfl] at H; exact H
                                   clear H
                                   have H := H1
                                   clear H1
                                   replace H := Option.bind_eq_some_iff.mp H
                                   obtain ⟨t314, A1170, H⟩ := H
                                   replace H : (quittancelaw04_SheafTorn.j8 k8 l0 x3_6 y295 x6_2 x20_8 (!t314)) = some r := H
                                   have A117 := Aside0.mk A1170
                                   clear A1170
                                   have H' := Aside0.mk H
                                   clear H
                                   obtain ⟨Ao118, co118, eo118⟩ := Kd.R_slice HO_5.out
                                   subst eo118
                                   go_wp2_with (first | (go_at_call 18; (with_reducible refine (quittancelaw04_one.calls k8 _ _ y295 x20_8 t310 t311 t312 t314 _ ?side1 ?side2 A117.out).mono ?_); (case side1 => repeat (first | exact (Kd.R_reads' HO_5.out).2.2 | (with_reducible refine Kd.C_alloc ?_ _) | (with_reducible refine Kd.C_drewN ?_ _) | (with_reducible refine Kd.C_drew ?_))); (case side2 => exact (Kd.R_reads' HO_5.out).2.1); rintro e w119 ⟨rfl, hb⟩; have n0_ := Aside0.mk (Kd.R_below (by (with_reducible repeat (first | apply Kd.R_alloc | apply Kd.R_drewN | apply Kd.R_drew)); exact HO_3.out) hb); have n1_ := Aside0.mk (Kd.R_below (by (with_reducible repeat (first | apply Kd.R_alloc | apply Kd.R_drewN | apply Kd.R_drew)); exact HO_5.out) hb); have n2_ := Aside0.mk (blk_below (g := gb279) (o := .cells #[.int .u8 ((rd_T44 l0 x6_2).f0), .int .u16 ((rd_T44 l0 x6_2).f1), .string ((rd_T44 l0 x6_2).f2), .slice A278_3 ((rd_T44 l0 x6_2).f3).length c278_3] 44 (0, 0)) (by (with_reducible repeat (first | refine blk_drewN ?_ _ | refine blk_drew ?_ | refine blk_alloc ?_ _)); exact BK279.out) hb); have n3_ := Aside0.mk (Kd.C_below (by repeat (first | (with_reducible exact HR301.out) | (with_reducible refine Kd.C_alloc ?_ _) | (with_reducible refine Kd.C_drewN ?_ _) | (with_reducible refine Kd.C_drew ?_) | exact HR301.out)) hb); have n4_ := Aside0.mk (Kd.C_below (by repeat (first | (with_reducible exact HR309.out) | (with_reducible refine Kd.C_alloc ?_ _) | (with_reducible refine Kd.C_drewN ?_ _) | (with_reducible refine Kd.C_drew ?_) | exact HR309.out)) hb); have n5_ := Aside0.mk (below_step (by repeat (first | (with_reducible first | exact HB.out | apply below_alloc | apply pw_below_drewN | apply below_drew1 | refine below_set ?_ GE279.out) | exact HB.out)) hb); clear HO_3; clear HO_5; clear BK279; clear HR301; clear HR309; clear HB; have HO_3 := n0_; have HO_5 := n1_; have BK279 := n2_; have HR301 := n3_; have HR309 := n4_; have HB := n5_; clear n0_ n1_ n2_ n3_ n4_ n5_; (try clear hb); (try clear hb2); (try clear hk); (try clear hi)))
                                   go_meet
                                   case rel => exact ⟨_, (!t314), (by first | rfl | (simp; done) | (simp [*]; done)), H', ⟨by have := HK1.out; have := HK2.out; have := HJ15.out; have := HJ21.out; have := HJ32.out; have := HK6.out; have := HJ95.out; have := HK8.out; first | omega | exact Nat.le_refl _⟩, ⟨by (try simp only [hl3_2]); (try simp only [hl3_6]); (with_reducible repeat (first | apply Kd.R_alloc | apply Kd.R_drewN | apply Kd.R_drew)); exact HO_3.out⟩, ⟨by (try simp only [hl3_2]); (try simp only [hl3_6]); (with_reducible repeat (first | apply Kd.R_alloc | apply Kd.R_drewN | apply Kd.R_drew)); exact HO_5.out⟩, ⟨by (try simp only [hl3_2]); (try simp only [hl3_6]); (with_reducible repeat (first | refine blk_drewN ?_ _ | refine blk_drew ?_ | refine blk_alloc ?_ _)); exact BK279.out⟩, ⟨by repeat (first | (with_reducible exact HR301.out) | (with_reducible refine Kd.C_alloc ?_ _) | (with_reducible refine Kd.C_drewN ?_ _) | (with_reducible refine Kd.C_drew ?_) | exact HR301.out)⟩, ⟨by repeat (first | (with_reducible exact (Kd.R_reads' HO_3.out).2.2) | (with_reducible refine Kd.C_alloc ?_ _) | (with_reducible refine Kd.C_drewN ?_ _) | (with_reducible refine Kd.C_drew ?_) | exact (Kd.R_reads' HO_3.out).2.2)⟩, ⟨by repeat (first | (with_reducible first | exact HB.out | apply below_alloc | apply pw_below_drewN | apply below_drew1 | refine below_set ?_ GE279.out) | exact HB.out)⟩⟩
                                  ·
                                   replace c116 := Bool.eq_false_iff.mpr c116
                                   subst c116
                                   have H1 : (quittancelaw04_SheafTorn.j8 k8 l0 x3_6 y295 x6_2 x20_8 false) = some r := by rw [if_neg (show ¬ (false = true) by decide)] at H; exact H
                                   clear H
                                   have H := H1
                                   clear H1
                                   have H' := Aside0.mk H
                                   clear H
                                   go_wp2
                                   go_meet
                                   case rel => exact ⟨_, (false), (by first | rfl | (simp; done) | (simp [*]; done)), H', ⟨by have := HK1.out; have := HK2.out; have := HJ15.out; have := HJ21.out; have := HJ32.out; have := HK6.out; have := HJ95.out; have := HK8.out; first | omega | exact Nat.le_refl _⟩, ⟨by (try simp only [hl3_2]); (try simp only [hl3_6]); (with_reducible repeat (first | apply Kd.R_alloc | apply Kd.R_drewN | apply Kd.R_drew)); exact HO_3.out⟩, ⟨by (try simp only [hl3_2]); (try simp only [hl3_6]); (with_reducible repeat (first | apply Kd.R_alloc | apply Kd.R_drewN | apply Kd.R_drew)); exact HO_5.out⟩, ⟨by (try simp only [hl3_2]); (try simp only [hl3_6]); (with_reducible repeat (first | refine blk_drewN ?_ _ | refine blk_drew ?_ | refine blk_alloc ?_ _)); exact BK279.out⟩, ⟨by repeat (first | (with_reducible exact HR301.out) | (with_reducible refine Kd.C_alloc ?_ _) | (with_reducible refine Kd.C_drewN ?_ _) | (with_reducible refine Kd.C_drew ?_) | exact HR301.out)⟩, ⟨by repeat (first | (with_reducible exact (Kd.R_reads' HO_3.out).2.2) | (with_reducible refine Kd.C_alloc ?_ _) | (with_reducible refine Kd.C_drewN ?_ _) | (with_reducible refine Kd.C_drew ?_) | exact (Kd.R_reads' HO_3.out).2.2)⟩, ⟨by repeat (first | (with_reducible first | exact HB.out | apply below_alloc | apply pw_below_drewN | apply below_drew1 | refine below_set ?_ GE279.out) | exact HB.out)⟩⟩
                                 case rest => as_aux_lemma =>
                                  clear HC113
                                  try clear c1
                                  try clear q1
                                  try clear c2
                                  try clear p2
                                  try clear q2
                                  try clear hx2
                                  try clear c4
                                  try clear p6
                                  try clear c7
                                  try clear p7
                                  try clear q7
                                  try clear hx7
                                  try clear hf7
                                  try clear c8
                                  try clear c9
                                  try clear c10
                                  try clear q10
                                  try clear c11
                                  try clear q11
                                  try clear c14
                                  try clear c27
                                  try clear p29
                                  try clear q29
                                  try clear hx29
                                  try clear c41
                                  try clear c41b0
                                  try clear p64
                                  try clear c70
                                  try clear c71
                                  try clear c71b0
                                  try clear c71b1
                                  try clear c72
                                  try clear c73
                                  try clear c75
                                  try clear c76
                                  try clear c77
                                  try clear c78
                                  try clear p79
                                  try clear q79
                                  try clear hx79
                                  try clear hf79
                                  try clear c80
                                  try clear c91
                                  try clear c93
                                  try clear c93b0
                                  try clear c93b1
                                  try clear c94
                                  try clear c94b0
                                  try clear c94b1
                                  try clear c100
                                  try clear q100
                                  try clear c102
                                  try clear c103
                                  try clear c104
                                  try clear c104b0
                                  try clear c104b1
                                  try clear c105
                                  try clear c105b0
                                  try clear c105b1
                                  try clear c108
                                  try clear c109
                                  try clear c109b0
                                  try clear c110
                                  try clear c110b0
                                  try clear c110b1
                                  try clear c111
                                  try clear c111b0
                                  try clear c111b1
                                  try clear c114
                                  try clear q114
                                  try clear c116
                                  try clear hcz106_0
                                  try clear hcz106_1
                                  try clear hcz106_2
                                  try clear hcz106_3
                                  try clear hcz107_0
                                  try clear hcz107_1
                                  try clear hcz107_2
                                  try clear hcz107_3
                                  try clear hcz86_0
                                  try clear hcz86_1
                                  try clear hcz86_2
                                  try clear hcz86_3
                                  try clear hcz90_0
                                  try clear hcz90_1
                                  try clear hcz90_2
                                  try clear hcz90_3
                                  try clear hcz98_0
                                  try clear hcz98_1
                                  try clear hcz98_2
                                  try clear hcz98_3
                                  try clear hfz106_0
                                  try clear hfz106_1
                                  try clear hfz106_2
                                  try clear hfz106_3
                                  try clear hfz107_0
                                  try clear hfz107_1
                                  try clear hfz107_2
                                  try clear hfz107_3
                                  try clear hfz86_0
                                  try clear hfz86_1
                                  try clear hfz86_2
                                  try clear hfz86_3
                                  try clear hfz90_0
                                  try clear hfz90_1
                                  try clear hfz90_2
                                  try clear hfz90_3
                                  try clear hfz98_0
                                  try clear hfz98_1
                                  try clear hfz98_2
                                  try clear hfz98_3
                                  try clear hx291_0
                                  try clear hx292_0
                                  try clear hx293_0
                                  try clear hx79_0
                                  try clear p2
                                  try clear p29
                                  try clear p291
                                  try clear p292
                                  try clear p293
                                  try clear p6
                                  try clear p64
                                  try clear p7
                                  try clear p79
                                  try clear q0100
                                  try clear q0114
                                  try clear q1
                                  try clear q10
                                  try clear q100
                                  try clear q114
                                  try clear q2
                                  try clear q29
                                  try clear q291
                                  try clear q292
                                  try clear q293
                                  try clear q7
                                  try clear q79
                                  obtain ⟨kq, x214_112, rfl, HA, HJ112, HO_3, HO_5, BK279, HR301, HR309, HB⟩ := hcut
                                  cases kq with
                                  | zero => exact absurd HA.out (by simp [quittancelaw04_SheafTorn.j8])
                                  | succ kj112 =>
                                   have H := HA.out
                                   clear HA
                                   simp only [quittancelaw04_SheafTorn.j8] at H
                                   by_cases c120 : x214_112 = true
                                   ·
                                    subst c120
                                    have H1 : (some false) = some r := by rw [if_pos rfl] at H; exact H
                                    clear H
                                    have H := H1
                                    clear H1
                                    exact absurd ((Option.some.inj H).trans hr) (by decide)
                                   ·
                                    replace c120 := Bool.eq_false_iff.mpr c120
                                    subst c120
                                    have H1 : (if 0 ≤ x20_8 then (if x20_8 < (x3_6.length : Int) then ((leaf_Ends.f (rdOf ByteArray.empty x3_6 x20_8)).bind fun bt316 => (if bt316.1 < bt316.2 then (some false) else (quittancelaw04_SheafTorn.l3 kj112 l0 x3_6 y295 x6_2 (wrap64 (x20_8 + 1))))) else (none)) else (none)) = some r := by rw [if_neg (show ¬ (false = true) by decide)] at H; exact H
                                    clear H
                                    have H := H1
                                    clear H1
                                    by_cases c121 : 0 ≤ x20_8
                                    ·
                                     rw [if_pos c121] at H
                                     have c121b0 : decide (0 ≤ x20_8) = true := decide_eq_true c121
                                     clear c121
                                     by_cases c122 : x20_8 < (x3_6.length : Int)
                                     ·
                                      rw [if_pos c122] at H
                                      have c122b0 : decide (x20_8 < (x3_6.length : Int)) = true := decide_eq_true c122
                                      clear c122
                                      replace H := Option.bind_eq_some_iff.mp H
                                      obtain ⟨⟨t316, t317⟩, A1230, H⟩ := H
                                      replace H : (if t316 < t317 then (some false) else (quittancelaw04_SheafTorn.l3 kj112 l0 x3_6 y295 x6_2 (wrap64 (x20_8 + 1)))) = some r := H
                                      have A123 := Aside0.mk A1230
                                      clear A1230
                                      by_cases c124 : t316 < t317
                                      ·
                                       rw [if_pos c124] at H
                                       have c124b0 : decide (t316 < t317) = true := decide_eq_true c124
                                       clear c124
                                       exact absurd ((Option.some.inj H).trans hr) (by decide)









                                      ·
                                       rw [if_neg c124] at H
                                       have c124b0 : decide (t316 < t317) = false := decide_eq_false c124
                                       clear c124
                                       have H' := Aside0.mk H
                                       clear H
                                       have p315 : 0 ≤ (x20_8 : Int) := of_decide_eq_true (by first | (with_reducible assumption) | assumption)
                                       have q315 : x20_8 < (x3_6.length : Int) := of_decide_eq_true (by first | (with_reducible assumption) | assumption)
                                       obtain ⟨ad315, e315, hx315_0⟩ := Kd.at_string (Kd.R_reads' HO_3.out).2.2 x20_8 p315 q315
                                       cases e315
                                       replace p315 := eq_true p315
                                       replace q315 := eq_true q315
                                       go_wp2_with (first | ((with_reducible refine gate_callee (f := 19) rfl ?_); refine goesL_ (some 220) rfl rfl Try.func19 (by kernel_rfl) rfl #[.string (rdOf ByteArray.empty x3_6 x20_8)] rfl (by (try simp only [List.map_toArray, List.map_cons, List.map_nil]); first | done | rfl | (simp only [List.length_drop, List.length_take]; rfl)) ?_; (with_reducible refine (leaf_Ends.calls (rdOf ByteArray.empty x3_6 x20_8) t316 t317 _ A123.out).mono ?_); rintro e w126 ⟨rfl, hb⟩; refine ⟨_, rfl, ?_⟩; have n0_ := Aside0.mk (Kd.R_below (by (with_reducible repeat (first | apply Kd.R_alloc | apply Kd.R_drewN | apply Kd.R_drew)); exact HO_3.out) hb); have n1_ := Aside0.mk (Kd.R_below (by (with_reducible repeat (first | apply Kd.R_alloc | apply Kd.R_drewN | apply Kd.R_drew)); exact HO_5.out) hb); have n2_ := Aside0.mk (blk_below (g := gb279) (o := .cells #[.int .u8 ((rd_T44 l0 x6_2).f0), .int .u16 ((rd_T44 l0 x6_2).f1), .string ((rd_T44 l0 x6_2).f2), .slice A278_3 ((rd_T44 l0 x6_2).f3).length c278_3] 44 (0, 0)) (by (with_reducible repeat (first | refine blk_drewN ?_ _ | refine blk_drew ?_ | refine blk_alloc ?_ _)); exact BK279.out) hb); have n3_ := Aside0.mk (Kd.C_below (by repeat (first | (with_reducible exact HR301.out) | (with_reducible refine Kd.C_alloc ?_ _) | (with_reducible refine Kd.C_drewN ?_ _) | (with_reducible refine Kd.C_drew ?_) | exact HR301.out)) hb); have n4_ := Aside0.mk (Kd.C_below (by repeat (first | (with_reducible exact HR309.out) | (with_reducible refine Kd.C_alloc ?_ _) | (with_reducible refine Kd.C_drewN ?_ _) | (with_reducible refine Kd.C_drew ?_) | exact HR309.out)) hb); have n5_ := Aside0.mk (below_step (by repeat (first | (with_reducible first | exact HB.out | apply below_alloc | apply pw_below_drewN | apply below_drew1 | refine below_set ?_ GE279.out) | exact HB.out)) hb); clear HO_3; clear HO_5; clear BK279; clear HR301; clear HR309; clear HB; have HO_3 := n0_; have HO_5 := n1_; have BK279 := n2_; have HR301 := n3_; have HR309 := n4_; have HB := n5_; clear n0_ n1_ n2_ n3_ n4_ n5_; (try clear hb); (try clear hb2); (try clear hk); (try clear hi)))
                                       go_roundg kj112
                                       case measure => have := HK1.out; have := HK2.out; have := HJ15.out; have := HJ21.out; have := HJ32.out; have := HK6.out; have := HJ95.out; have := HK8.out; have := HJ112.out; omega
                                       case rel => exact ⟨(wrap64 (x20_8 + 1)), (by first | rfl | (simp; done) | (simp [*]; done)), H', ⟨by have := HK1.out; have := HK2.out; have := HJ15.out; have := HJ21.out; have := HJ32.out; have := HK6.out; have := HJ95.out; have := HK8.out; have := HJ112.out; omega⟩, ⟨by (try simp only [hl3_2]); (try simp only [hl3_6]); (with_reducible repeat (first | apply Kd.R_alloc | apply Kd.R_drewN | apply Kd.R_drew)); exact HO_3.out⟩, ⟨by (try simp only [hl3_2]); (try simp only [hl3_6]); (with_reducible repeat (first | apply Kd.R_alloc | apply Kd.R_drewN | apply Kd.R_drew)); exact HO_5.out⟩, ⟨by (try simp only [hl3_2]); (try simp only [hl3_6]); (with_reducible repeat (first | refine blk_drewN ?_ _ | refine blk_drew ?_ | refine blk_alloc ?_ _)); exact BK279.out⟩, ⟨by repeat (first | (with_reducible exact HR301.out) | (with_reducible refine Kd.C_alloc ?_ _) | (with_reducible refine Kd.C_drewN ?_ _) | (with_reducible refine Kd.C_drew ?_) | exact HR301.out)⟩, ⟨by repeat (first | (with_reducible first | exact HB.out | apply below_alloc | apply pw_below_drewN | apply below_drew1 | refine below_set ?_ GE279.out) | exact HB.out)⟩⟩
                                     ·
                                      rw [if_neg c122] at H
                                      exact absurd H (by simp)
                                    ·
                                     rw [if_neg c121] at H
                                     exact absurd H (by simp)
                                ·
                                 rw [if_neg c111] at H
                                 exact absurd H (by simp)
                               ·
                                rw [if_neg c110] at H
                                exact absurd H (by simp)
                              ·
                               rw [if_neg c109] at H
                               have c109b0 : decide (x20_8 < (x3_6.length : Int)) = false := decide_eq_false c109
                               clear c109
                               have H' := Aside0.mk H
                               clear H
                               go_wp2
                               (try simp only [← hl3_2, ← hl3_6])
                               go_roundg k8
                               case measure => have := HK1.out; have := HK2.out; have := HJ15.out; have := HJ21.out; have := HJ32.out; have := HK6.out; have := HJ95.out; have := HK8.out; omega
                               case rel => exact ⟨(x3_6), (y295), (wrap64 (x6_2 + 1)), (by first | rfl | (simp; done) | (simp [*]; done)), H', ⟨by have := HK1.out; have := HK2.out; have := HJ15.out; have := HJ21.out; have := HJ32.out; have := HK6.out; have := HJ95.out; have := HK8.out; omega⟩, ⟨by (try simp only [hl3_2]); (try simp only [hl3_6]); (with_reducible repeat (first | apply Kd.R_alloc | apply Kd.R_drewN | apply Kd.R_drew)); exact HO_3.out⟩, ⟨by (try simp only [hl3_2]); (try simp only [hl3_6]); (with_reducible repeat (first | apply Kd.R_alloc | apply Kd.R_drewN | apply Kd.R_drew)); exact HO_5.out⟩, ⟨by repeat (first | (with_reducible first | exact HB.out | apply below_alloc | apply pw_below_drewN | apply below_drew1 | refine below_set ?_ GE279.out) | exact HB.out)⟩⟩
                        ·
                         rw [if_neg c94] at H
                         exact absurd H (by simp)
                       ·
                        rw [if_neg c93] at H
                        exact absurd H (by simp)
                      ·
                       rw [if_neg c91] at H
                       exact absurd H (by simp)
           ·
            rw [if_neg c20] at H
            exact absurd H (by simp)
          ·
           rw [if_neg c19] at H
           exact absurd H (by simp)
         ·
          replace c18 := Bool.eq_false_iff.mpr c18
          subst c18
          have H1 : ((quittancelaw04_head.f kj15).bind fun t277 => (some t277)) = some r := by rw [if_neg (show ¬ (false = true) by decide)] at H; exact H
          clear H
          have H := H1
          clear H1
          replace H := Option.bind_eq_some_iff.mp H
          obtain ⟨t277, A1270, H⟩ := H
          replace H : (some t277) = some r := H
          have A127 := Aside0.mk A1270
          clear A1270
          obtain rfl := Option.some.inj H
          go_wp2_with (first | ((with_reducible refine gate_callee (f := 7) rfl ?_); refine goesL_ (some 226) rfl rfl Try.func7 (by kernel_rfl) rfl #[] rfl (by (try simp only [List.map_toArray, List.map_cons, List.map_nil]); first | done | rfl | (simp only [List.length_drop, List.length_take]; rfl)) ?_; (with_reducible refine (quittancelaw04_head.calls kj15  t277 _ A127.out hr).mono ?_); rintro e w128 ⟨rfl, hb⟩; refine ⟨_, rfl, ?_⟩; have n0_ := Aside0.mk (Kd.R_below (by (with_reducible repeat (first | apply Kd.R_alloc | apply Kd.R_drewN | apply Kd.R_drew)); exact HO_3.out) hb); have n1_ := Aside0.mk (Kd.R_below (by (with_reducible repeat (first | apply Kd.R_alloc | apply Kd.R_drewN | apply Kd.R_drew)); exact HO_5.out) hb); have n2_ := Aside0.mk (below_step (by repeat (first | (with_reducible first | exact HB.out | apply below_alloc | apply pw_below_drewN | apply below_drew1) | exact HB.out)) hb); clear HO_3; clear HO_5; clear HB; have HO_3 := n0_; have HO_5 := n1_; have HB := n2_; clear n0_ n1_ n2_; (try clear hb); (try clear hb2); (try clear hk); (try clear hi)))
          go_ret
          exact ⟨by first | rfl | (simp [errW_none, errW_some] <;> rfl) | (simp [*, errW_none, errW_some] <;> rfl), by repeat (first | (with_reducible first | exact HB.out | apply below_alloc | apply pw_below_drewN | apply below_drew1) | exact HB.out)⟩
 ·
  rw [if_neg c2] at H
  exact absurd H (by simp)

end Go.Proofs.Ytknmbhllinbcjaa.Q
