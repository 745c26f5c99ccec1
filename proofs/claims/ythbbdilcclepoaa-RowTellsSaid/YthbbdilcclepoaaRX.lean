import Derived.Test.YthbbdilcclepoaaR3
import Derived.Test.YthbbdilcclepoaaRT
import Derived.Test.YthbbdilcclepoaaRB
import Derived.KernelRfl
import Derived.Test.YthbbdilcclepoaaR9
/- A row is not opened: no drive; sectors that are not there. -/
set_option maxRecDepth 100000
set_option linter.unusedVariables false
set_option linter.unusedSimpArgs false
namespace Go.Proofs.Ythbbdilcclepoaa
open Go Go.RowKit Go.Proofs.Ythbbdilcclepoaa.Q Go.Proofs.Ythbbdilcclepoaa.Pure Go.Proofs.YthbbdilcclepoaaW.PrintWords Go.Proofs.YthbbdilcclepoaaW.PrintLast Go.Proofs.YthbbdilcclepoaaW.PrintMore
attribute [local go_sem] Oper.semAt_some max2_int min2_int max_two min_two max_three min_three max_four min_four
theorem Open_nil (w : World) (a b : Int) : Calls Try.prog 8 #[.pointer none, .int .i64 a, .int .i64 b] w fun e w' => e = .returned (.tuple #[.pointer none, .int .i64 1]) ∧ w' = w := by
  go_enter Try.func8, Try.ntmps8
  go_wp2_with fail
  go_step3
  go_wp2_with (go_at_call 21; refine (Size_nil _).mono ?_; rintro e w' ⟨rfl, rfl⟩)
  try rw [Exit.noGoto_ret]
  go_ret2
  exact ⟨rfl, rfl⟩
theorem Open_no {w0 w : World} {l : List (Nat × DS)} {F : List Nat} {i D : Nat} {s : DS} (h : Dr w0 w l F) (hi : l[i]? = some (D, s)) (a b : Int) (hl : 0 < s.now.length ∧ s.now.length ≤ 4096) (hno : a < 0 ∨ b < 1 ∨ (s.now.length : Int) < a ∨ (s.now.length : Int) - a < b) :
    Calls Try.prog 8 #[ptr D, .int .i64 a, .int .i64 b] w fun e w' => e = .returned (.tuple #[.pointer none, .int .i64 2]) ∧ w' = w := by
  have HS := hid (h.size hi)
  have c0 : ((s.now.length : Int) == 0) = false := by rw [beq_eq_false_iff_ne]; omega
  obtain ⟨N, hN⟩ : ∃ N, N = s.now.length := ⟨_, rfl⟩
  rw [← hN] at HS c0 hl hno
  unfold ptr at *
  clear h hi hN
  have HNO := hid hno
  have HLL := hid hl
  by_cases c1 : a < 0
  · have d1 : decide (a < 0) = true := decide_eq_true c1
    clear hno hl
    go_enter Try.func8, Try.ntmps8
    go_wp2_with fail
    go_step3
    go_wp2_with (go_at_call 21; refine HS.out.mono ?_; rintro e w' ⟨rfl, rfl⟩)
    try rw [Exit.noGoto_ret]
    go_ret2
    exact ⟨rfl, rfl⟩
  · have d1 : decide (a < 0) = false := decide_eq_false c1
    by_cases c2 : b < 1
    · have d2 : decide (b < 1) = true := decide_eq_true c2
      clear hno hl
      go_enter Try.func8, Try.ntmps8
      go_wp2_with fail
      go_step3
      go_wp2_with (go_at_call 21; refine HS.out.mono ?_; rintro e w' ⟨rfl, rfl⟩)
      try rw [Exit.noGoto_ret]
      go_ret2
      exact ⟨rfl, rfl⟩
    · have d2 : decide (b < 1) = false := decide_eq_false c2
      by_cases c3 : (N : Int) < a
      · have d3 : decide ((N : Int) < a) = true := decide_eq_true c3
        clear hno hl
        go_enter Try.func8, Try.ntmps8
        go_wp2_with fail
        go_step3
        go_wp2_with (go_at_call 21; refine HS.out.mono ?_; rintro e w' ⟨rfl, rfl⟩)
        try rw [Exit.noGoto_ret]
        go_ret2
        exact ⟨rfl, rfl⟩
      · have d3 : decide ((N : Int) < a) = false := decide_eq_false c3
        have c4 : (N : Int) - a < b := by rcases hno with h | h | h | h <;> first | exact absurd h c1 | exact absurd h c2 | exact absurd h c3 | exact h
        have d4 : decide ((N : Int) - a < b) = true := decide_eq_true c4
        have hb1 : 0 ≤ a := by omega
        have hb2 : a ≤ 4096 := by omega
        have hb3 : N ≤ 4096 := hl.2
        clear hno hl c4
        go_enter Try.func8, Try.ntmps8
        go_wp2_with fail
        go_step3
        go_wp2_with (go_at_call 21; refine HS.out.mono ?_; rintro e w' ⟨rfl, rfl⟩)
        try rw [Exit.noGoto_ret]
        go_ret2
        exact ⟨rfl, rfl⟩
end Go.Proofs.Ythbbdilcclepoaa

/- Chapter 05: is, by walking it. -/
set_option maxRecDepth 100000
set_option linter.unusedVariables false
set_option linter.unusedSimpArgs false
namespace Go.Proofs.Ythbbdilcclepoaa
open Go Go.RowKit Go.Proofs.Ythbbdilcclepoaa.Q Go.Proofs.Ythbbdilcclepoaa.Pure Go.Proofs.YthbbdilcclepoaaW.PrintWords Go.Proofs.YthbbdilcclepoaaW.PrintLast Go.Proofs.YthbbdilcclepoaaW.PrintMore
attribute [local go_sem] Oper.semAt_some max2_int min2_int max_two min_two max_three min_three max_four min_four
section
variable {w0 w : World} {l : List (Nat × DS)} {F : List Nat} {i D : Nat} {s : DS} {R : Nat} {tv : Value} {r : RS}
set_option maxHeartbeats 2000000 in
theorem is_calls (h : Rw w0 w l F i D s R tv r) (hF : Fit s r) (hmn : r.mn ≤ 30) (q : List ByteArray) (hq : q = rowSec s r.fr r.mn) (A : Option Addr) (c : Nat) (hr : Kd.C Kd.string w A q.length q) (hc : q.length ≤ c) :
    Calls Try.prog 11 #[ptr R, ptr D, .int .i64 (r.fr : Int), .slice A q.length c] w fun e w' => e = .returned (.bool true) ∧ Only [] w w' := by
  have hql : q.length = r.mn := by rw [hq, rowSec_len]
  have HRW := hid h
  have HR := hid hr
  have HCC := hid hc
  have HQ := hid hq
  have HFIT := hid hF
  obtain ⟨K, hK⟩ : ∃ K, 8000 ≤ K := ⟨8000, Nat.le_refl _⟩
  have HTX := hid (RTexts_f K q (by omega) (by omega))
  have HTP := hid (RTop_nat K q (by omega) (by omega))
  have HSM := hid (Same_f K (rowT q).texts (by have h1 := (rowT_ok q).texts; have h2 := (rowT_ok q).en; omega) (by have h1 := (rowT_ok q).texts; have h2 := (rowT_ok q).en; omega))
  have HQL := hid hql
  have hfr : r.fr + r.mn ≤ 4096 := h.row.lay.1
  obtain ⟨T, hT⟩ : ∃ T, T = rowT q := ⟨_, rfl⟩
  rw [← hT] at HTX HSM
  have HT := hid hT
  have hten : T.en ≤ q.length := by rw [hT]; exact (rowT_ok q).en
  have HC22 := hid (fun W (ho : Only [] w W) => by
    have h2 := Row_Texts (h.new ho).row
    rw [hF.texts, ← hq, ← hT] at h2
    exact h2)
  have HC27 := hid (fun W (ho : Only [] w W) => by
    have h2 := Row_First (h.new ho).row
    rw [hF.first, ← hq, ← hT] at h2
    exact h2)
  have HC35 := hid (fun W (ho : Only [] w W) => by
    have h2 := Row_End (h.new ho).row
    rw [hF.en, ← hq, ← hT] at h2
    exact h2)
  have HC36 := hid (fun W (ho : Only [] w W) => by
    have h2 := Row_Room (h.new ho).row
    rw [hF.en, ← hq, ← hT, ← hql, show ((q.length - T.en : Nat) : Int) = (q.length : Int) - (T.en : Int) by omega] at h2
    exact h2)
  have HC23 := hid (fun W (ho : Only [] w W) => by
    have h2 := Row_Top (h.new ho).row
    rw [hF.top, ← hq] at h2
    exact h2)
  unfold ptr at *
  have hqb : q.length ≤ 30 := by omega
  clear h hF hq hr hc hT hK hql
  go_enter Try.func11, Try.ntmps11
  go_wp2_with (go_at_call 16; refine (quittanceref05_Texts.calls K A c q _ _ _ w HR.out HCC.out HTX.out).mono ?_; rintro e w1 ⟨vt, rfl, hRt, hb⟩; have HRT := hid (R_own_str hRt); have HB1 := hid (Only.of_below (fp := []) hb); clear hRt hb)
  obtain ⟨AT, cT, hvt, hcT, hCT⟩ := own_C_str HRT.out
  subst hvt
  have HCT := hid hCT
  have HCTc := hid hcT
  clear hcT hCT
  go_loopw [12] (fun v wr => ∃ j : Nat, v = .int .i64 (j : Int) ∧ Aside0 (j ≤ q.length) ∧ Aside0 (wr = w1)) (fun v _ => q.length - (intOf v).toNat)
  case atStart => exact ⟨0, rfl, ⟨Nat.zero_le _⟩, ⟨rfl⟩⟩
  case round =>
    obtain ⟨j, rfl, HJ, ⟨rfl⟩⟩ := hrel
    by_cases c1 : j < q.length
    · have d1 : decide ((j : Int) < (q.length : Int)) = true := decide_eq_true (by omega)
      have d2 : decide (j < q.length) = true := decide_eq_true c1
      obtain ⟨x, hx⟩ : ∃ x, q[j]? = some x := ⟨_, List.getElem?_eq_getElem c1⟩
      have hjm : j < r.mn := by have := HQL.out; omega
      have hxr : x = readS s ((r.fr : Int) + (j : Int)) := by
        have h2 := hx
        rw [HQ.out] at h2
        unfold rowSec at h2
        rw [List.getElem?_map, List.getElem?_range hjm] at h2
        have h3 := Option.some.inj h2
        rw [← h3]
        show readS s ((r.fr + j : Nat) : Int) = _
        rw [Int.natCast_add]
      have hcell : ∃ ad, A = some ad ∧ wr.cell? (ad.add j) = some (.string x) := by
        obtain ⟨ad, cs, e1, -, hK, hcs⟩ := Kd.C_get (Kd.C_below HR.out (HB1.out.below (Nat.le_refl _) (by simp))) ByteArray.empty (j : Int) (by omega) (by omega)
        rw [Int.toNat_natCast] at hK hcs
        have hK' : cs = [.string x] := by
          have : cs = [.string (q.getD j ByteArray.empty)] := hK
          rw [this, List.getD_eq_getElem?_getD, hx]; rfl
        exact ⟨ad, e1, by have h5 := hcs 0 (.string x) (by rw [hK']; rfl); rw [show j * Kd.string.sz + 0 = j from by show j * 1 + 0 = j; omega] at h5; exact h5⟩
      obtain ⟨ad, rfl, hc0⟩ := hcell
      have hasz : hasE s.now.length ((r.fr : Int) + (j : Int)) = 0 := by
        have := HFIT.out.lay
        unfold hasE
        rw [if_pos (by omega)]
      have HRD := hid ((HRW.out.new HB1.out).dr.read HRW.out.hi ((r.fr : Int) + (j : Int)))
      rw [hasz, ← hxr] at HRD
      have p1 : (0 ≤ (j : Int)) = True := eq_true (by omega)
      have p2 : ((j : Int) < (q.length : Int)) = True := eq_true (by omega)
      have C1 := hid c1
      unfold ptr at HRD
      have hb9 : r.fr + j ≤ 4096 := by omega
      clear c1 hx hxr hasz hjm
      go_wp2_with (go_at_call 10; refine HRD.out.mono ?_; rintro e w3 ⟨rfl, rfl⟩)
      go_roundw
      case rel => exact ⟨j + 1, by go_num, ⟨by have := C1.out; omega⟩, ⟨trivial⟩⟩
      case measure => simp [intOf]; have := C1.out; omega
    · have d1 : decide ((j : Int) < (q.length : Int)) = false := decide_eq_false (by omega)
      have d2 : decide (j < q.length) = false := decide_eq_false c1
      clear c1
      go_wp2_with (first | (go_at_call 22; refine (HC22.out wr HB1.out).mono ?_; rintro e w2 ⟨vr, rfl, hown, ho⟩; obtain ⟨AR, cR, hvr, hcR, hCR⟩ := own_C_str hown; subst hvr; have HCR := hid (And.intro hcR hCR); have HB2 := hid (HB1.out.trans ho (fun _ h _ => h)); have HCT2 := hid (Kd.C_below HCT.out (ho.below (Nat.le_refl _) (by simp))); clear hown ho hcR hCR) | (go_at_call 28; refine (quittanceref01_Same.calls K AR cR T.texts AT cT T.texts true w2 HCR.out.2 HCR.out.1 HCT2.out HCTc.out HSM.out).mono ?_; rintro e w3 ⟨rfl, hd⟩; have HB3 := hid (show Only [] w w3 by (obtain ⟨m1, e1⟩ := hd; rw [e1]; exact HB2.out.trans (Only.drewN _ _ _) (fun _ h _ => h))); clear hd) | (go_at_call 27; refine (HC27.out w3 HB3.out).mono ?_; rintro e w4 ⟨rfl, rfl⟩) | (go_at_call 35; refine (HC35.out w4 HB3.out).mono ?_; rintro e w5 ⟨rfl, rfl⟩) | (go_at_call 36; refine (HC36.out w5 HB3.out).mono ?_; rintro e w6 ⟨rfl, ho⟩; have HB6 := hid (HB3.out.trans ho (fun _ h _ => h)); clear ho) | (go_at_call 23; refine (HC23.out w6 HB6.out).mono ?_; rintro e w7 ⟨rfl, rfl⟩) | (go_at_call 15; refine (quittanceref04_Top.calls K A c q _ w7 (Kd.C_below HR.out (HB6.out.below (Nat.le_refl _) (by simp))) HCC.out HTP.out).mono ?_; rintro e w8 ⟨rfl, hd⟩; have HB8 := hid (show Only [] w w8 by (obtain ⟨m1, e1⟩ := hd; rw [e1]; exact HB6.out.trans (Only.drewN _ _ _) (fun _ h _ => h))); clear hd))
      go_ret
      exact ⟨rfl, HB8.out⟩
end
end Go.Proofs.Ythbbdilcclepoaa

/- Chapter 05: head's states, plain. -/
set_option maxRecDepth 100000
set_option linter.unusedVariables false
set_option linter.unusedSimpArgs false
namespace Go.Proofs.Ythbbdilcclepoaa
open Go Go.RowKit Go.Proofs.Ythbbdilcclepoaa.Q Go.Proofs.Ythbbdilcclepoaa.Pure Go.Proofs.YthbbdilcclepoaaW.PrintWords Go.Proofs.YthbbdilcclepoaaW.PrintLast Go.Proofs.YthbbdilcclepoaaW.PrintMore
theorem getP_zeros (n : Nat) : getP (List.replicate n zB) = none := by
  cases hg : getP (List.replicate n zB) with
  | none => rfl
  | some p =>
    obtain ⟨b, r, hb, hh⟩ := getP_hd (n := p.1) (S := p.2) hg
    have h0 := (getP_some (n := p.1) (S := p.2) hg).1
    have hm : b ∈ List.replicate n zB := by rw [hb]; simp
    rw [List.eq_of_mem_replicate hm] at hh
    have hz : hd zB = 0 := by kernel_rfl
    omega
theorem rowT_zeros (n : Nat) : rowT (List.replicate n zB) = st0 := by
  show openL _ st0 = _
  exact openL_none (st := st0) (by show getP ((List.replicate n zB).drop 0) = none; rw [List.drop_zero]; exact getP_zeros n)
theorem topL_zeros (n : Nat) : topL (List.replicate n zB) 0 = 0 := by
  have hz : hd zB = 0 := by kernel_rfl
  refine Nat.le_antisymm (topL_le _ 0 0 (Nat.le_refl _) (fun b hb => by rw [List.eq_of_mem_replicate hb, hz]; exact Nat.le_refl _)) (Nat.zero_le _)
theorem rowSec_new (N fr mn : Nat) (h : fr + mn ≤ N) : rowSec (newS N) fr mn = List.replicate mn zB := by
  rw [rowSec_eq _ _ _ (by show _ ≤ (List.replicate N z64).length; rw [List.length_replicate]; exact h)]
  show (((List.replicate N z64).drop fr).take mn).map B = _
  rw [List.drop_replicate, List.take_replicate, List.map_replicate, Nat.min_eq_left (by omega)]
  rfl
theorem openRS_new (N fr mn : Nat) (h : fr + mn ≤ N) : openRS (newS N) fr mn = ⟨fr, mn, [], 0, 0, 0, false⟩ := by
  unfold openRS
  rw [rowSec_new N fr mn h, rowT_zeros, topL_zeros]
  rfl
def tA : ByteArray := ⟨#[97]⟩
def tB : ByteArray := ⟨#[98]⟩
def tC : ByteArray := ⟨#[99]⟩
def t50 : ByteArray := B (List.replicate 50 0)
def rh0 : RS := ⟨2, 4, [], 0, 0, 0, false⟩
def rhA : ActR := addR (newS 8) rh0 1 tA
def rhB : ActR := addR rhA.s rhA.r 2 t50
def rhC : ActR := addR rhB.s rhB.r 2 tB
def rhD : ActR := addR rhC.s rhC.r 3 t50
def rhE : ActR := beginR rhD.s rhD.r 9 tC
theorem head_e : rhA.e = 0 ∧ rhB.e = 0 ∧ rhC.e = 2 ∧ rhD.e = 6 ∧ rhE.e = 0 := ⟨by kernel_rfl, by kernel_rfl, by kernel_rfl, by kernel_rfl, by kernel_rfl⟩
theorem head_B : rhB.r.texts = [tA, t50] ∧ rhB.r.en = 3 ∧ rhB.r.mn = 4 := ⟨by kernel_rfl, by kernel_rfl, by kernel_rfl⟩
theorem head_E : rhE.r.texts = [tC] ∧ rhE.r.en = 1 ∧ rhE.r.first = 9 ∧ rhE.r.top = 9 := ⟨by kernel_rfl, by kernel_rfl, by kernel_rfl, by kernel_rfl⟩
theorem head_o : rhA.s.opn.length = 1 ∧ rhB.s.opn.length = 3 ∧ rhC.s.opn.length = 3 ∧ rhD.s.opn.length = 3 := ⟨by kernel_rfl, by kernel_rfl, by kernel_rfl, by kernel_rfl⟩
end Go.Proofs.Ythbbdilcclepoaa

/- A row, and a slice of texts that was told beside it. -/
set_option maxRecDepth 100000
set_option linter.unusedVariables false
set_option linter.unusedSimpArgs false
namespace Go.Proofs.Ythbbdilcclepoaa
open Go Go.RowKit Go.Proofs.Ythbbdilcclepoaa.Q Go.Proofs.Ythbbdilcclepoaa.Pure Go.Proofs.YthbbdilcclepoaaW.PrintWords Go.Proofs.YthbbdilcclepoaaW.PrintLast Go.Proofs.YthbbdilcclepoaaW.PrintMore
/-- Drives, a row, and a slice of texts of one's own. -/
structure Held (w0 w : World) (l : List (Nat × DS)) (F : List Nat) (i D : Nat) (s : DS) (R : Nat) (tv : Value) (r : RS) (v : Value) (xs : List ByteArray) : Prop where
  rw : Rw w0 w l F i D s R tv r
  own : w.ownsRow w0.heap.size 9 1 v xs.length (strV xs)
  mem : ∀ k ∈ v.ownBlock.toList, k ∈ F ∧ k ∉ rwFp R tv
section
variable {w0 w w' : World} {l : List (Nat × DS)} {F : List Nat} {i D : Nat} {s s' : DS} {R : Nat} {tv tv' : Value} {r r' : RS} {v : Value} {xs : List ByteArray}
theorem Rw.hold (h : Rw w0 w l F i D s R tv r) (ho : Only [] w w') (hv : w'.ownsRow w.heap.size 9 1 v xs.length (strV xs)) : Held w0 w' l (v.ownBlock.toList ++ F) i D s R tv r v xs := by
  refine ⟨⟨h.dr.grow [] _ ho (by simp) (fun k hk => (List.mem_append.1 hk).elim (fun e => .inr (ownsRow_lt hv e)) .inl), h.hi, h.row.new ho, fun k hk => List.mem_append_right _ (h.fp k hk)⟩, ownsRow_weaken hv h.dr.below.size, fun k hk => ⟨List.mem_append_left _ hk, fun e => ?_⟩⟩
  have h1 := (ownsRow_lt hv hk).1
  have h2 := (h.row.fp_lt k e).2
  omega
theorem Held.new (h : Held w0 w l F i D s R tv r v xs) (ho : Only [] w w') : Held w0 w' l F i D s R tv r v xs := ⟨h.rw.new ho, ownsRow_kept h.own ho (by simp), h.mem⟩
theorem Held.went (h : Held w0 w l F i D s R tv r v xs) (hw : Went w0 w w' l F i D s' R tv tv' r') : Held w0 w' (l.set i (D, s')) (tv'.ownBlock.toList ++ F) i D s' R tv' r' v xs := by
  refine ⟨hw.rw, ownsRow_at h.own (fun k hk => hw.same k (h.mem k hk).1 (h.mem k hk).2), fun k hk => ⟨List.mem_append_right _ (h.mem k hk).1, fun e => ?_⟩⟩
  obtain ⟨hF, hn⟩ := h.mem k hk
  rcases List.mem_cons.1 e with rfl | e
  · exact hn (by simp [rwFp])
  · rcases hw.fresh k e with q | q
    · exact hn q
    · exact q hF
end
end Go.Proofs.Ythbbdilcclepoaa
