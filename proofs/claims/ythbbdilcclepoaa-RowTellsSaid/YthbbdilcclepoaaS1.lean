/- Chapter 05: RowTells, by walking it. -/
import Derived.Test.YthbbdilcclepoaaS0
import Derived.Test.YthbbdilcclepoaaRS
set_option maxRecDepth 100000
set_option linter.unusedVariables false
set_option linter.unusedSimpArgs false
namespace Go.Proofs.Ythbbdilcclepoaa
open Go Go.RowKit Go.Proofs.Ythbbdilcclepoaa.Q Go.Proofs.Ythbbdilcclepoaa.Pure Go.Proofs.YthbbdilcclepoaaW.PrintWords Go.Proofs.YthbbdilcclepoaaW.PrintLast Go.Proofs.YthbbdilcclepoaaW.PrintMore
attribute [local go_sem] Oper.semAt_some max2_int min2_int max_two min_two max_three min_three max_four min_four
attribute [local go_sem ↓] exec_make54
/-- An act, where it lies. -/
def boxX (X : S44) : Obj := .cells #[.int .u8 X.f0, .int .i16 X.f1, .string X.f2, .int .u8 X.f3, .int .u64 X.f4.f0, .int .i64 X.f4.f1, .int .i64 X.f4.f2] 44
theorem boxX_cells {W : World} {XB : Nat} {X : S44} (h : W.heap[XB]? = some (boxX X)) : W.cell? ⟨XB, 0, none⟩ = some (.int .u8 X.f0) ∧ W.cell? ⟨XB, 1, none⟩ = some (.int .i16 X.f1) ∧ W.cell? ⟨XB, 2, none⟩ = some (.string X.f2) :=
  ⟨cell_of_row W _ _ _ _ _ h, cell_of_row W _ _ _ _ _ h, cell_of_row W _ _ _ _ _ h⟩
theorem Tel.is {w wr : World} {F : List Nat} {D R : Nat} {tv : Value} {s : DS} {r : RS} {qv : Value} {q : List ByteArray} {fr mn i : Nat} (h : Tel w wr F D R tv s r qv q fr mn i) (hq : q = rowSec s fr mn) (A : Option Addr) (c : Nat) (hc : q.length ≤ c) (hC : Kd.C Kd.string wr A q.length q) :
    Calls Try.prog 11 #[.pointer (some ⟨R, 0, none⟩), .pointer (some ⟨D, 0, none⟩), .int .i64 (fr : Int), .slice A q.length c] wr fun e w' => e = .returned (.bool true) ∧ Only [] wr w' := by
  have h2 := is_calls h.held.rw h.fit (by rw [h.at_.2]; have := h.mn16; omega) q (by rw [h.at_.1, h.at_.2]; exact hq) A c hC hc
  rw [h.at_.1] at h2
  exact h2
set_option maxHeartbeats 4000000 in
theorem tells_calls (w : World) (a b : Int) (ha : 0 ≤ a ∧ a < 256) (hb : 0 ≤ b ∧ b < 256) (A : Option Addr) (c : Nat) (ls : List S44) (hr : Kd.C k44 w A ls.length ls) (hc : ls.length ≤ c) (hl : ls.length < 9223372036854775808) (hok : ∀ x ∈ ls, 0 ≤ x.f0 ∧ x.f0 < 256 ∧ x.f2.size ≤ 9223372036854775807) :
    Calls Try.prog 4 #[.int .u8 a, .int .u8 b, .slice A ls.length c] w fun e w' => e = .returned (.bool true) ∧ Below w.heap.size w w' := by
  obtain ⟨fr, hfr⟩ : ∃ fr : Nat, a % 8 = (fr : Int) := ⟨(a % 8).toNat, by omega⟩
  obtain ⟨m, hm⟩ : ∃ m : Nat, b % 16 = (m : Int) := ⟨(b % 16).toNat, by omega⟩
  obtain ⟨mn, hmn⟩ : ∃ mn : Nat, 1 + (m : Int) = (mn : Int) := ⟨1 + m, by omega⟩
  have HLAY := hid (show fr + mn ≤ 24 ∧ mn ≤ 16 ∧ 1 ≤ mn by omega)
  have ha0 : 0 ≤ a := ha.1
  have hb0 : 0 ≤ b := hb.1
  have HR := hid hr
  have HC := hid hc
  have HL := hid hl
  have HOK := hid hok
  obtain ⟨K, hK⟩ : ∃ K, 8000 ≤ K := ⟨8000, Nat.le_refl _⟩
  have HK := hid hK
  clear hr hc hl hok ha hb hK
  obtain ⟨gr, hgr1, hgr2⟩ := great_f ls HL.out
  have HG1 := hid hgr1
  have HG2 := hid hgr2
  clear hgr1 hgr2
  go_enter Try.func4, Try.ntmps4
  go_wp2_with fail
  go_at_call 6
  refine ((Dr.start w).make 24 (by decide) (by decide)).mono ?_
  rintro e w1 ⟨v, rfl, D, rfl, hd1, -⟩
  replace hd1 : Dr w w1 [(D, newS 24)] [] := hd1
  have HD1 := hid hd1
  clear hd1
  unfold ptr
  go_wp2_with fail
  go_at_call 8
  refine (Open_ok HD1.out (i := 0) rfl fr mn HLAY.out.2.2 HLAY.out.1 (by decide)).mono ?_
  rintro e w2 ⟨R, tv, rfl, ho2, hr2⟩
  have HRO := hid hr2
  have HHO := hid ho2
  clear ho2 hr2
  unfold ptr
  go_wp2_with fail
  go_at_call 12
  refine (quittancelaw05_great.calls (ls.length + 1) A c ls gr w2 (Kd.C_below HR.out (HD1.out.below.trans (HHO.out.below HD1.out.below.size (by simp)))) HC.out HG1.out).mono ?_
  rintro e w3 ⟨rfl, hd3⟩
  have HO3 := hid (HHO.out.trans (drawn_only hd3 []) (fun _ h _ => h))
  have HRO3 := hid (HRO.out.new (drawn_only hd3 []))
  clear hd3 HRO
  cases gr with
  | true =>
    go_wp2_with (go_at_call 9; refine (row_head _).mono ?_; rintro e w4 ⟨rfl, hb⟩; have HB4 := hid hb; clear hb)
    go_ret
    exact ⟨rfl, (HD1.out.new HO3.out).below.trans (HB4.out.mono (HD1.out.new HO3.out).below.size)⟩
  | false =>
    have HGL := hid (HG2.out rfl)
    clear HG1 HG2
    go_wp2_with fail
    go_at_call 13
    refine (quittanceref05_New.calls K (mn : Int) (List.replicate mn zB) w3 (RNew_f K mn (by have := HLAY.out; omega) (by have := HK.out; omega))).mono ?_
    rintro e w4 ⟨qv, rfl, hq4, hb4⟩
    have HT0 := hid (show ∃ F, Tel w w4 F D R tv (newS 24) (openRS (newS 24) fr mn) qv (List.replicate mn zB) fr mn 0 by
      have ho4 : Only [] w3 w4 := Only.of_below hb4
      have hown := R_own_str hq4
      have hrw := Rw.opened (i := 0) HD1.out rfl HO3.out HRO3.out
      have hh := hrw.hold ho4 hown
      exact ⟨_, hh, Fit.opened _ fr mn (by show _ ≤ (List.replicate 24 z64).length; rw [List.length_replicate]; exact HLAY.out.1), rfl, Nat.zero_le _, rfl, fun k h1 _ => by show (List.replicate 24 z64)[k]? = _; rw [List.getElem?_replicate, if_pos h1], ⟨rfl, rfl⟩, HLAY.out.2.1, List.length_replicate⟩)
    have HS0 := hid (rowSec_new 24 fr mn HLAY.out.1).symm
    clear hq4 hb4 HRO3 HO3 HHO HD1
    go_wp2_with fail
    go_loopw [11, 12, 13, 14] (fun v11 v12 v13 v14 wr => ∃ (R : Nat) (qv : Value) (i : Nat) (q : List ByteArray) (s : DS) (r : RS) (tv : Value) (F : List Nat), v11 = .pointer (some ⟨R, 0, none⟩) ∧ v12 = .int .i64 0 ∧ qv = v13 ∧ v14 = .int .i64 (i : Int) ∧ Aside0 (i ≤ ls.length) ∧ Aside0 (Tel w wr F D R tv s r qv q fr mn i) ∧ Aside0 (q = rowSec s fr mn)) (fun _ _ _ v14 _ => ls.length - (intOf v14).toNat)
    case atStart =>
      obtain ⟨F, h⟩ := HT0.out
      exact ⟨_, _, 0, _, _, _, _, _, rfl, rfl, rfl, rfl, ⟨Nat.zero_le _⟩, ⟨h⟩, ⟨HS0.out⟩⟩
    case round =>
      clear HT0 HS0
      obtain ⟨R, qv, i, q, s, r, tv, F, rfl, rfl, rfl, rfl, HI, HT, HQ⟩ := hrel
      by_cases c1 : i < ls.length
      · have d1 : decide ((i : Int) < (ls.length : Int)) = true := decide_eq_true (by omega)
        have d2 : decide (i < ls.length) = true := decide_eq_true c1
        obtain ⟨ad, rfl, x0, x1, x2, x3, x4, x5, x6⟩ := act_cells HR.out HT.out.held.rw.dr.below i c1
        obtain ⟨X, hX⟩ : ∃ X, X = rd_T44 ls (i : Int) := ⟨_, rfl⟩
        have hXm : X ∈ ls := by rw [hX]; exact act_mem c1
        have hx := HOK.out X hXm
        have hS600 := HGL.out.2 i c1
        rw [← hX] at x0 x1 x2 x3 x4 x5 x6 hS600
        have p1 : (0 ≤ (i : Int)) = True := eq_true (by omega)
        have p2 : ((i : Int) < (ls.length : Int)) = True := eq_true (by omega)
        have C1 := hid c1
        have HXX := hid hx
        have HS600 := hid hS600
        have hi40 : i ≤ 40 := by have := HGL.out.1; omega
        have hs0 : X.f2.size ≤ 9223372036854775807 := hx.2.2
        clear hX hXm c1 hx hS600
        go_upto_region 11 with (fail)
        obtain ⟨W1, hW1⟩ : ∃ W1, W1 = wr.alloc (boxX X) := ⟨_, rfl⟩
        obtain ⟨XB, hXB⟩ : ∃ XB, XB = wr.heap.size := ⟨_, rfl⟩
        obtain ⟨Aq, cq, hvq, hcq, hCq⟩ := own_C_str HT.out.held.own
        subst hvq
        have ho1 : Only [] wr W1 := by rw [hW1]; exact Only.alloc [] wr _
        have HT1 := hid (HT.out.new ho1)
        have HBX1 := hid (show W1.heap[XB]? = some (boxX X) by rw [hW1, hXB]; exact heap_alloc_new wr _)
        have hnx : ¬ (Value.slice Aq q.length cq).ownBlock = some XB := fun e => by
          have h2 := ownsRow_lt HT.out.held.own (k := XB) (by rw [e]; simp)
          omega
        have HNX := hid hnx
        have HC1q := hid (fun W (ho : Only [] W1 W) => Kd.C_below hCq ((ho1.trans ho (fun _ h _ => h)).below (Nat.le_refl _) (by simp)))
        have HCQ := hid hcq
        have hcells := fun W (ho : Only [] W1 W) => boxX_cells ((ho.block XB (by have := Array.getElem?_eq_some_iff.1 HBX1.out; exact this.1) (by simp)).trans HBX1.out)
        have HCELL := hid hcells
        change Code.wp Try.prog _ _ _ (wr.alloc (boxX X))
        rw [← hW1]
        try rw [← hXB]
        have HTOP := hid (RTop_nat K q (by have := HT.out.qlen; have := HLAY.out; omega) (by have := HK.out; omega))
        obtain ⟨st, hst, hstf⟩ := stamp_nat ((topL q 0 : Nat) : Int) X.f1
        have HST := hid hst
        have HSTF := hid hstf
        have y1 := (HCELL.out W1.drew (Only.drew [] W1)).2.1
        clear hcells hnx hcq hCq ho1 hst hstf x0 x1 x2 x3 x4 x5 x6 HT
        have hXBlt : XB < W1.heap.size := (Array.getElem?_eq_some_iff.1 HBX1.out).1
        have HXB1 := hid hXBlt
        clear hW1 hXB hXBlt
        go_region_held3 (fun W => W.cell? ⟨XB, 1, none⟩ = some (.int .i16 X.f1)) (first | exact y1 | exact z1 | exact u1) (first | (go_at_call 15; refine (quittanceref04_Top.calls K Aq cq q _ _ (HC1q.out _ (Only.drew [] W1)) HCQ.out HTOP.out).mono ?_; rintro e w3 ⟨rfl, hd⟩; have HO3 := hid ((Only.drew [] W1).trans (drawn_only hd []) (fun _ h _ => h)); clear hd; have z1 := (HCELL.out w3 HO3.out).2.1) | (go_at_call 14; refine (quittancelaw05_stamp.calls _ X.f1 _ _ HSTF.out).mono ?_; rintro e w4 ⟨rfl, hb⟩; have HO4 := hid (HO3.out.trans (Only.of_below (fp := []) hb) (fun _ h _ => h)); clear hb; have u1 := (HCELL.out w4 HO4.out).2.1))
        have HT4 := hid (HT1.out.new HO4.out)
        have HCq4 := hid (HC1q.out w4 HO4.out)
        have HTX := hid (RTexts_f K q (by have := HT1.out.qlen; have := HLAY.out; omega) (by have := HK.out; omega))
        have HBX4 := hid ((HO4.out.block XB HXB1.out (by simp)).trans HBX1.out)
        clear y1 HT1 HO3 HTOP HSTF u1 z1
        go_wp2_with fail
        go_at_call 16
        refine (quittanceref05_Texts.calls K Aq cq q _ _ _ w4 HCq4.out HCQ.out HTX.out).mono ?_
        rintro e w5 ⟨vt, rfl, hRt, hb5⟩
        have HO5 := hid (HO4.out.trans (Only.of_below (fp := []) hb5) (fun _ h _ => h))
        have HT5 := hid (HT4.out.new (Only.of_below (fp := []) hb5))
        have HBX5 := hid ((hb5.block XB (by have := HO4.out.size; have := HXB1.out; omega)).trans HBX4.out)
        have HXB5 := hid (show XB < w5.heap.size by have := HO5.out.size; have := HXB1.out; omega)
        obtain ⟨y0, -, y2⟩ := boxX_cells HBX5.out
        clear hRt hb5 HT4 HCq4 HBX4 HTX HO4 HBX1
        have hm5 : X.f0 % 5 = 0 ∨ X.f0 % 5 = 1 ∨ X.f0 % 5 = 2 ∨ X.f0 % 5 = 3 ∨ X.f0 % 5 = 4 := by have := HXX.out.1; omega
        have hx0 : 0 ≤ X.f0 := HXX.out.1
        rcases hm5 with hm5 | hm5 | hm5 | hm5 | hm5
        · have e0 : (X.f0 % 5 == 0) = true := by rw [hm5]; rfl
          go_upto_region 17 with (fail)
          have HPUT := hid (RPut05_f K q (rowT q).en st X.f2 (by have := HT5.out.qlen; have := HLAY.out; omega) (by have := (rowT_ok q).en; omega) HST.out (by have := HS600.out; omega) (by have := HK.out; omega))
          obtain ⟨⟨q7, E⟩, hP⟩ : ∃ P, P = rput q (rowT q).en st X.f2 := ⟨_, rfl⟩
          have HPL := hid (show q7.length = mn by have h2 := rput_len (l := q) (a := (rowT q).en) (n := st) (S := X.f2) ((rowT_ok q).en); rw [← hP] at h2; exact h2.trans HT5.out.qlen)
          rw [← hP] at HPUT
          have HPP := hid hP
          clear hP
          go_wp2_with fail
          go_at_call 17
          refine (quittanceref05_Put.calls K (fun k => (Value.slice Aq q.length cq).ownBlock = some k) (.slice Aq q.length cq) q _ (st : Int) X.f2 _ _ w w5 HT5.out.held.rw.dr.below (own_R_str HT5.out.held.own) HPUT.out).mono ?_
          rintro e w6 ⟨qv6, rfl, hR6, hB6, hK6⟩
          have HT6 := hid (HT5.out.put hB6 hK6 hR6 HPL.out)
          have HY6 := hid ((hK6.2 XB HXB5.out HNX.out).trans HBX5.out)
          clear hR6 hB6 hK6
          have y2 := (boxX_cells HY6.out).2.2
          go_wp2_with fail
          go_at_call 18
          refine (Row_Add HT6.out.held.rw st X.f2 HST.out (by have := HT6.out.opn; omega)).mono ?_
          rintro e w7 ⟨rfl, tv7, hw7⟩
          have HT7 := hid (HT6.out.add st X.f2 (by have := HS600.out; omega) HST.out hw7)
          have hfit := HT6.out.fit.add HT6.out.fuse st X.f2 (by have := HS600.out; omega) HST.out
          rw [HT6.out.at_.1, HT6.out.at_.2, ← HQ.out] at hfit
          have hE : (addR s r st X.f2).e = E := (show (addR s r st X.f2).e = (rput q (rowT q).en st X.f2).2 from by rw [hfit.1, HT6.out.fit.en, HT6.out.at_.1, HT6.out.at_.2, ← HQ.out]).trans (by rw [← HPP.out])
          have HQ7 := hid (show q7 = rowSec (addR s r st X.f2).s fr mn by rw [hfit.2.1, HT6.out.fit.en, HT6.out.at_.1, HT6.out.at_.2, ← HQ.out, ← HPP.out])
          rw [hE]
          clear hw7 hfit hE HPP HT6 HT5 HPUT HPL HY6 y2
          obtain ⟨Az, cz, hvz, hcz, hCz⟩ := own_C_str HT7.out.held.own
          subst hvz
          try unfold ptr
          have HIS := hid (HT7.out.is HQ7.out Az cz hcz hCz)
          clear hcz hCz
          go_wp2_with (go_at_call 11; refine HIS.out.mono ?_; rintro e w9 ⟨rfl, ho9⟩; have HT9 := hid (HT7.out.new ho9); clear ho9)
          go_roundw
          case rel => exact ⟨_, _, i + 1, _, _, _, _, _, rfl, rfl, rfl, by go_num, ⟨by have := C1.out; omega⟩, ⟨HT9.out⟩, ⟨HQ7.out⟩⟩
          case measure => simp [intOf]; have := C1.out; omega
        · have e0 : (X.f0 % 5 == 0) = false := by rw [hm5]; rfl
          have e1 : (X.f0 % 5 == 1) = true := by rw [hm5]; rfl
          go_upto_region 17 with (fail)
          have HPUT := hid (RPut05_f K q (rowT q).en st X.f2 (by have := HT5.out.qlen; have := HLAY.out; omega) (by have := (rowT_ok q).en; omega) HST.out (by have := HS600.out; omega) (by have := HK.out; omega))
          obtain ⟨⟨q7, E⟩, hP⟩ : ∃ P, P = rput q (rowT q).en st X.f2 := ⟨_, rfl⟩
          have HPL := hid (show q7.length = mn by have h2 := rput_len (l := q) (a := (rowT q).en) (n := st) (S := X.f2) ((rowT_ok q).en); rw [← hP] at h2; exact h2.trans HT5.out.qlen)
          rw [← hP] at HPUT
          have HPP := hid hP
          clear hP
          go_wp2_with fail
          go_at_call 17
          refine (quittanceref05_Put.calls K (fun k => (Value.slice Aq q.length cq).ownBlock = some k) (.slice Aq q.length cq) q _ (st : Int) X.f2 _ _ w w5 HT5.out.held.rw.dr.below (own_R_str HT5.out.held.own) HPUT.out).mono ?_
          rintro e w6 ⟨qv6, rfl, hR6, hB6, hK6⟩
          have HT6 := hid (HT5.out.put hB6 hK6 hR6 HPL.out)
          have HY6 := hid ((hK6.2 XB HXB5.out HNX.out).trans HBX5.out)
          clear hR6 hB6 hK6
          have y2 := (boxX_cells HY6.out).2.2
          go_wp2_with fail
          go_at_call 18
          refine (Row_Add HT6.out.held.rw st X.f2 HST.out (by have := HT6.out.opn; omega)).mono ?_
          rintro e w7 ⟨rfl, tv7, hw7⟩
          have HT7 := hid (HT6.out.add st X.f2 (by have := HS600.out; omega) HST.out hw7)
          have hfit := HT6.out.fit.add HT6.out.fuse st X.f2 (by have := HS600.out; omega) HST.out
          rw [HT6.out.at_.1, HT6.out.at_.2, ← HQ.out] at hfit
          have hE : (addR s r st X.f2).e = E := (show (addR s r st X.f2).e = (rput q (rowT q).en st X.f2).2 from by rw [hfit.1, HT6.out.fit.en, HT6.out.at_.1, HT6.out.at_.2, ← HQ.out]).trans (by rw [← HPP.out])
          have HQ7 := hid (show q7 = rowSec (addR s r st X.f2).s fr mn by rw [hfit.2.1, HT6.out.fit.en, HT6.out.at_.1, HT6.out.at_.2, ← HQ.out, ← HPP.out])
          rw [hE]
          clear hw7 hfit hE HPP HT6 HT5 HPUT HPL HY6 y2
          obtain ⟨Az, cz, hvz, hcz, hCz⟩ := own_C_str HT7.out.held.own
          subst hvz
          try unfold ptr
          have HIS := hid (HT7.out.is HQ7.out Az cz hcz hCz)
          clear hcz hCz
          go_wp2_with (go_at_call 11; refine HIS.out.mono ?_; rintro e w9 ⟨rfl, ho9⟩; have HT9 := hid (HT7.out.new ho9); clear ho9)
          go_roundw
          case rel => exact ⟨_, _, i + 1, _, _, _, _, _, rfl, rfl, rfl, by go_num, ⟨by have := C1.out; omega⟩, ⟨HT9.out⟩, ⟨HQ7.out⟩⟩
          case measure => simp [intOf]; have := C1.out; omega
        · have e0 : (X.f0 % 5 == 0) = false := by rw [hm5]; rfl
          have e1 : (X.f0 % 5 == 1) = false := by rw [hm5]; rfl
          have e2 : (X.f0 % 5 == 2) = true := by rw [hm5]; rfl
          go_upto_region 21 with (fail)
          have HPUT := hid (RPut05_f K q 0 st X.f2 (by have := HT5.out.qlen; have := HLAY.out; omega) (Nat.zero_le _) HST.out (by have := HS600.out; omega) (by have := HK.out; omega))
          obtain ⟨⟨q7, E⟩, hP⟩ : ∃ P, P = rput q 0 st X.f2 := ⟨_, rfl⟩
          have HPL := hid (show q7.length = mn by have h2 := rput_len (l := q) (a := 0) (n := st) (S := X.f2) (Nat.zero_le _); rw [← hP] at h2; exact h2.trans HT5.out.qlen)
          rw [← hP] at HPUT
          have HPP := hid hP
          clear hP
          go_wp2_with fail
          go_at_call 17
          refine (quittanceref05_Put.calls K (fun k => (Value.slice Aq q.length cq).ownBlock = some k) (.slice Aq q.length cq) q _ (st : Int) X.f2 _ _ w w5 HT5.out.held.rw.dr.below (own_R_str HT5.out.held.own) HPUT.out).mono ?_
          rintro e w6 ⟨qv6, rfl, hR6, hB6, hK6⟩
          have HT6 := hid (HT5.out.put hB6 hK6 hR6 HPL.out)
          have HY6 := hid ((hK6.2 XB HXB5.out HNX.out).trans HBX5.out)
          clear hR6 hB6 hK6
          have y2 := (boxX_cells HY6.out).2.2
          go_wp2_with fail
          go_at_call 19
          refine (Row_Begin HT6.out.held.rw st X.f2 HST.out (by have := HT6.out.opn; omega)).mono ?_
          rintro e w7 ⟨rfl, tv7, hw7⟩
          have HT7 := hid (HT6.out.begin st X.f2 (by have := HS600.out; omega) HST.out hw7)
          have hfit := HT6.out.fit.begin HT6.out.fuse st X.f2 (by have := HS600.out; omega) HST.out
          rw [HT6.out.at_.1, HT6.out.at_.2, ← HQ.out] at hfit
          have hE : (beginR s r st X.f2).e = E := (show (beginR s r st X.f2).e = (rput q 0 st X.f2).2 from hfit.1).trans (by rw [← HPP.out])
          have HQ7 := hid (show q7 = rowSec (beginR s r st X.f2).s fr mn by rw [hfit.2.1, ← HPP.out])
          rw [hE]
          clear hw7 hfit hE HPP HT6 HT5 HPUT HPL HY6 y2
          obtain ⟨Az, cz, hvz, hcz, hCz⟩ := own_C_str HT7.out.held.own
          subst hvz
          try unfold ptr
          have HIS := hid (HT7.out.is HQ7.out Az cz hcz hCz)
          clear hcz hCz
          go_wp2_with (go_at_call 11; refine HIS.out.mono ?_; rintro e w9 ⟨rfl, ho9⟩; have HT9 := hid (HT7.out.new ho9); clear ho9)
          go_roundw
          case rel => exact ⟨_, _, i + 1, _, _, _, _, _, rfl, rfl, rfl, by go_num, ⟨by have := C1.out; omega⟩, ⟨HT9.out⟩, ⟨HQ7.out⟩⟩
          case measure => simp [intOf]; have := C1.out; omega
        · have e0 : (X.f0 % 5 == 0) = false := by rw [hm5]; rfl
          have e1 : (X.f0 % 5 == 1) = false := by rw [hm5]; rfl
          have e2 : (X.f0 % 5 == 2) = false := by rw [hm5]; rfl
          have e3 : (X.f0 % 5 == 3) = true := by rw [hm5]; rfl
          go_upto_region 25 with (fail)
          go_wp2_with fail
          go_at_call 20
          refine (HT5.out.held.rw.dr.sync (i := 0) rfl).mono ?_
          rintro e w7 ⟨rfl, hd7, sm⟩
          have HT7 := hid (HT5.out.sync hd7 sm)
          have HQ7 := hid (show q = rowSec (syncR s).1 fr mn by rw [sec_sync HT5.out.fuse]; exact HQ.out)
          clear hd7 sm HT5 HQ
          obtain ⟨Az, cz, hvz, hcz, hCz⟩ := own_C_str HT7.out.held.own
          obtain ⟨e7, -, e8⟩ := Value.slice.inj hvz; subst e7; subst e8
          try unfold ptr
          have HIS := hid (HT7.out.is HQ7.out Aq cq hcz hCz)
          clear hcz hCz
          go_wp2_with (go_at_call 11; refine HIS.out.mono ?_; rintro e w9 ⟨rfl, ho9⟩; have HT9 := hid (HT7.out.new ho9); clear ho9)
          go_roundw
          case rel => exact ⟨_, _, i + 1, _, _, _, _, _, rfl, rfl, rfl, by go_num, ⟨by have := C1.out; omega⟩, ⟨HT9.out⟩, ⟨HQ7.out⟩⟩
          case measure => simp [intOf]; have := C1.out; omega
        · have e0 : (X.f0 % 5 == 0) = false := by rw [hm5]; rfl
          have e1 : (X.f0 % 5 == 1) = false := by rw [hm5]; rfl
          have e2 : (X.f0 % 5 == 2) = false := by rw [hm5]; rfl
          have e3 : (X.f0 % 5 == 3) = false := by rw [hm5]; rfl
          have e4 : (X.f0 % 5 == 4) = true := by rw [hm5]; rfl
          go_upto_region 27 with (fail)
          go_wp2_with fail
          go_at_call 8
          refine (Open_ok HT5.out.held.rw.dr (i := 0) rfl fr mn HLAY.out.2.2 (by rw [HT5.out.len]; exact HLAY.out.1) (by rw [HT5.out.len]; decide)).mono ?_
          rintro e w7 ⟨R7, tv7, rfl, ho7, hr7⟩
          have HT7 := hid (HT5.out.open ho7 hr7)
          have HQ7 := hid HQ.out
          clear ho7 hr7 HT5 HQ
          obtain ⟨Az, cz, hvz, hcz, hCz⟩ := own_C_str HT7.out.held.own
          obtain ⟨e7, -, e8⟩ := Value.slice.inj hvz; subst e7; subst e8
          try unfold ptr
          have HIS := hid (HT7.out.is HQ7.out Aq cq hcz hCz)
          clear hcz hCz
          go_wp2_with (go_at_call 11; refine HIS.out.mono ?_; rintro e w9 ⟨rfl, ho9⟩; have HT9 := hid (HT7.out.new ho9); clear ho9)
          go_roundw
          case rel => exact ⟨_, _, i + 1, _, _, _, _, _, rfl, rfl, rfl, by go_num, ⟨by have := C1.out; omega⟩, ⟨HT9.out⟩, ⟨HQ7.out⟩⟩
          case measure => simp [intOf]; have := C1.out; omega
      · have d1 : decide ((i : Int) < (ls.length : Int)) = false := decide_eq_false (by omega)
        have d2 : decide (i < ls.length) = false := decide_eq_false c1
        have HSZ := hid (fun W (ho : Only [] wr W) => by
          have h2 := (HT.out.held.rw.dr.new ho).size (i := 0) (D := D) (s := s) rfl
          rw [HT.out.len] at h2
          exact h2)
        have HRD := hid (fun W (ho : Only [] wr W) (j : Nat) => (HT.out.held.rw.dr.new ho).read (i := 0) (D := D) (s := s) rfl (j : Int))
        have HBL := hid (fun W (ho : Only [] wr W) => (HT.out.held.rw.dr.new ho).below)
        have hsum : fr + mn ≤ 24 := HLAY.out.1
        have hfr24 : fr ≤ 24 := by omega
        have hmn24 : mn ≤ 24 := by omega
        unfold ptr at *
        have HOUT := hid HT.out.out
        have HLEN := hid HT.out.len
        clear c1 HT HQ
        go_wp2_with fail
        go_loopw [21] (fun v w2 => ∃ j : Nat, v = .int .i64 (j : Int) ∧ Aside0 (j ≤ 24) ∧ Aside0 (Only [] wr w2)) (fun v _ => 24 - (intOf v).toNat)
        case atStart => exact ⟨0, rfl, ⟨Nat.zero_le _⟩, ⟨Only.refl _ _⟩⟩
        case round =>
          obtain ⟨j, rfl, HJ, HO⟩ := hrel
          by_cases c2 : j < 24
          · have d3 : decide ((j : Int) < 24) = true := decide_eq_true (by omega)
            have d4 : decide (j < 24) = true := decide_eq_true c2
            have HJ2 := hid c2
            have hj24 : j ≤ 24 := by omega
            by_cases c3 : fr ≤ j ∧ j < fr + mn
            · have d5 : decide ((j : Int) < (fr : Int)) = false := decide_eq_false (by omega)
              have d6 : decide (j < fr) = false := decide_eq_false (by omega)
              have d7 : decide ((fr : Int) + (mn : Int) ≤ (j : Int)) = false := decide_eq_false (by omega)
              have d8 : decide (fr + mn ≤ j) = false := decide_eq_false (by omega)
              clear c2 c3
              go_wp2_with (first | (go_at_call 21; refine (HSZ.out _ HO.out).mono ?_; rintro e w3 ⟨rfl, h3⟩; have h4 := h3.symm; clear h3; subst h4) | (go_at_call 10; refine (HRD.out _ HO.out j).mono ?_; rintro e w3 ⟨rfl, h3⟩; have h4 := h3.symm; clear h3; subst h4))
              go_roundw
              case rel => exact ⟨j + 1, by go_num, ⟨by have := HJ2.out; omega⟩, ⟨HO.out⟩⟩
              case measure => simp [intOf]; have := HJ2.out; omega
            · obtain ⟨L64, hL64⟩ : ∃ L : List UInt8, L = List.replicate 64 0 := ⟨_, rfl⟩
              obtain ⟨Z, hZ⟩ : ∃ Z : Obj, Z = .cells (List.replicate 64 (cb 0)).toArray 5 := ⟨_, rfl⟩
              have hmk : (make54 (.int .i64 64) (.int .i64 64)).run Try.prog wr = .ok (.value (.slice (some ⟨wr.heap.size, 0, none⟩) 64 64)) (wr.alloc (.cells (List.replicate 64 (cb 0)).toArray 5)) := run_make54 64 (by decide) wr
              have HROW := hid (row8_zeros wr 64 (by decide))
              rw [← hZ] at hmk HROW
              rw [← hL64] at HROW
              have HL64 := hid (show 64 = L64.length by rw [hL64, List.length_replicate])
              obtain ⟨T, hT⟩ : ∃ T, T = readS s (j : Int) := ⟨_, rfl⟩
              have HT64 := hid (show (⟨L64.toArray⟩ : ByteArray) = T by
                rw [hT]
                unfold readS
                rw [if_pos (by rw [HLEN.out]; omega), Int.toNat_natCast, List.getD_eq_getElem?_getD, HOUT.out j c2 (by omega), hL64]
                rfl)
              have HRD2 := hid (HRD.out wr HO.out j)
              rw [← hT] at HRD2
              have HOZ := hid (HO.out.trans (Only.alloc [] wr Z) (fun _ h _ => h))
              have hcv : (convert 54 9 (.slice (some ⟨wr.heap.size, 0, none⟩) 64 64)).run Try.prog (wr.alloc Z) = .ok (.string T) (wr.alloc Z) := by
                have h2 := run_convert_bytes_back (P := Try.prog) (wr.alloc Z) 54 9 5 ⟨wr.heap.size, 0, none⟩ 64 L64 Try.underlying54 Try.underlying5 Try.underlying9 (fun j hj => by
                  rw [show (⟨wr.heap.size, 0, none⟩ : Addr).add j = ⟨wr.heap.size, j, none⟩ by unfold Addr.add; split <;> simp_all]
                  have h3 := HROW.out.cell j hj
                  rw [h3]
                  simp [cb, List.getD_eq_getElem?_getD, List.getElem?_eq_getElem hj])
                rw [← HL64.out, HT64.out] at h2
                exact h2
              clear hT hL64 hZ
              by_cases c4 : j < fr
              · have d5 : decide ((j : Int) < (fr : Int)) = true := decide_eq_true (by omega)
                have d6 : decide (j < fr) = true := decide_eq_true c4
                clear c2 c3 c4
                go_wp2_with (first | (go_at_call 21; refine (HSZ.out _ HO.out).mono ?_; rintro e w3 ⟨rfl, h3⟩; have h4 := h3.symm; clear h3; subst h4) | (go_at_call 10; refine HRD2.out.mono ?_; rintro e w3 ⟨rfl, h3⟩; have h4 := h3.symm; clear h3; subst h4))
                go_roundw
                case rel => exact ⟨j + 1, by go_num, ⟨by have := HJ2.out; omega⟩, ⟨HOZ.out⟩⟩
                case measure => simp [intOf]; have := HJ2.out; omega
              · have d5 : decide ((j : Int) < (fr : Int)) = false := decide_eq_false (by omega)
                have d6 : decide (j < fr) = false := decide_eq_false c4
                have d7 : decide ((fr : Int) + (mn : Int) ≤ (j : Int)) = true := decide_eq_true (by omega)
                have d8 : decide (fr + mn ≤ j) = true := decide_eq_true (by omega)
                clear c2 c3 c4
                go_wp2_with (first | (go_at_call 21; refine (HSZ.out _ HO.out).mono ?_; rintro e w3 ⟨rfl, h3⟩; have h4 := h3.symm; clear h3; subst h4) | (go_at_call 10; refine HRD2.out.mono ?_; rintro e w3 ⟨rfl, h3⟩; have h4 := h3.symm; clear h3; subst h4))
                go_roundw
                case rel => exact ⟨j + 1, by go_num, ⟨by have := HJ2.out; omega⟩, ⟨HOZ.out⟩⟩
                case measure => simp [intOf]; have := HJ2.out; omega
          · have d3 : decide ((j : Int) < 24) = false := decide_eq_false (by omega)
            have d4 : decide (j < 24) = false := decide_eq_false c2
            clear c2
            go_wp2_with (first | (go_at_call 21; refine (HSZ.out _ HO.out).mono ?_; rintro e w3 ⟨rfl, h3⟩; have h4 := h3.symm; clear h3; subst h4) | (go_at_call 9; refine (row_head _).mono ?_; rintro e w6 ⟨rfl, hb⟩; have HB6 := hid hb; clear hb))
            go_ret
            exact ⟨rfl, (HBL.out _ HO.out).trans (HB6.out.mono (HBL.out _ HO.out).size)⟩
end Go.Proofs.Ythbbdilcclepoaa
