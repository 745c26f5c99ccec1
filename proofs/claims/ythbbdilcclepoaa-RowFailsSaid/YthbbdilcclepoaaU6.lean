/- Chapter 05: RowFails, by walking it. -/
import Derived.Test.YthbbdilcclepoaaU5
import Derived.Test.YthbbdilcclepoaaQ4
import Derived.Test.YthbbdilcclepoaaQ6
set_option maxRecDepth 100000
set_option linter.unusedVariables false
set_option linter.unusedSimpArgs false
namespace Go.Proofs.Ythbbdilcclepoaa
open Go Go.RowKit Go.Proofs.Ythbbdilcclepoaa.Q Go.Proofs.Ythbbdilcclepoaa.Pure Go.Proofs.YthbbdilcclepoaaW.PrintWords Go.Proofs.YthbbdilcclepoaaW.PrintLast Go.Proofs.YthbbdilcclepoaaW.PrintMore
attribute [local go_sem] Oper.semAt_some max2_int min2_int max_two min_two max_three min_three max_four min_four
set_option maxHeartbeats 20000000 in
theorem fails_calls (w : World) (b : Int) (hb : 0 ≤ b ∧ b < 256) (A : Option Addr) (c : Nat) (ls : List S44) (hr : Kd.C k44 w A ls.length ls) (hc : ls.length ≤ c) (hl : ls.length < 9223372036854775808) (hok : ∀ x ∈ ls, (0 ≤ x.f0 ∧ x.f0 < 256) ∧ x.f2.size ≤ 9223372036854775807 ∧ (0 ≤ x.f3 ∧ x.f3 < 256) ∧ 0 ≤ x.f4.f0 ∧ x.f4.f0 < 18446744073709551616) :
    Calls Try.prog 5 #[.int .u8 b, .slice A ls.length c] w fun e w' => e = .returned (.bool true) ∧ Below w.heap.size w w' := by
 obtain ⟨m, hm⟩ : ∃ m : Nat, b % 16 = (m : Int) := ⟨(b % 16).toNat, by omega⟩
 obtain ⟨mn, hmn⟩ : ∃ mn : Nat, 1 + (m : Int) = (mn : Int) := ⟨1 + m, by omega⟩
 have HLAY := hid (show 1 ≤ mn ∧ mn ≤ 16 by omega)
 have hb0 : 0 ≤ b := hb.1
 have HR := hid hr
 have HC := hid hc
 have HL := hid hl
 have HOK := hid hok
 obtain ⟨K, hK⟩ : ∃ K, 8000 ≤ K := ⟨8000, Nat.le_refl _⟩
 have HK := hid hK
 clear hr hc hl hok hb hK
 obtain ⟨gr, hgr1, hgr2⟩ := great_f ls HL.out
 have HG1 := hid hgr1
 have HG2 := hid hgr2
 clear hgr1 hgr2
 go_enter Try.func5, Try.ntmps5
 go_wp2_with fail
 go_at_call 6
 refine ((Dr.start w).make 16 (by decide) (by decide)).mono ?_
 rintro e w1 ⟨v, rfl, D, rfl, hd1, -⟩
 replace hd1 : Dr w w1 [(D, newS 16)] [] := hd1
 have HD1 := hid hd1
 clear hd1
 unfold ptr
 go_wp2_with fail
 go_at_call 8
 refine (Open_ok HD1.out (i := 0) rfl 0 mn HLAY.out.1 (by rw [Nat.zero_add]; exact HLAY.out.2) (by decide)).mono ?_
 rintro e w2 ⟨R, tv, rfl, ho2, hr2⟩
 have HRO := hid hr2
 have HHO := hid ho2
 clear ho2 hr2
 unfold ptr
 go_wp2_with fail
 go_at_call 12
 refine (quittancelaw05_great.calls (ls.length + 1) A c ls gr w2 (Kd.C_below HR.out (HD1.out.below.trans (HHO.out.below HD1.out.below.size (by simp)))) HC.out HG1.out).mono ?_
 rintro e w3 ⟨rfl, hd3⟩
 have HO3 := hid (HHO.out.trans (drawn_only hd3 []) (fun _ h _ => h))
 have HRO3 := hid (HRO.out.new (drawn_only hd3 []))
 clear hd3 HRO
 cases gr with
 | true =>
  go_wp2_with (go_at_call 9; refine (row_head _).mono ?_; rintro e w4 ⟨rfl, hb⟩; have HB4 := hid hb; clear hb)
  go_ret
  exact ⟨rfl, (HD1.out.new HO3.out).below.trans (HB4.out.mono (HD1.out.new HO3.out).below.size)⟩
 | false =>
  have HGL := hid (HG2.out rfl)
  clear HG1 HG2
  go_wp2_with fail
  go_at_call 22
  refine (Row_Texts HRO3.out).mono ?_
  rintro e w4 ⟨sv, rfl, hs4, ho4⟩
  go_upto_region 11 with (fail)
  change Code.wp Try.prog _ _ _ (w4.alloc (boxC 0 0 0))
  obtain ⟨CB, hCB⟩ : ∃ CB, CB = w4.heap.size := ⟨_, rfl⟩
  obtain ⟨w5, hw5⟩ : ∃ w5, w5 = w4.alloc (boxC 0 0 0) := ⟨_, rfl⟩
  rw [← hCB, ← hw5]
  have HT0 := hid (show ∃ F, Fl mn w w5 F D (newS 16) R tv (openRS (newS 16) 0 mn) sv (openRS (newS 16) 0 mn).texts (.slice none 0 0) [] [] [(CB, boxC 0 0 0)] from
   ⟨_, ((Hf.start (Rw.opened (i := 0) HD1.out rfl HO3.out HRO3.out)).sureSet ho4 hs4).boxed (by rw [hw5]; exact Only.alloc [] w4 _) CB _ (by rw [hw5, hCB]; exact heap_alloc_new w4 _) (by omega), hope_new mn HLAY.out, open_texts (hope_new mn HLAY.out).slen HLAY.out.2 rfl, rfl⟩)
  clear hs4 ho4 hCB hw5 HRO3 HO3 HHO HD1
  go_wp2_with fail
  go_loopw [8, 10, 11, 12, 13, 14, 16] (fun v8 v10 v11 v12 v13 v14 v16 wr => ∃ (R : Nat) (sv nv : Value) (fu : Int) (tx : ByteArray) (i : Nat) (s : DS) (r : RS) (tv : Value) (F : List Nat) (xs ys : List ByteArray) (adds : List (Nat × List UInt8)) (kb tb ab : Int), v8 = .pointer (some ⟨R, 0, none⟩) ∧ sv = v10 ∧ nv = v11 ∧ v12 = .int .i64 fu ∧ v13 = .int .u64 0 ∧ v14 = .string tx ∧ v16 = .int .i64 (i : Int) ∧ Aside0 (-1 ≤ fu ∧ fu ≤ 11) ∧ Aside0 (i ≤ ls.length) ∧ Aside0 (Fl mn w wr F D s R tv r sv xs nv ys adds [(CB, boxC kb tb ab)]) ∧ Aside0 (0 ≤ kb ∧ kb < 18446744073709551616)) (fun _ _ _ _ _ _ v16 _ => ls.length - (intOf v16).toNat)
  case atStart =>
   obtain ⟨F, h⟩ := HT0.out
   exact ⟨_, _, _, _, _, 0, _, _, _, _, _, _, _, _, _, _, rfl, rfl, rfl, rfl, rfl, rfl, rfl, ⟨by decide, by decide⟩, ⟨Nat.zero_le _⟩, ⟨h⟩, ⟨by decide, by decide⟩⟩
  case round =>
   clear HT0
   obtain ⟨R, sv, nv, fu, tx, i, s, r, tv, F, xs, ys, adds, kb, tb, ab, rfl, rfl, rfl, rfl, rfl, rfl, rfl, HFU, HI, HT, HKB⟩ := hrel
   by_cases c1 : i < ls.length
   ·
    have d1 : decide ((i : Int) < (ls.length : Int)) = true := decide_eq_true (by omega)
    have d2 : decide (i < ls.length) = true := decide_eq_true c1
    obtain ⟨ad, rfl, x0, x1, x2, x3, x4, x5, x6⟩ := act_cells HR.out HT.out.hf.rw.dr.below i c1
    obtain ⟨X, hX⟩ : ∃ X, X = rd_T44 ls (i : Int) := ⟨_, rfl⟩
    have hXm : X ∈ ls := by rw [hX]; exact act_mem c1
    have hx := HOK.out X hXm
    have hS600 := HGL.out.2 i c1
    rw [← hX] at x0 x1 x2 x3 x4 x5 x6 hS600
    have p1 : (0 ≤ (i : Int)) = True := eq_true (by omega)
    have p2 : ((i : Int) < (ls.length : Int)) = True := eq_true (by omega)
    have C1 := hid c1
    have HXX := hid hx
    have HS600 := hid hS600
    have hi40 : i ≤ 40 := by have := HGL.out.1; omega
    have hs0 : X.f2.size ≤ 9223372036854775807 := hx.2.1
    clear hX hXm c1 hx hS600
    go_upto_region 15 with (fail)
    obtain ⟨W1, hW1⟩ : ∃ W1, W1 = wr.alloc (boxX X) := ⟨_, rfl⟩
    obtain ⟨XB, hXB⟩ : ∃ XB, XB = wr.heap.size := ⟨_, rfl⟩
    have ho1 : Only [] wr W1 := by rw [hW1]; exact Only.alloc [] wr _
    have HT1 := hid (show Fl mn w W1 ([XB] ++ F) D s R tv r sv xs nv ys adds [(XB, boxX X), (CB, boxC kb tb ab)] from ⟨HT.out.hf.boxed ho1 XB _ (by rw [hW1, hXB]; exact heap_alloc_new wr _) (by omega), HT.out.hope, HT.out.xs_, HT.out.ys_⟩)
    have HNE := hid (show CB ≠ XB by
     have := block_lt (HT.out.hf.box (CB, boxC kb tb ab) (by simp)).1
     have h2 : CB < wr.heap.size := this
     omega)
    change Code.wp Try.prog _ _ _ (wr.alloc (boxX X))
    rw [← hW1]
    try rw [← hXB]
    have HTOP := hid (Row_Top HT1.out.hf.rw.row)
    unfold ptr at HTOP
    clear hW1 hXB ho1 x0 x1 x2 x3 x4 x5 x6 HT
    have htn : (0 : Int) ≤ (r.top : Int) := by omega
    by_cases c2 : 4611686018427387904 ≤ r.top
    ·
     have d3 : decide ((4611686018427387904 : Int) ≤ (r.top : Int)) = true := decide_eq_true (by omega)
     have d4 : decide (4611686018427387904 ≤ r.top) = true := decide_eq_true c2
     clear c2
     go_wp2_with (first | (go_at_call 23; refine HTOP.out.mono ?_; rintro e w3 ⟨rfl, h3⟩; have h4 := h3.symm; clear h3; subst h4) | (go_at_call 9; refine (row_head _).mono ?_; rintro e w4 ⟨rfl, hb⟩; have HB4 := hid hb; clear hb))
     try rw [Exit.noGoto_ret]
     go_ret
     exact ⟨rfl, HT1.out.hf.rw.dr.below.trans (HB4.out.mono HT1.out.hf.rw.dr.below.size)⟩
    ·
     have d3 : decide ((4611686018427387904 : Int) ≤ (r.top : Int)) = false := decide_eq_false (by omega)
     have d4 : decide (4611686018427387904 ≤ r.top) = false := decide_eq_false c2
     obtain ⟨st, hst, hstf⟩ := stamp_nat (r.top : Int) X.f1
     have HST := hid hst
     have HSTF := hid hstf
     have htop62 : r.top ≤ 4611686018427387904 := by omega
     have hcell := fun W (ho : Only [] W1 W) => boxX_cells ((HT1.out.new ho).hf.box (XB, boxX X) (by simp)).1
     have HCELL := hid hcell
     have y1 := (HCELL.out W1.drew (Only.drew [] W1)).2.1
     have HTOPD := hid (Row_Top (HT1.out.new (Only.drew [] W1)).hf.rw.row)
     unfold ptr at HTOPD
     clear c2 hst hstf hcell
     go_wp2_with fail
     go_at_call 23
     refine HTOP.out.mono ?_
     rintro e w3 ⟨rfl, h3⟩
     have h4 := h3.symm
     clear h3
     subst h4
     go_upto_region 17 with (fail)
     go_region_held3 (fun W => W.cell? ⟨XB, 1, none⟩ = some (.int .i16 X.f1)) (first | exact y1 | exact u1) (first | (go_at_call 23; refine HTOPD.out.mono ?_; rintro e w3 ⟨rfl, h3⟩; have h4 := h3.symm; clear h3; subst h4) | (go_at_call 14; refine (quittancelaw05_stamp.calls _ X.f1 _ _ HSTF.out).mono ?_; rintro e w4 ⟨rfl, hb⟩; have HO4 := hid ((Only.drew [] W1).trans (Only.of_below (fp := []) hb) (fun _ h _ => h)); clear hb; have u1 := (HCELL.out w4 HO4.out).2.1))
     have HT4 := hid (HT1.out.new HO4.out)
     clear y1 u1 HT1 HTOP HTOPD HSTF HCELL HO4
     obtain ⟨y0, y1, y2, y3, y4, y5, y6⟩ := boxX_cells (HT4.out.hf.box (XB, boxX X) (by simp)).1
     have hx0 : 0 ≤ X.f0 := HXX.out.1.1
     have hm7 : (X.f0 % 7 = 0 ∨ X.f0 % 7 = 1) ∨ X.f0 % 7 = 2 ∨ X.f0 % 7 = 3 ∨ X.f0 % 7 = 4 ∨ X.f0 % 7 = 5 ∨ X.f0 % 7 = 6 := by omega
     rcases hm7 with hm7 | hm7 | hm7 | hm7 | hm7 | hm7
     ·
      as_aux_lemma =>
       rcases hm7 with hm7 | hm7
       all_goals
        have e5 : (X.f0 % 7 == 5) = false := by rw [hm7]; rfl
        go_upto_region 21 with (fail)
        go_wp2_with fail
        go_at_call 24
        refine (HT4.out.hf.fuseCall fu (by have := HFU.out; omega)).mono ?_
        rintro e w5 ⟨rfl, hf5⟩
        have HP5 := hid (HT4.out.hope.fuse fu)
        have HXS := hid (show xs = (T0 (fuseS s fu) mn).texts from HT4.out.xs_)
        have HYS := hid HT4.out.ys_
        obtain ⟨s5, hs5⟩ : ∃ s5, s5 = fuseS s fu := ⟨_, rfl⟩
        rw [← hs5] at HP5 HXS hf5
        have HF5 := hid hf5
        clear y0 y1 y2 y3 y4 y5 y6 hf5 hs5 HT4
        obtain ⟨y0, -, y2, -, y4, y5, y6⟩ := boxX_cells (HF5.out.box (XB, boxX X) (by simp)).1
        first | (have e0 : (X.f0 % 7 == 0) = true := by rw [hm7]; rfl) | (have e0 : (X.f0 % 7 == 0) = false := by rw [hm7]; rfl)
        first | (have e1 : (X.f0 % 7 == 1) = true := by rw [hm7]; rfl) | (have e1 : (X.f0 % 7 == 1) = false := by rw [hm7]; rfl)
        first | (have e2 : (X.f0 % 7 == 2) = true := by rw [hm7]; rfl) | (have e2 : (X.f0 % 7 == 2) = false := by rw [hm7]; rfl)
        first | (have e3 : (X.f0 % 7 == 3) = true := by rw [hm7]; rfl) | (have e3 : (X.f0 % 7 == 3) = false := by rw [hm7]; rfl)
        first | (have e4 : (X.f0 % 7 == 4) = true := by rw [hm7]; rfl) | (have e4 : (X.f0 % 7 == 4) = false := by rw [hm7]; rfl)
        have e6 : (X.f0 % 7 == 6) = false := by rw [hm7]; rfl
        have e6n : (X.f0 % 7 != 6) = true := by rw [hm7]; rfl
        have HAC := hid (HF5.out.addCall st X.f2 HST.out (by have := HP5.out.opn_len; omega))
        have hout := HP5.out.add st X.f2 (by have := HS600.out; omega) HST.out
        obtain ⟨⟨s6, r6, E⟩, hP⟩ : ∃ P, P = addR s5 r st X.f2 := ⟨_, rfl⟩
        rw [← hP] at HAC hout
        have HSU := hid (show s6.sure = s5.sure ∨ True from .inr trivial)
        have HXS6 := hid (show xs = (T0 s6 mn).texts by
         have h2 := addR_sure s5 r st X.f2
         rw [← hP] at h2
         rw [(T0_eq h2 mn).1]; exact HXS.out)
        clear hP HSU
        simp only at hout
        go_upto_region 26 with (fail)
        go_wp2_with fail
        go_at_call 18
        refine HAC.out.mono ?_
        rintro e w6 ⟨rfl, F6, tv6, hf6⟩
        have HF6 := hid hf6
        clear hf6 HAC HF5 y0 y2 y4 y5 y6
        obtain ⟨y0, -, y2, -, y4, y5, y6⟩ := boxX_cells (HF6.out.box (XB, boxX X) (by simp)).1
        rcases hout with ⟨h0, hp6⟩ | ⟨h0, hd6, ht6, hl6⟩ | ⟨hE1, hE2, hq1, hq2⟩
        ·
         as_aux_lemma =>
          subst h0
          have HP6 := hid hp6
          clear hp6
          obtain ⟨tj, htj, hjz, hjs, hjb⟩ := info_three Q.info9
          have HTJ := hid (And.intro htj (And.intro hjz (And.intro hjs hjb)))
          have HYL := hid (show ys.length ≤ 4096 by
           rw [HYS.out, List.length_map]
           have := adds_len adds
           have := HP5.out.room
           have := HP5.out.n1
           omega)
          have HSZ := hid HF6.out.rw.dr.below.size
          clear htj hjz hjs hjb
          go_wp2_with (at_builtin; refine wpList_append_lies _ rfl (.tmp 107) (.tmp 110) 22 rfl w.heap.size 9 tj _ 1 16 Try.underlying22 HTJ.out.1 HTJ.out.2.1 HTJ.out.2.2.1 HTJ.out.2.2.2 rfl (by decide) nv ys.length _ rfl (HF6.out.since.alloc _) ⟨w6.heap.size, 0, none⟩ 1 1 [.string X.f2] rfl rfl (World.news_of_block (heap_alloc_new w6 _)) (one_str _) (by decide) (by have := HYL.out; unfold maxLen; omega) (by have := HYL.out; omega) (by have := HSZ.out; simp; omega) (w6.heap.size + 1) (by simp) ?_; intro g4 cap4 W4 hown4 hgrow4 hat4 hgl4; have HF9 := hid (HF6.out.sinceApp hown4 hgrow4 hat4 hgl4); clear hown4 hgrow4 hat4 hgl4 y0 y2 y4 y5 y6; obtain ⟨y0, -, y2, -, y4, y5, y6⟩ := boxX_cells (HF9.out.box (XB, boxX X) (by simp)).1)
          have HYS9 := hid (show ys ++ [X.f2] = (adds ++ [(st, X.f2.data.toList)]).map (fun a => B a.2) by rw [List.map_append, ← HYS.out]; show _ = ys ++ [B X.f2.data.toList]; rw [B_self'])
          go_at_call 24
          refine (HF9.out.fuseCall (-1) (by decide)).mono ?_
          rintro e w8 ⟨rfl, hf8⟩
          have HF8 := hid hf8
          clear hf8
          go_wp2_with fail
          go_roundw
          case rel => exact ⟨_, _, _, _, _, i + 1, _, _, _, _, _, _, _, _, _, _, rfl, rfl, rfl, rfl, rfl, rfl, by go_num, ⟨by decide, by decide⟩, ⟨by have := C1.out; omega⟩, ⟨⟨HF8.out.less (fun p hp => by simp only [List.mem_cons, List.not_mem_nil, or_false] at hp ⊢; exact .inr hp), HP6.out.fuse (-1), HXS6.out, HYS9.out⟩⟩, ⟨HKB.out⟩⟩
          case measure => simp [intOf]; have := C1.out; omega
        ·
         as_aux_lemma =>
          subst h0
          have HLO := hid hl6
          have HDN := hid hd6
          have HRT := hid ht6
          clear hd6 ht6 hl6
          obtain ⟨tj, htj, hjz, hjs, hjb⟩ := info_three Q.info9
          have HTJ := hid (And.intro htj (And.intro hjz (And.intro hjs hjb)))
          have HYL := hid (show ys.length ≤ 4096 by
           rw [HYS.out, List.length_map]
           have := adds_len adds
           have := HP5.out.room
           have := HP5.out.n1
           omega)
          have HSZ := hid HF6.out.rw.dr.below.size
          clear htj hjz hjs hjb
          go_wp2_with (at_builtin; refine wpList_append_lies _ rfl (.tmp 107) (.tmp 110) 22 rfl w.heap.size 9 tj _ 1 16 Try.underlying22 HTJ.out.1 HTJ.out.2.1 HTJ.out.2.2.1 HTJ.out.2.2.2 rfl (by decide) nv ys.length _ rfl (HF6.out.since.alloc _) ⟨w6.heap.size, 0, none⟩ 1 1 [.string X.f2] rfl rfl (World.news_of_block (heap_alloc_new w6 _)) (one_str _) (by decide) (by have := HYL.out; unfold maxLen; omega) (by have := HYL.out; omega) (by have := HSZ.out; simp; omega) (w6.heap.size + 1) (by simp) ?_; intro g4 cap4 W4 hown4 hgrow4 hat4 hgl4; have HF9 := hid (HF6.out.sinceApp hown4 hgrow4 hat4 hgl4); clear hown4 hgrow4 hat4 hgl4 y0 y2 y4 y5 y6; obtain ⟨y0, -, y2, -, y4, y5, y6⟩ := boxX_cells (HF9.out.box (XB, boxX X) (by simp)).1)
          have HYS9 := hid (show ys ++ [X.f2] = (adds ++ [(st, X.f2.data.toList)]).map (fun a => B a.2) by rw [List.map_append, ← HYS.out]; show _ = ys ++ [B X.f2.data.toList]; rw [B_self'])
          have HTP := hid (HF9.out.topCall HRT.out)
          have HML := hid (show s6.opn.length ≤ 100 from Nat.le_trans HLO.out.opn_len (by decide))
          have HTB := hid htop62
          have HDA := hid (HF9.out.addDown1 HDN.out r.top htop62 HML.out)
          go_at_call 23
          refine HTP.out.mono ?_
          rintro e w10 ⟨rfl, h3⟩
          have h4 := h3.symm
          clear h3
          subst h4
          go_wp2_with fail
          go_at_call 18
          refine HDA.out.mono ?_
          rintro e w10 ⟨rfl, F10, tv10, hf10⟩
          have HF10 := hid hf10
          have HTP10 := hid (HF10.out.topCall HRT.out)
          have HDB := hid (HF10.out.beginDown1 HDN.out r.top htop62 HML.out)
          clear hf10
          go_wp2_with fail
          go_at_call 23
          refine HTP10.out.mono ?_
          rintro e w11 ⟨rfl, h3⟩
          have h4 := h3.symm
          clear h3
          subst h4
          go_wp2_with fail
          go_at_call 19
          refine HDB.out.mono ?_
          rintro e w11 ⟨rfl, F11, tv11, hf11⟩
          have HF11 := hid hf11
          clear hf11 HDB HTP10 HDA HTP y0 y2 y4 y5 y6
          obtain ⟨y0, -, y2, -, y4, y5, y6⟩ := boxX_cells (HF11.out.box (XB, boxX X) (by simp)).1
          obtain ⟨z0, z1, z2⟩ := boxC_cells (HF11.out.box (CB, boxC kb tb ab) (by simp)).1
          go_upto_region 54 with (fail)
          have hcr := crash_tells HLO.out kb tb ab HXS6.out HYS9.out K HK.out
          obtain ⟨s7, hs7⟩ : ∃ s7, s7 = crashS s6 kb tb ab := ⟨_, rfl⟩
          rw [← hs7] at hcr
          have HP7 := hid hcr.1
          have HBG := hid hcr.2
          have HCC := hid (HF11.out.crashCall (by have := HLO.out.opn_len; omega) kb tb ab HKB.out)
          rw [← hs7] at HCC
          have HE7 := hid (show s7.now = s7.sure by rw [hs7]; rfl)
          clear hcr hs7
          go_wp2_with fail
          go_at_call 25
          refine HCC.out.mono ?_
          rintro e w7 ⟨rfl, hf7⟩
          have HF7 := hid hf7
          clear hf7 HCC
          go_wp2_with fail
          go_at_call 8
          refine (HF7.out.openCall mn HLAY.out HP7.out.nlen).mono ?_
          rintro e w8 ⟨R8, rfl, F8, tv8, hf8⟩
          have HF8 := hid hf8
          clear hf8 HF7
          go_wp2_with fail
          go_at_call 22
          refine (Row_Texts HF8.out.rw.row).mono ?_
          rintro e w9 ⟨v9, rfl, hs9, ho9⟩
          obtain ⟨T9, hT9⟩ : ∃ T9, T9 = (openRS s7 0 mn).texts := ⟨_, rfl⟩
          rw [← hT9] at hs9 HBG
          have HT9 := hid (show T9 = (T0 s7 mn).texts by rw [hT9]; exact open_texts HP7.out.slen HLAY.out.2 HE7.out)
          have HS9 := hid hs9
          have HO9 := hid ho9
          obtain ⟨A9, c9, hv9, hc9, hC9⟩ := own_C_str hs9
          obtain ⟨As, cs, hvs, hcs, hCs⟩ := own_C_str (HF8.out.new ho9).sure
          obtain ⟨An, cn, hvn, hcn, hCn⟩ := own_C_str (HF8.out.new ho9).since
          have HBC := hid (quittanceref05_Begins.calls K A9 c9 T9 As cs _ An cn _ true w9 hC9 hc9 hCs hcs hCn hcn HBG.out)
          rw [← hv9, ← hvs, ← hvn] at HBC
          clear hT9 hs9 ho9 hC9 hCs hCn hv9 hvs hvn hc9 hcs hcn
          go_wp2_with (go_at_call 26; refine HBC.out.mono ?_; rintro e w10 ⟨rfl, hb10⟩; have HB10 := hid (Only.of_below (fp := []) hb10); clear hb10)
          have HFF := HF8.out.closed HS9.out HO9.out HB10.out
          obtain ⟨FF, hff⟩ := HFF
          go_roundw
          case rel => exact ⟨_, _, _, _, _, i + 1, _, _, _, _, _, _, _, _, _, _, rfl, rfl, rfl, rfl, rfl, rfl, by go_num, ⟨by decide, by decide⟩, ⟨by have := C1.out; omega⟩, ⟨⟨hff, HP7.out, HT9.out, rfl⟩⟩, ⟨HKB.out⟩⟩
          case measure => simp [intOf]; have := C1.out; omega
        ·
         as_aux_lemma =>
          have hE : E ≠ 0 ∧ E ≠ 30 := ⟨hE1, hE2⟩
          subst hq1 hq2
          clear hE1 hE2
          have HE := hid hE
          have x1 : (E == 0) = false := by rw [beq_eq_false_iff_ne]; exact HE.out.1
          have x2 : (E == 30) = false := by rw [beq_eq_false_iff_ne]; exact HE.out.2
          have x3 : (E != 30) = true := by rw [bne, x2]; rfl
          clear hE
          go_wp2_with (go_at_call 24; refine (HF6.out.fuseCall (-1) (by decide)).mono ?_; rintro e w8 ⟨rfl, hf8⟩; have HF8 := hid hf8; clear hf8)
          go_roundw
          case rel => exact ⟨_, _, _, _, _, i + 1, _, _, _, _, _, _, _, _, _, _, rfl, rfl, rfl, rfl, rfl, rfl, by go_num, ⟨by decide, by decide⟩, ⟨by have := C1.out; omega⟩, ⟨⟨HF8.out.less (fun p hp => by simp only [List.mem_cons, List.not_mem_nil, or_false] at hp ⊢; exact .inr hp), HP5.out.fuse (-1), HXS.out, HYS.out⟩⟩, ⟨HKB.out⟩⟩
          case measure => simp [intOf]; have := C1.out; omega
     ·
      as_aux_lemma =>
       have e5 : (X.f0 % 7 == 5) = false := by rw [hm7]; rfl
       go_upto_region 21 with (fail)
       go_wp2_with fail
       go_at_call 24
       refine (HT4.out.hf.fuseCall fu (by have := HFU.out; omega)).mono ?_
       rintro e w5 ⟨rfl, hf5⟩
       have HP5 := hid (HT4.out.hope.fuse fu)
       have HXS := hid (show xs = (T0 (fuseS s fu) mn).texts from HT4.out.xs_)
       have HYS := hid HT4.out.ys_
       obtain ⟨s5, hs5⟩ : ∃ s5, s5 = fuseS s fu := ⟨_, rfl⟩
       rw [← hs5] at HP5 HXS hf5
       have HF5 := hid hf5
       clear y0 y1 y2 y3 y4 y5 y6 hf5 hs5 HT4
       obtain ⟨y0, -, y2, -, y4, y5, y6⟩ := boxX_cells (HF5.out.box (XB, boxX X) (by simp)).1
       have e0 : (X.f0 % 7 == 0) = false := by rw [hm7]; rfl
       have e1 : (X.f0 % 7 == 1) = false := by rw [hm7]; rfl
       have e2 : (X.f0 % 7 == 2) = true := by rw [hm7]; rfl
       have e3 : (X.f0 % 7 == 3) = false := by rw [hm7]; rfl
       have e4 : (X.f0 % 7 == 4) = false := by rw [hm7]; rfl
       have e6 : (X.f0 % 7 == 6) = false := by rw [hm7]; rfl
       have e6n : (X.f0 % 7 != 6) = true := by rw [hm7]; rfl
       have HAC := hid (HF5.out.beginCall st X.f2 HST.out (by have := HP5.out.opn_len; omega))
       have hout := HP5.out.begin st X.f2 (by have := HS600.out; omega) HST.out
       obtain ⟨⟨s6, r6, E⟩, hP⟩ : ∃ P, P = beginR s5 r st X.f2 := ⟨_, rfl⟩
       rw [← hP] at HAC hout
       clear hP
       simp only at hout
       go_upto_region 31 with (fail)
       go_wp2_with fail
       go_at_call 19
       refine HAC.out.mono ?_
       rintro e w6 ⟨rfl, F6, tv6, hf6⟩
       have HF6 := hid hf6
       clear hf6 HAC HF5 y0 y2 y4 y5 y6
       obtain ⟨y0, -, y2, -, y4, y5, y6⟩ := boxX_cells (HF6.out.box (XB, boxX X) (by simp)).1
       rcases hout with ⟨h0, hst0, hb6⟩ | ⟨h0, hst0, hd6, ht6, hl6⟩ | ⟨hE1, hE2, hq1, hq2⟩
       ·
        as_aux_lemma =>
         subst h0
         have HS0 := hid hst0
         have HBE := hid hb6
         clear hst0 hb6
         have HSC := hid HF6.out.syncCall
         have hsy := HBE.out.sync
         obtain ⟨P, hP⟩ : ∃ P, P = syncR s6 := ⟨_, rfl⟩
         rw [← hP] at HSC hsy
         clear hP
         go_wp2_with fail
         go_at_call 20
         refine HSC.out.mono ?_
         rintro e w7 ⟨rfl, hf7⟩
         have HF7 := hid hf7
         clear hf7 HSC HF6 y0 y2 y4 y5 y6
         obtain ⟨y0, -, y2, -, y4, y5, y6⟩ := boxX_cells (HF7.out.box (XB, boxX X) (by simp)).1
         rcases hsy with ⟨g0, hp7, ht7⟩ | g30
         ·
          as_aux_lemma =>
           rw [g0]
           have HP7 := hid hp7
           have HT7 := hid ht7
           have HF9 := hid ((HF7.out.sureSet (Only.alloc [] w7 (.cells #[.string X.f2] 9)) (own_lit w7 X.f2)).sinceNil)
           obtain ⟨q0, -, q2, -⟩ := boxX_cells (HF9.out.box (XB, boxX X) (by simp)).1
           clear g0 hp7 ht7 HF7
           go_wp2_with fail
           go_at_call 24
           refine (HF9.out.fuseCall (-1) (by decide)).mono ?_
           rintro e w8 ⟨rfl, hf8⟩
           have HF8 := hid hf8
           clear hf8
           go_wp2_with fail
           go_roundw
           case rel => exact ⟨_, _, _, _, _, i + 1, _, _, _, _, _, _, _, _, _, _, rfl, rfl, rfl, rfl, rfl, rfl, by go_num, ⟨by decide, by decide⟩, ⟨by have := C1.out; omega⟩, ⟨⟨HF8.out.less (fun p hp => by simp only [List.mem_cons, List.not_mem_nil, or_false] at hp ⊢; exact .inr hp), HP7.out.fuse (-1), HT7.out.symm, rfl⟩⟩, ⟨HKB.out⟩⟩
           case measure => simp [intOf]; have := C1.out; omega
         ·
          as_aux_lemma =>
           rw [g30] at HF7 ⊢
           have HLO := hid HBE.out.loose
           clear g30 HBE
           obtain ⟨z0, z1, z2⟩ := boxC_cells (HF7.out.box (CB, boxC kb tb ab) (by simp)).1
           have b1 : ((st : Int) == 0) = false := by rw [beq_eq_false_iff_ne]; have := HS0.out; omega
           have b2 : decide ((0 : Int) < (st : Int)) = true := decide_eq_true (by have := HS0.out; omega)
           have b3 : decide (0 < st) = true := decide_eq_true HS0.out
           have b4 : (st == 0) = false := by rw [beq_eq_false_iff_ne]; have := HS0.out; omega
           go_upto_region 54 with (fail)
           have hcr := crash_begun HLO.out kb tb ab
           obtain ⟨s7, hs7⟩ : ∃ s7, s7 = crashS s6 kb tb ab := ⟨_, rfl⟩
           rw [← hs7] at hcr
           have HP7 := hid hcr.1
           have HBG := hid hcr.2
           have HCC := hid (HF7.out.crashCall (by have := HLO.out.opn_len; omega) kb tb ab HKB.out)
           rw [← hs7] at HCC
           have HE7 := hid (show s7.now = s7.sure by rw [hs7]; rfl)
           clear hcr hs7
           go_wp2_with fail
           go_at_call 25
           refine HCC.out.mono ?_
           rintro e w7 ⟨rfl, hf7⟩
           have HF7 := hid hf7
           clear hf7 HCC
           go_wp2_with fail
           go_at_call 8
           refine (HF7.out.openCall mn HLAY.out HP7.out.nlen).mono ?_
           rintro e w8 ⟨R8, rfl, F8, tv8, hf8⟩
           have HF8 := hid hf8
           clear hf8 HF7
           go_wp2_with fail
           go_at_call 22
           refine (Row_Texts HF8.out.rw.row).mono ?_
           rintro e w9 ⟨v9, rfl, hs9, ho9⟩
           obtain ⟨T9, hT9⟩ : ∃ T9, T9 = (openRS s7 0 mn).texts := ⟨_, rfl⟩
           obtain ⟨fr9, hfr9⟩ : ∃ fr9, fr9 = (openRS s7 0 mn).first := ⟨_, rfl⟩
           have HFI := hid (fun W (ho : Only [] w9 W) => Row_First ((HF8.out.new ho9).new ho).rw.row)
           rw [← hT9] at hs9 HBG
           rw [← hfr9] at HBG HFI
           unfold ptr at HFI
           have HT9 := hid (show T9 = (T0 s7 mn).texts by rw [hT9]; exact open_texts HP7.out.slen HLAY.out.2 HE7.out)
           have HS9 := hid hs9
           have HO9 := hid ho9
           obtain ⟨A9, c9, hv9, hc9, hC9⟩ := own_C_str hs9
           have y3 : decide ((st : Int) < (fr9 : Int)) = false := decide_eq_false (by have := HBG.out.1; omega)
           have y4 : decide (st < fr9) = false := decide_eq_false (by have := HBG.out.1; omega)
           clear hT9 hfr9 hs9 ho9
           have hff : fr9 = st ∨ fr9 ≠ st := Classical.em _
           rcases hff with hff | hff
           ·
            as_aux_lemma =>
             have y5 : ((fr9 : Int) == (st : Int)) = true := by rw [beq_iff_eq, hff]
             have y6 : (fr9 == st) = true := by rw [beq_iff_eq, hff]
             have hTX := HBG.out.2 hff
             have HSM : Hid (Calls Try.prog 28 #[v9, .slice (some ⟨w9.heap.size, 0, none⟩) 1 1] (w9.alloc (.cells #[.string X.f2] 9)) fun e w' => e = .returned (.bool true) ∧ Drawn0 (w9.alloc (.cells #[.string X.f2] 9)) w') := by
              rw [hv9]
              refine hid (quittanceref01_Same.calls K A9 c9 T9 (some ⟨w9.heap.size, 0, none⟩) 1 [X.f2] true (w9.alloc (.cells #[.string X.f2] 9)) (Kd.C_below hC9 ((Only.alloc [] w9 _).below (Nat.le_refl _) (by simp))) hc9 (lit_C w9 X.f2) (Nat.le_refl _) ?_)
              rw [hTX]
              exact Same_f K [X.f2] (by simp) (by have := HK.out; simp; omega)
             clear hTX hC9 hv9 hc9 hff
             go_wp2_with fail
             go_at_call 27
             refine (HFI.out w9 (Only.refl _ _)).mono ?_
             rintro e w10 ⟨rfl, h3⟩
             have h4 := h3.symm
             clear h3
             subst h4
             go_wp2_with fail
             go_at_call 28
             refine HSM.out.mono ?_
             rintro e w11 ⟨rfl, hd11⟩
             have HO11 := hid ((Only.alloc [] w9 (.cells #[.string X.f2] 9)).trans (drawn_only hd11 []) (fun _ h _ => h))
             clear hd11 HSM
             go_wp2_with fail
             go_at_call 27
             refine (HFI.out w11 HO11.out).mono ?_
             rintro e w12 ⟨rfl, h3⟩
             have h4 := h3.symm
             clear h3
             subst h4
             go_wp2_with fail
             obtain ⟨FF, hff⟩ := HF8.out.closed HS9.out HO9.out HO11.out
             go_roundw
             case rel => exact ⟨_, _, _, _, _, i + 1, _, _, _, _, _, _, _, _, _, _, rfl, rfl, rfl, rfl, rfl, rfl, by go_num, ⟨by decide, by decide⟩, ⟨by have := C1.out; omega⟩, ⟨⟨hff, HP7.out, HT9.out, rfl⟩⟩, ⟨HKB.out⟩⟩
             case measure => simp [intOf]; have := C1.out; omega
           ·
            as_aux_lemma =>
             have y5 : ((fr9 : Int) == (st : Int)) = false := by rw [beq_eq_false_iff_ne]; omega
             have y6 : (fr9 == st) = false := by rw [beq_eq_false_iff_ne]; exact hff
             clear hC9 hv9 hc9 hff
             go_wp2_with fail
             go_at_call 27
             refine (HFI.out w9 (Only.refl _ _)).mono ?_
             rintro e w10 ⟨rfl, h3⟩
             have h4 := h3.symm
             clear h3
             subst h4
             go_wp2_with fail
             go_at_call 27
             refine (HFI.out w9 (Only.refl _ _)).mono ?_
             rintro e w10 ⟨rfl, h3⟩
             have h4 := h3.symm
             clear h3
             subst h4
             go_wp2_with fail
             obtain ⟨FF, hff⟩ := HF8.out.closed HS9.out HO9.out (Only.refl [] w9)
             go_roundw
             case rel => exact ⟨_, _, _, _, _, i + 1, _, _, _, _, _, _, _, _, _, _, rfl, rfl, rfl, rfl, rfl, rfl, by go_num, ⟨by decide, by decide⟩, ⟨by have := C1.out; omega⟩, ⟨⟨hff, HP7.out, HT9.out, rfl⟩⟩, ⟨HKB.out⟩⟩
             case measure => simp [intOf]; have := C1.out; omega
       ·
        as_aux_lemma =>
         subst h0
         have HS0 := hid hst0
         have HLO := hid hl6
         have HDN := hid hd6
         have HRT := hid ht6
         clear hst0 hd6 ht6 hl6
         go_wp2_with fail
         have HTP := hid (HF6.out.topCall HRT.out)
         have HML := hid (show s6.opn.length ≤ 100 from Nat.le_trans HLO.out.opn_len (by decide))
         have HTB := hid htop62
         have HDA := hid (HF6.out.addDown1 HDN.out r.top htop62 HML.out)
         go_at_call 23
         refine HTP.out.mono ?_
         rintro e w10 ⟨rfl, h3⟩
         have h4 := h3.symm
         clear h3
         subst h4
         go_wp2_with fail
         go_at_call 18
         refine HDA.out.mono ?_
         rintro e w10 ⟨rfl, F10, tv10, hf10⟩
         have HF10 := hid hf10
         have HTP10 := hid (HF10.out.topCall HRT.out)
         have HDB := hid (HF10.out.beginDown1 HDN.out r.top htop62 HML.out)
         clear hf10
         go_wp2_with fail
         go_at_call 23
         refine HTP10.out.mono ?_
         rintro e w11 ⟨rfl, h3⟩
         have h4 := h3.symm
         clear h3
         subst h4
         go_wp2_with fail
         go_at_call 19
         refine HDB.out.mono ?_
         rintro e w11 ⟨rfl, F11, tv11, hf11⟩
         have HF11 := hid hf11
         clear hf11 HDB HTP10 HDA HTP y0 y2 y4 y5 y6
         obtain ⟨y0, -, y2, -, y4, y5, y6⟩ := boxX_cells (HF11.out.box (XB, boxX X) (by simp)).1
         obtain ⟨z0, z1, z2⟩ := boxC_cells (HF11.out.box (CB, boxC kb tb ab) (by simp)).1
         have b1 : ((st : Int) == 0) = false := by rw [beq_eq_false_iff_ne]; have := HS0.out; omega
         have b2 : decide ((0 : Int) < (st : Int)) = true := decide_eq_true (by have := HS0.out; omega)
         have b3 : decide (0 < st) = true := decide_eq_true HS0.out
         have b4 : (st == 0) = false := by rw [beq_eq_false_iff_ne]; have := HS0.out; omega
         go_upto_region 54 with (fail)
         have hcr := crash_begun HLO.out kb tb ab
         obtain ⟨s7, hs7⟩ : ∃ s7, s7 = crashS s6 kb tb ab := ⟨_, rfl⟩
         rw [← hs7] at hcr
         have HP7 := hid hcr.1
         have HBG := hid hcr.2
         have HCC := hid (HF11.out.crashCall (by have := HLO.out.opn_len; omega) kb tb ab HKB.out)
         rw [← hs7] at HCC
         have HE7 := hid (show s7.now = s7.sure by rw [hs7]; rfl)
         clear hcr hs7
         go_wp2_with fail
         go_at_call 25
         refine HCC.out.mono ?_
         rintro e w7 ⟨rfl, hf7⟩
         have HF7 := hid hf7
         clear hf7 HCC
         go_wp2_with fail
         go_at_call 8
         refine (HF7.out.openCall mn HLAY.out HP7.out.nlen).mono ?_
         rintro e w8 ⟨R8, rfl, F8, tv8, hf8⟩
         have HF8 := hid hf8
         clear hf8 HF7
         go_wp2_with fail
         go_at_call 22
         refine (Row_Texts HF8.out.rw.row).mono ?_
         rintro e w9 ⟨v9, rfl, hs9, ho9⟩
         obtain ⟨T9, hT9⟩ : ∃ T9, T9 = (openRS s7 0 mn).texts := ⟨_, rfl⟩
         obtain ⟨fr9, hfr9⟩ : ∃ fr9, fr9 = (openRS s7 0 mn).first := ⟨_, rfl⟩
         have HFI := hid (fun W (ho : Only [] w9 W) => Row_First ((HF8.out.new ho9).new ho).rw.row)
         rw [← hT9] at hs9 HBG
         rw [← hfr9] at HBG HFI
         unfold ptr at HFI
         have HT9 := hid (show T9 = (T0 s7 mn).texts by rw [hT9]; exact open_texts HP7.out.slen HLAY.out.2 HE7.out)
         have HS9 := hid hs9
         have HO9 := hid ho9
         obtain ⟨A9, c9, hv9, hc9, hC9⟩ := own_C_str hs9
         have y3 : decide ((st : Int) < (fr9 : Int)) = false := decide_eq_false (by have := HBG.out.1; omega)
         have y4 : decide (st < fr9) = false := decide_eq_false (by have := HBG.out.1; omega)
         clear hT9 hfr9 hs9 ho9
         have hff : fr9 = st ∨ fr9 ≠ st := Classical.em _
         rcases hff with hff | hff
         ·
          as_aux_lemma =>
           have y5 : ((fr9 : Int) == (st : Int)) = true := by rw [beq_iff_eq, hff]
           have y6 : (fr9 == st) = true := by rw [beq_iff_eq, hff]
           have hTX := HBG.out.2 hff
           have HSM : Hid (Calls Try.prog 28 #[v9, .slice (some ⟨w9.heap.size, 0, none⟩) 1 1] (w9.alloc (.cells #[.string X.f2] 9)) fun e w' => e = .returned (.bool true) ∧ Drawn0 (w9.alloc (.cells #[.string X.f2] 9)) w') := by
            rw [hv9]
            refine hid (quittanceref01_Same.calls K A9 c9 T9 (some ⟨w9.heap.size, 0, none⟩) 1 [X.f2] true (w9.alloc (.cells #[.string X.f2] 9)) (Kd.C_below hC9 ((Only.alloc [] w9 _).below (Nat.le_refl _) (by simp))) hc9 (lit_C w9 X.f2) (Nat.le_refl _) ?_)
            rw [hTX]
            exact Same_f K [X.f2] (by simp) (by have := HK.out; simp; omega)
           clear hTX hC9 hv9 hc9 hff
           go_wp2_with fail
           go_at_call 27
           refine (HFI.out w9 (Only.refl _ _)).mono ?_
           rintro e w10 ⟨rfl, h3⟩
           have h4 := h3.symm
           clear h3
           subst h4
           go_wp2_with fail
           go_at_call 28
           refine HSM.out.mono ?_
           rintro e w11 ⟨rfl, hd11⟩
           have HO11 := hid ((Only.alloc [] w9 (.cells #[.string X.f2] 9)).trans (drawn_only hd11 []) (fun _ h _ => h))
           clear hd11 HSM
           go_wp2_with fail
           go_at_call 27
           refine (HFI.out w11 HO11.out).mono ?_
           rintro e w12 ⟨rfl, h3⟩
           have h4 := h3.symm
           clear h3
           subst h4
           go_wp2_with fail
           obtain ⟨FF, hff⟩ := HF8.out.closed HS9.out HO9.out HO11.out
           go_roundw
           case rel => exact ⟨_, _, _, _, _, i + 1, _, _, _, _, _, _, _, _, _, _, rfl, rfl, rfl, rfl, rfl, rfl, by go_num, ⟨by decide, by decide⟩, ⟨by have := C1.out; omega⟩, ⟨⟨hff, HP7.out, HT9.out, rfl⟩⟩, ⟨HKB.out⟩⟩
           case measure => simp [intOf]; have := C1.out; omega
         ·
          as_aux_lemma =>
           have y5 : ((fr9 : Int) == (st : Int)) = false := by rw [beq_eq_false_iff_ne]; omega
           have y6 : (fr9 == st) = false := by rw [beq_eq_false_iff_ne]; exact hff
           clear hC9 hv9 hc9 hff
           go_wp2_with fail
           go_at_call 27
           refine (HFI.out w9 (Only.refl _ _)).mono ?_
           rintro e w10 ⟨rfl, h3⟩
           have h4 := h3.symm
           clear h3
           subst h4
           go_wp2_with fail
           go_at_call 27
           refine (HFI.out w9 (Only.refl _ _)).mono ?_
           rintro e w10 ⟨rfl, h3⟩
           have h4 := h3.symm
           clear h3
           subst h4
           go_wp2_with fail
           obtain ⟨FF, hff⟩ := HF8.out.closed HS9.out HO9.out (Only.refl [] w9)
           go_roundw
           case rel => exact ⟨_, _, _, _, _, i + 1, _, _, _, _, _, _, _, _, _, _, rfl, rfl, rfl, rfl, rfl, rfl, by go_num, ⟨by decide, by decide⟩, ⟨by have := C1.out; omega⟩, ⟨⟨hff, HP7.out, HT9.out, rfl⟩⟩, ⟨HKB.out⟩⟩
           case measure => simp [intOf]; have := C1.out; omega
       ·
        as_aux_lemma =>
         have hE : E ≠ 0 ∧ E ≠ 30 := ⟨hE1, hE2⟩
         subst hq1 hq2
         clear hE1 hE2
         have HE := hid hE
         have x1 : (E == 0) = false := by rw [beq_eq_false_iff_ne]; exact HE.out.1
         have x2 : (E == 30) = false := by rw [beq_eq_false_iff_ne]; exact HE.out.2
         have x3 : (E != 30) = true := by rw [bne, x2]; rfl
         clear hE
         go_wp2_with (go_at_call 24; refine (HF6.out.fuseCall (-1) (by decide)).mono ?_; rintro e w8 ⟨rfl, hf8⟩; have HF8 := hid hf8; clear hf8)
         go_roundw
         case rel => exact ⟨_, _, _, _, _, i + 1, _, _, _, _, _, _, _, _, _, _, rfl, rfl, rfl, rfl, rfl, rfl, by go_num, ⟨by decide, by decide⟩, ⟨by have := C1.out; omega⟩, ⟨⟨HF8.out.less (fun p hp => by simp only [List.mem_cons, List.not_mem_nil, or_false] at hp ⊢; exact .inr hp), HP5.out.fuse (-1), HXS.out, HYS.out⟩⟩, ⟨HKB.out⟩⟩
         case measure => simp [intOf]; have := C1.out; omega
     ·
      as_aux_lemma =>
       have e5 : (X.f0 % 7 == 5) = false := by rw [hm7]; rfl
       go_upto_region 21 with (fail)
       go_wp2_with fail
       go_at_call 24
       refine (HT4.out.hf.fuseCall fu (by have := HFU.out; omega)).mono ?_
       rintro e w5 ⟨rfl, hf5⟩
       have HP5 := hid (HT4.out.hope.fuse fu)
       have HXS := hid (show xs = (T0 (fuseS s fu) mn).texts from HT4.out.xs_)
       have HYS := hid HT4.out.ys_
       obtain ⟨s5, hs5⟩ : ∃ s5, s5 = fuseS s fu := ⟨_, rfl⟩
       rw [← hs5] at HP5 HXS hf5
       have HF5 := hid hf5
       clear y0 y1 y2 y3 y4 y5 y6 hf5 hs5 HT4
       obtain ⟨y0, -, y2, -, y4, y5, y6⟩ := boxX_cells (HF5.out.box (XB, boxX X) (by simp)).1
       have e0 : (X.f0 % 7 == 0) = false := by rw [hm7]; rfl
       have e1 : (X.f0 % 7 == 1) = false := by rw [hm7]; rfl
       have e2 : (X.f0 % 7 == 2) = false := by rw [hm7]; rfl
       have e3 : (X.f0 % 7 == 3) = true := by rw [hm7]; rfl
       have e4 : (X.f0 % 7 == 4) = false := by rw [hm7]; rfl
       have e6 : (X.f0 % 7 == 6) = false := by rw [hm7]; rfl
       have e6n : (X.f0 % 7 != 6) = true := by rw [hm7]; rfl
       have HSC := hid HF5.out.syncCall
       have hsy := HP5.out.sync
       obtain ⟨P, hP⟩ : ∃ P, P = syncR s5 := ⟨_, rfl⟩
       rw [← hP] at HSC hsy
       clear hP
       go_upto_region 43 with (fail)
       go_wp2_with fail
       go_at_call 20
       refine HSC.out.mono ?_
       rintro e w6 ⟨rfl, hf6⟩
       have HF6 := hid hf6
       clear hf6 HSC HF5 y0 y2 y4 y5 y6
       obtain ⟨y0, -, y2, -, y4, y5, y6⟩ := boxX_cells (HF6.out.box (XB, boxX X) (by simp)).1
       rcases hsy with ⟨h0, hp6, ht6⟩ | h30
       ·
        as_aux_lemma =>
         rw [h0]
         have HP6 := hid hp6
         have HT6 := hid ht6
         clear h0 hp6 ht6
         go_wp2_with fail
         go_at_call 22
         refine (Row_Texts HF6.out.rw.row).mono ?_
         rintro e w7 ⟨v7, rfl, hs7, ho7⟩
         have HF7 := hid ((HF6.out.sureSet ho7 hs7).sinceNil)
         clear hs7 ho7 HF6 y0 y2 y4 y5 y6
         obtain ⟨y0, -, y2, -, y4, y5, y6⟩ := boxX_cells (HF7.out.box (XB, boxX X) (by simp)).1
         go_wp2_with (go_at_call 24; refine (HF7.out.fuseCall (-1) (by decide)).mono ?_; rintro e w8 ⟨rfl, hf8⟩; have HF8 := hid hf8; clear hf8)
         go_roundw
         case rel => exact ⟨_, _, _, _, _, i + 1, _, _, _, _, _, _, _, _, _, _, rfl, rfl, rfl, rfl, rfl, rfl, by go_num, ⟨by decide, by decide⟩, ⟨by have := C1.out; omega⟩, ⟨⟨HF8.out.less (fun p hp => by simp only [List.mem_cons, List.not_mem_nil, or_false] at hp ⊢; exact .inr hp), HP6.out.fuse (-1), HT6.out.symm, rfl⟩⟩, ⟨HKB.out⟩⟩
         case measure => simp [intOf]; have := C1.out; omega
       ·
        as_aux_lemma =>
         rw [h30] at HF6 ⊢
         have HLO := hid HP5.out.loose
         clear h30
         obtain ⟨z0, z1, z2⟩ := boxC_cells (HF6.out.box (CB, boxC kb tb ab) (by simp)).1
         go_upto_region 54 with (fail)
         have hcr := crash_tells HLO.out kb tb ab HXS.out HYS.out K HK.out
         obtain ⟨s7, hs7⟩ : ∃ s7, s7 = crashS s5 kb tb ab := ⟨_, rfl⟩
         rw [← hs7] at hcr
         have HP7 := hid hcr.1
         have HBG := hid hcr.2
         have HCC := hid (HF6.out.crashCall (by have := HLO.out.opn_len; omega) kb tb ab HKB.out)
         rw [← hs7] at HCC
         have HE7 := hid (show s7.now = s7.sure by rw [hs7]; rfl)
         clear hcr hs7
         go_wp2_with fail
         go_at_call 25
         refine HCC.out.mono ?_
         rintro e w7 ⟨rfl, hf7⟩
         have HF7 := hid hf7
         clear hf7 HCC
         go_wp2_with fail
         go_at_call 8
         refine (HF7.out.openCall mn HLAY.out HP7.out.nlen).mono ?_
         rintro e w8 ⟨R8, rfl, F8, tv8, hf8⟩
         have HF8 := hid hf8
         clear hf8 HF7
         go_wp2_with fail
         go_at_call 22
         refine (Row_Texts HF8.out.rw.row).mono ?_
         rintro e w9 ⟨v9, rfl, hs9, ho9⟩
         obtain ⟨T9, hT9⟩ : ∃ T9, T9 = (openRS s7 0 mn).texts := ⟨_, rfl⟩
         rw [← hT9] at hs9 HBG
         have HT9 := hid (show T9 = (T0 s7 mn).texts by rw [hT9]; exact open_texts HP7.out.slen HLAY.out.2 HE7.out)
         have HS9 := hid hs9
         have HO9 := hid ho9
         obtain ⟨A9, c9, hv9, hc9, hC9⟩ := own_C_str hs9
         obtain ⟨As, cs, hvs, hcs, hCs⟩ := own_C_str (HF8.out.new ho9).sure
         obtain ⟨An, cn, hvn, hcn, hCn⟩ := own_C_str (HF8.out.new ho9).since
         have HBC := hid (quittanceref05_Begins.calls K A9 c9 T9 As cs _ An cn _ true w9 hC9 hc9 hCs hcs hCn hcn HBG.out)
         rw [← hv9, ← hvs, ← hvn] at HBC
         clear hT9 hs9 ho9 hC9 hCs hCn hv9 hvs hvn hc9 hcs hcn
         go_wp2_with (go_at_call 26; refine HBC.out.mono ?_; rintro e w10 ⟨rfl, hb10⟩; have HB10 := hid (Only.of_below (fp := []) hb10); clear hb10)
         have HFF := HF8.out.closed HS9.out HO9.out HB10.out
         obtain ⟨FF, hff⟩ := HFF
         go_roundw
         case rel => exact ⟨_, _, _, _, _, i + 1, _, _, _, _, _, _, _, _, _, _, rfl, rfl, rfl, rfl, rfl, rfl, by go_num, ⟨by decide, by decide⟩, ⟨by have := C1.out; omega⟩, ⟨⟨hff, HP7.out, HT9.out, rfl⟩⟩, ⟨HKB.out⟩⟩
         case measure => simp [intOf]; have := C1.out; omega
     ·
      as_aux_lemma =>
       have e5 : (X.f0 % 7 == 5) = false := by rw [hm7]; rfl
       go_upto_region 21 with (fail)
       go_wp2_with fail
       go_at_call 24
       refine (HT4.out.hf.fuseCall fu (by have := HFU.out; omega)).mono ?_
       rintro e w5 ⟨rfl, hf5⟩
       have HP5 := hid (HT4.out.hope.fuse fu)
       have HXS := hid (show xs = (T0 (fuseS s fu) mn).texts from HT4.out.xs_)
       have HYS := hid HT4.out.ys_
       obtain ⟨s5, hs5⟩ : ∃ s5, s5 = fuseS s fu := ⟨_, rfl⟩
       rw [← hs5] at HP5 HXS hf5
       have HF5 := hid hf5
       clear y0 y1 y2 y3 y4 y5 y6 hf5 hs5 HT4
       obtain ⟨y0, -, y2, -, y4, y5, y6⟩ := boxX_cells (HF5.out.box (XB, boxX X) (by simp)).1
       have e0 : (X.f0 % 7 == 0) = false := by rw [hm7]; rfl
       have e1 : (X.f0 % 7 == 1) = false := by rw [hm7]; rfl
       have e2 : (X.f0 % 7 == 2) = false := by rw [hm7]; rfl
       have e3 : (X.f0 % 7 == 3) = false := by rw [hm7]; rfl
       have e4 : (X.f0 % 7 == 4) = true := by rw [hm7]; rfl
       have e6 : (X.f0 % 7 == 6) = false := by rw [hm7]; rfl
       have e6n : (X.f0 % 7 != 6) = true := by rw [hm7]; rfl
       go_wp2_with (go_at_call 24; refine (HF5.out.fuseCall (-1) (by decide)).mono ?_; rintro e w8 ⟨rfl, hf8⟩; have HF8 := hid hf8; clear hf8)
       go_roundw
       case rel => exact ⟨_, _, _, _, _, i + 1, _, _, _, _, _, _, _, _, _, _, rfl, rfl, rfl, rfl, rfl, rfl, by go_num, ⟨by decide, by decide⟩, ⟨by have := C1.out; omega⟩, ⟨⟨HF8.out.less (fun p hp => by simp only [List.mem_cons, List.not_mem_nil, or_false] at hp ⊢; exact .inr hp), HP5.out.fuse (-1), HXS.out, HYS.out⟩⟩, ⟨HKB.out⟩⟩
       case measure => simp [intOf]; have := C1.out; omega
     ·
      as_aux_lemma =>
       have e5 : (X.f0 % 7 == 5) = true := by rw [hm7]; rfl
       have hf3 : 0 ≤ X.f3 := HXX.out.2.2.1.1
       go_upto_region 20 with (fail)
       obtain ⟨ti, hti⟩ := info_two info42
       have HTI := hid hti
       clear hti
       have HCBX := hid (HT4.out.hf.box (CB, boxC kb tb ab) (by simp)).1
       go_wp2_with (refine wpList_store_row rfl 42 (.tmp 15) (.tmp 85) rfl ti HTI.out.1 CB rfl 42 _ HCBX.out #[.int .u64 X.f4.f0, .int .i64 X.f4.f1, .int .i64 X.f4.f2] rfl HTI.out.2.2 rfl (by intro v hv; simp at hv; rcases hv with rfl | rfl | rfl <;> rfl) ?_; intro w5 u5)
       have HT5 := hid (show Fl mn w w5 _ D s R tv r sv xs nv ys adds [(CB, boxC X.f4.f0 X.f4.f1 X.f4.f2)] from ⟨(HT4.out.hf.setC u5 HNE.out).less (fun p hp => by simp only [List.mem_cons, List.not_mem_nil, or_false] at hp ⊢; exact .inr hp), HT4.out.hope, HT4.out.xs_, HT4.out.ys_⟩)
       clear u5 HT4 HCBX
       go_roundw
       case rel => exact ⟨_, _, _, _, _, i + 1, _, _, _, _, _, _, _, _, _, _, rfl, rfl, rfl, rfl, rfl, rfl, by go_num, ⟨by omega⟩, ⟨by have := C1.out; omega⟩, ⟨HT5.out⟩, ⟨HXX.out.2.2.2⟩⟩
       case measure => simp [intOf]; have := C1.out; omega
     ·
      as_aux_lemma =>
       have e5 : (X.f0 % 7 == 5) = false := by rw [hm7]; rfl
       go_upto_region 21 with (fail)
       go_wp2_with fail
       go_at_call 24
       refine (HT4.out.hf.fuseCall fu (by have := HFU.out; omega)).mono ?_
       rintro e w5 ⟨rfl, hf5⟩
       have HP5 := hid (HT4.out.hope.fuse fu)
       have HXS := hid (show xs = (T0 (fuseS s fu) mn).texts from HT4.out.xs_)
       have HYS := hid HT4.out.ys_
       obtain ⟨s5, hs5⟩ : ∃ s5, s5 = fuseS s fu := ⟨_, rfl⟩
       rw [← hs5] at HP5 HXS hf5
       have HF5 := hid hf5
       clear y0 y1 y2 y3 y4 y5 y6 hf5 hs5 HT4
       obtain ⟨y0, -, y2, -, y4, y5, y6⟩ := boxX_cells (HF5.out.box (XB, boxX X) (by simp)).1
       have e0 : (X.f0 % 7 == 0) = false := by rw [hm7]; rfl
       have e1 : (X.f0 % 7 == 1) = false := by rw [hm7]; rfl
       have e2 : (X.f0 % 7 == 2) = false := by rw [hm7]; rfl
       have e3 : (X.f0 % 7 == 3) = false := by rw [hm7]; rfl
       have e4 : (X.f0 % 7 == 4) = false := by rw [hm7]; rfl
       have e6 : (X.f0 % 7 == 6) = true := by rw [hm7]; rfl
       have e6n : (X.f0 % 7 != 6) = false := by rw [hm7]; rfl
       go_upto_region 53 with (fail)
       obtain ⟨ti, hti⟩ := info_two info42
       have HTI := hid hti
       clear hti
       have HCBX := hid (HF5.out.box (CB, boxC kb tb ab) (by simp)).1
       go_wp2_with (refine wpList_store_row rfl 42 (.tmp 15) (.tmp 178) rfl ti HTI.out.1 CB rfl 42 _ HCBX.out #[.int .u64 X.f4.f0, .int .i64 X.f4.f1, .int .i64 X.f4.f2] rfl HTI.out.2.2 rfl (by intro v hv; simp at hv; rcases hv with rfl | rfl | rfl <;> rfl) ?_; intro w6 u6; have HF6 := hid (HF5.out.setC u6 HNE.out); obtain ⟨z0, z1, z2⟩ := boxC_cells u6.at_; clear u6 HF5)
       have HLO := hid HP5.out.loose
       have hcr := crash_tells HLO.out X.f4.f0 X.f4.f1 X.f4.f2 HXS.out HYS.out K HK.out
       obtain ⟨s7, hs7⟩ : ∃ s7, s7 = crashS s5 X.f4.f0 X.f4.f1 X.f4.f2 := ⟨_, rfl⟩
       rw [← hs7] at hcr
       have HP7 := hid hcr.1
       have HBG := hid hcr.2
       have HCC := hid (HF6.out.crashCall (by have := HLO.out.opn_len; omega) X.f4.f0 X.f4.f1 X.f4.f2 HXX.out.2.2.2)
       rw [← hs7] at HCC
       have HE7 := hid (show s7.now = s7.sure by rw [hs7]; rfl)
       clear hcr hs7
       go_wp2_with fail
       go_at_call 25
       refine HCC.out.mono ?_
       rintro e w7 ⟨rfl, hf7⟩
       have HF7 := hid hf7
       clear hf7 HCC
       go_wp2_with fail
       go_at_call 8
       refine (HF7.out.openCall mn HLAY.out HP7.out.nlen).mono ?_
       rintro e w8 ⟨R8, rfl, F8, tv8, hf8⟩
       have HF8 := hid hf8
       clear hf8 HF7
       go_wp2_with fail
       go_at_call 22
       refine (Row_Texts HF8.out.rw.row).mono ?_
       rintro e w9 ⟨v9, rfl, hs9, ho9⟩
       obtain ⟨T9, hT9⟩ : ∃ T9, T9 = (openRS s7 0 mn).texts := ⟨_, rfl⟩
       rw [← hT9] at hs9 HBG
       have HT9 := hid (show T9 = (T0 s7 mn).texts by rw [hT9]; exact open_texts HP7.out.slen HLAY.out.2 HE7.out)
       have HS9 := hid hs9
       have HO9 := hid ho9
       obtain ⟨A9, c9, hv9, hc9, hC9⟩ := own_C_str hs9
       obtain ⟨As, cs, hvs, hcs, hCs⟩ := own_C_str (HF8.out.new ho9).sure
       obtain ⟨An, cn, hvn, hcn, hCn⟩ := own_C_str (HF8.out.new ho9).since
       have HBC := hid (quittanceref05_Begins.calls K A9 c9 T9 As cs _ An cn _ true w9 hC9 hc9 hCs hcs hCn hcn HBG.out)
       rw [← hv9, ← hvs, ← hvn] at HBC
       clear hT9 hs9 ho9 hC9 hCs hCn hv9 hvs hvn hc9 hcs hcn
       go_wp2_with (go_at_call 26; refine HBC.out.mono ?_; rintro e w10 ⟨rfl, hb10⟩; have HB10 := hid (Only.of_below (fp := []) hb10); clear hb10)
       have HFF := HF8.out.closed HS9.out HO9.out HB10.out
       obtain ⟨FF, hff⟩ := HFF
       go_roundw
       case rel => exact ⟨_, _, _, _, _, i + 1, _, _, _, _, _, _, _, _, _, _, rfl, rfl, rfl, rfl, rfl, rfl, by go_num, ⟨by decide, by decide⟩, ⟨by have := C1.out; omega⟩, ⟨⟨hff, HP7.out, HT9.out, rfl⟩⟩, ⟨HXX.out.2.2.2⟩⟩
       case measure => simp [intOf]; have := C1.out; omega
   ·
    have d1 : decide ((i : Int) < (ls.length : Int)) = false := decide_eq_false (by omega)
    have d2 : decide (i < ls.length) = false := decide_eq_false c1
    have HB := hid HT.out.hf.rw.dr.below
    clear c1 HT
    go_wp2_with (go_at_call 9; refine (row_head _).mono ?_; rintro e w4 ⟨rfl, hb⟩; have HB4 := hid hb; clear hb)
    go_ret
    exact ⟨rfl, HB.out.trans (HB4.out.mono HB.out.size)⟩
end Go.Proofs.Ythbbdilcclepoaa
