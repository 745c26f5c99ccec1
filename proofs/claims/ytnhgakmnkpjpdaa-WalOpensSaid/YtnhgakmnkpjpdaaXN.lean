/- Chapter 06: WalOpens, by walking it. -/
import Derived.Test.YtnhgakmnkpjpdaaXK
import Derived.Test.YtnhgakmnkpjpdaaPZ
set_option maxRecDepth 100000
set_option linter.unusedVariables false
set_option linter.unusedSimpArgs false
namespace Go.Proofs.Ytnhgakmnkpjpdaa
open Go Go.RowKit Go.Proofs.Ytnhgakmnkpjpdaa.Q Go.Proofs.YtnhgakmnkpjpdaaW.PrintWords Go.Proofs.YtnhgakmnkpjpdaaW.PrintLast Go.Proofs.YtnhgakmnkpjpdaaW.PrintMore
attribute [local go_sem] Oper.semAt_some max2_int min2_int max_two min_two max_three min_three max_four min_four
def act0 (x : List ByteArray) : S32 := ⟨0, x, 0, z30⟩
theorem great_lit {W : World} {A1 A2 : Option Addr} {c1 c2 : Nat} {xa xb : List ByteArray} (C1 : Kd.C Kd.string W A1 xa.length xa) (h1 : xa.length ≤ c1) (C2 : Kd.C Kd.string W A2 xb.length xb) (h2 : xb.length ≤ c2) :
  Kd.C k32 (W.alloc (.cells #[.int .u8 0, .slice A1 xa.length c1, .int .u8 0, .int .u64 0, .int .i64 0, .int .i64 0, .int .u8 0, .slice A2 xb.length c2, .int .u8 0, .int .u64 0, .int .i64 0, .int .i64 0] 32)) (some ⟨W.heap.size, 0, none⟩) 2 [act0 xa, act0 xb] := by
 have hb := (Only.alloc [] W (.cells #[.int .u8 0, .slice A1 xa.length c1, .int .u8 0, .int .u64 0, .int .i64 0, .int .i64 0, .int .u8 0, .slice A2 xb.length c2, .int .u8 0, .int .u64 0, .int .i64 0, .int .i64 0] 32)).below (Nat.le_refl _) (by simp)
 have D1 := Kd.C_below C1 hb
 have D2 := Kd.C_below C2 hb
 have hn := heap_alloc_new W (.cells #[.int .u8 0, .slice A1 xa.length c1, .int .u8 0, .int .u64 0, .int .i64 0, .int .i64 0, .int .u8 0, .slice A2 xb.length c2, .int .u8 0, .int .u64 0, .int .i64 0, .int .i64 0] 32)
 refine ⟨rfl, by decide, fun _ => ⟨_, rfl, fun j p hj => ?_⟩⟩
 have hjl : j < 2 := (List.getElem?_eq_some_iff.1 hj).1
 rcases (show j = 0 ∨ j = 1 by omega) with rfl | rfl
 ·
  have hp : act0 xa = p := by simpa using hj
  subst hp
  refine ⟨_, rfl, k32_mk _ (act0 xa) h1 D1, fun i u hi => ?_⟩
  have hil : i < 6 := (List.getElem?_eq_some_iff.1 hi).1
  show World.cell? _ ((⟨W.heap.size, 0, none⟩ : Addr).add (0 * 6 + i)) = some u
  rw [Addr.add_lit, Nat.zero_add, Nat.zero_mul, Nat.zero_add, cell_of_row _ _ _ _ _ _ hn, ← hi]
  rcases (show i = 0 ∨ i = 1 ∨ i = 2 ∨ i = 3 ∨ i = 4 ∨ i = 5 by omega) with rfl | rfl | rfl | rfl | rfl | rfl <;> rfl
 ·
  have hp : act0 xb = p := by simpa using hj
  subst hp
  refine ⟨_, rfl, k32_mk _ (act0 xb) h2 D2, fun i u hi => ?_⟩
  have hil : i < 6 := (List.getElem?_eq_some_iff.1 hi).1
  show World.cell? _ ((⟨W.heap.size, 0, none⟩ : Addr).add (1 * 6 + i)) = some u
  rw [Addr.add_lit, Nat.zero_add, cell_of_row _ _ _ _ _ _ hn, ← hi]
  rcases (show i = 0 ∨ i = 1 ∨ i = 2 ∨ i = 3 ∨ i = 4 ∨ i = 5 by omega) with rfl | rfl | rfl | rfl | rfl | rfl <;> rfl
theorem great_D {W : World} {A1 A2 : Option Addr} {c1 c2 : Nat} {xa xb : List ByteArray} (C1 : Kd.C Kd.string W A1 xa.length xa) (h1 : xa.length ≤ c1) (C2 : Kd.C Kd.string W A2 xb.length xb) (h2 : xb.length ≤ c2) :
  ∃ r, (r = false ↔ Pure.fine xa ∧ Pure.fine xb) ∧ Calls Try.prog 6 #[.slice (some ⟨W.heap.size, 0, none⟩) 2 2] (W.alloc (.cells #[.int .u8 0, .slice A1 xa.length c1, .int .u8 0, .int .u64 0, .int .i64 0, .int .i64 0, .int .u8 0, .slice A2 xb.length c2, .int .u8 0, .int .u64 0, .int .i64 0, .int .i64 0] 32)) fun e w' => e = .returned (.bool r) ∧ Only [] W w' := by
 obtain ⟨r, hr, hq⟩ := Pure.great_f [act0 xa, act0 xb] 1000 (by decide)
 refine ⟨r, hq.trans ⟨fun h => ⟨h.2 (act0 xa) (by simp), h.2 (act0 xb) (by simp)⟩, fun h => ⟨by simp, fun x hx => ?_⟩⟩, ?_⟩
 ·
  rcases List.mem_cons.1 hx with e | e
  ·
   rw [e]; exact h.1
  ·
   rw [List.mem_singleton.1 e]; exact h.2
 ·
  refine (quittancelaw06_great.calls 1000 (some ⟨W.heap.size, 0, none⟩) 2 [act0 xa, act0 xb] r _ (great_lit C1 h1 C2 h2) (Nat.le_refl _) hr).mono ?_
  rintro e w' ⟨rfl, hd⟩
  exact ⟨rfl, (Only.alloc [] W _).trans (drawn_only hd []) (fun _ h _ => h)⟩
theorem QS.start {w wr w4 : World} {D : Nat} {s : DS} {ga gb ca cb : Nat} (h : Dr w wr [(D, s)] []) (ho : Only [] wr w4) (ha : Half w4 ga s 0 0) (hb : Half w4 gb s 8 0) (hga : wr.heap.size ≤ ga ∧ ga < w4.heap.size) (hgb : wr.heap.size ≤ gb ∧ gb < w4.heap.size) (hne : ga ≠ gb) (hca : 8 ≤ ca) (hcb : 8 ≤ cb) :
  QS w (w4.alloc (lgBox (.slice (some ⟨ga, 0, none⟩) 8 ca) (.slice (some ⟨gb, 0, none⟩) 8 cb))) D s w4.heap.size ga gb ca cb 0 0 := by
 have hq := heap_alloc_new w4 (lgBox (.slice (some ⟨ga, 0, none⟩) 8 ca) (.slice (some ⟨gb, 0, none⟩) 8 cb))
 have h4 := Only.alloc [] w4 (lgBox (.slice (some ⟨ga, 0, none⟩) 8 ca) (.slice (some ⟨gb, 0, none⟩) 8 cb))
 have hlt := (Array.getElem?_eq_some_iff.1 hq).1
 have hw := h.below.size
 have h5 := ho.size
 refine ⟨h.grow [] _ (ho.trans h4 (fun _ h _ => h)) (by simp) (fun k hk => .inr ?_), hq, ha.same (h4.block ga hga.2 (by simp)), hb.same (h4.block gb hgb.2 (by simp)), ⟨by omega, by omega, hne⟩, ⟨by omega, by omega, by omega⟩, hca, hcb⟩
 simp only [List.mem_cons, List.not_mem_nil, or_false] at hk
 rcases hk with e | e | e
 ·
  rw [e]; exact ⟨h5, hlt⟩
 ·
  rw [e]; exact ⟨hga.1, by omega⟩
 ·
  rw [e]; exact ⟨hgb.1, by omega⟩
set_option maxHeartbeats 8000000 in
theorem opens_calls (w : World) (A : Option Addr) (c : Nat) (ls : List ByteArray) (hr : Kd.C Kd.string w A ls.length ls) (hc : ls.length ≤ c) (A1 : Option Addr) (c1 : Nat) (xa : List ByteArray) (hr1 : Kd.C Kd.string w A1 xa.length xa) (hc1 : xa.length ≤ c1)
  (A2 : Option Addr) (c2 : Nat) (xb : List ByteArray) (hr2 : Kd.C Kd.string w A2 xb.length xb) (hc2 : xb.length ≤ c2) :
  Calls Try.prog 3 #[.slice A ls.length c, .slice A1 xa.length c1, .slice A2 xb.length c2] w fun e w' => e = .returned (.bool true) ∧ Below w.heap.size w w' := by
 have HR := hid hr
 have HC := hid hc
 have HA := hid (And.intro hr1 hc1)
 have HB := hid (And.intro hr2 hc2)
 clear hr hc hr1 hc1 hr2 hc2
 have e5 : ∀ args w, (callFunc 5 args).run Try.prog w = .ok (.enter 5 args) w := enters_of Try.func5 (by kernel_rfl) rfl
 have e6 : ∀ args w, (callFunc 6 args).run Try.prog w = .ok (.enter 6 args) w := enters_of Try.func6 (by kernel_rfl) rfl
 have e7 : ∀ args w, (callFunc 7 args).run Try.prog w = .ok (.enter 7 args) w := enters_of Try.func7 (by kernel_rfl) rfl
 have e8 : ∀ args w, (callFunc 8 args).run Try.prog w = .ok (.enter 8 args) w := enters_of Try.func8 (by kernel_rfl) rfl
 have e9 : ∀ args w, (callFunc 9 args).run Try.prog w = .ok (.enter 9 args) w := enters_of Try.func9 (by kernel_rfl) rfl
 have e10 : ∀ args w, (callFunc 10 args).run Try.prog w = .ok (.enter 10 args) w := enters_of Try.func10 (by kernel_rfl) rfl
 have e11 : ∀ args w, (callFunc 11 args).run Try.prog w = .ok (.enter 11 args) w := enters_of Try.func11 (by kernel_rfl) rfl
 have e12 : ∀ args w, (callFunc 12 args).run Try.prog w = .ok (.enter 12 args) w := enters_of Try.func12 (by kernel_rfl) rfl
 have e13 : ∀ args w, (callFunc 13 args).run Try.prog w = .ok (.enter 13 args) w := enters_of Try.func13 (by kernel_rfl) rfl
 have e14 : ∀ args w, (callFunc 14 args).run Try.prog w = .ok (.enter 14 args) w := enters_of Try.func14 (by kernel_rfl) rfl
 have e15 : ∀ args w, (callFunc 15 args).run Try.prog w = .ok (.enter 15 args) w := enters_of Try.func15 (by kernel_rfl) rfl
 have e16 : ∀ args w, (callFunc 16 args).run Try.prog w = .ok (.enter 16 args) w := enters_of Try.func16 (by kernel_rfl) rfl
 have e17 : ∀ args w, (callFunc 17 args).run Try.prog w = .ok (.enter 17 args) w := enters_of Try.func17 (by kernel_rfl) rfl
 have e18 : ∀ args w, (callFunc 18 args).run Try.prog w = .ok (.enter 18 args) w := enters_of Try.func18 (by kernel_rfl) rfl
 have e19 : ∀ args w, (callFunc 19 args).run Try.prog w = .ok (.enter 19 args) w := enters_of Try.func19 (by kernel_rfl) rfl
 have e20 : ∀ args w, (callFunc 20 args).run Try.prog w = .ok (.enter 20 args) w := enters_of Try.func20 (by kernel_rfl) rfl
 have e21 : ∀ args w, (callFunc 21 args).run Try.prog w = .ok (.enter 21 args) w := enters_of Try.func21 (by kernel_rfl) rfl
 have e22 : ∀ args w, (callFunc 22 args).run Try.prog w = .ok (.enter 22 args) w := enters_of Try.func22 (by kernel_rfl) rfl
 have e23 : ∀ args w, (callFunc 23 args).run Try.prog w = .ok (.enter 23 args) w := enters_of Try.func23 (by kernel_rfl) rfl
 go_enter Try.func3, Try.ntmps3
 go_wp2_with fail
 go_at_call 5
 refine ((Dr.start w).make 16 (by decide) (by decide)).mono ?_
 rintro e w1 ⟨v, rfl, D, rfl, hd1, -⟩
 replace hd1 : Dr w w1 [(D, newS 16)] [] := hd1
 have HW1 := hid hd1
 clear hd1
 unfold ptr
 go_wp2_with fail
 obtain ⟨r, hrr, hgr⟩ := great_D (Kd.C_below HA.out.1 HW1.out.below) HA.out.2 (Kd.C_below HB.out.1 HW1.out.below) HB.out.2
 have HRR := hid hrr
 clear hrr
 go_at_call 6
 refine hgr.mono ?_
 rintro e w2 ⟨rfl, ho2⟩
 have HW2 := hid (show Wrt w w2 D (newS 16) 0 from ⟨HW1.out.new ho2, by decide, by decide, rfl⟩)
 clear hgr ho2 HW1
 cases r with
 | true =>
  have HB2 := hid HW2.out.dr.below
  clear HW2 HRR
  go_wp2_with fail
  go_at_call 7
  refine (wal_head _).mono ?_
  rintro e w3 ⟨rfl, hb⟩
  have HB3 := hid (HB2.out.trans (hb.mono HB2.out.size))
  clear hb
  go_wp2_with fail
  go_ret
  exact ⟨rfl, HB3.out⟩
 | false =>
  have HF := hid (HRR.out.1 rfl)
  clear HRR
  go_wp2_with fail
  go_loopw [9] (fun q wr => ∃ (i : Nat) (s : DS), q = .int .i64 (i : Int) ∧ Aside0 (i ≤ 16) ∧ Aside0 (Wrt w wr D s i)) (fun q _ => 16 - (intOf q).toNat)
  case atStart => exact ⟨0, _, rfl, ⟨by decide⟩, ⟨HW2.out⟩⟩
  case round =>
   obtain ⟨i, s, rfl, HI, HS⟩ := hrel
   clear HW2
   by_cases c1 : i < ls.length ∧ i < 16
   ·
    obtain ⟨c1, c2⟩ := c1
    obtain ⟨ad, x, rfl, hx, hcell⟩ := C_at (Kd.C_below HR.out HS.out.dr.below) i c1
    have d1 : decide ((i : Int) < (ls.length : Int)) = true := decide_eq_true (by omega)
    have d2 : decide (i < ls.length) = true := decide_eq_true c1
    have d3 : decide ((i : Int) < 16) = true := decide_eq_true (by omega)
    have d4 : decide (i < 16) = true := decide_eq_true c2
    have p1 : (0 ≤ (i : Int)) = True := eq_true (by omega)
    have p2 : ((i : Int) < (ls.length : Int)) = True := eq_true (by omega)
    have C1 := hid c1
    have C2 := hid c2
    have HWC := hid (HS.out.dr.new (Only.drewN [] wr 1))
    obtain ⟨M, hM1, hM2⟩ : ∃ M : Nat, (if (64 : Int) < (x.size : Int) then (64 : Int) else (x.size : Int)) = (M : Int) ∧ M ≤ x.size := by
     by_cases c3 : 64 < x.size
     ·
      exact ⟨64, by rw [if_pos (by omega)]; rfl, by omega⟩
     ·
      exact ⟨x.size, by rw [if_neg (by omega)], by omega⟩
    have hM3 : (M : Int) ≤ (x.size : Int) := by omega
    obtain ⟨t, ht⟩ : ∃ t : ByteArray, ∀ W, (Instr.slice 9 (.string x) none (some (.int .i64 (M : Int))) none).run Try.prog W = .ok (.string t) W := ⟨x.extract 0 M, fun W => run_slice_string_h W 9 x Try.underlying9 .i64 (M : Int) (by omega) (by omega)⟩
    have hb16 : i ≤ 16 := by omega
    have hb17 : (i : Int) ≤ 16 := by omega
    have HO := hid (show s.opn.length < 1000000 by have := HS.out.opn; omega)
    clear hx c1 c2 hM2
    go_wp2_with fail
    go_still_tail 13, (by kernel_rfl)
    change wpList _ _ _ _ _ wr.drew
    go_wp2_with fail
    go_at_call 8
    refine (HWC.out.write (i := 0) rfl HO.out (i : Int) t).mono ?_
    rintro e w3 ⟨rfl, hw3, -⟩
    obtain ⟨P, hP⟩ : ∃ P, P = writeR s (i : Int) t := ⟨_, rfl⟩
    have HW3 := hid (show Wrt w w3 D P.1 (i + 1) by
     rw [← hP] at hw3
     have h2 := writeR_len s (i : Int) t
     rw [← hP] at h2
     exact ⟨hw3, h2.1.trans HS.out.len, Nat.le_trans h2.2 (Nat.succ_le_succ HS.out.opn), by rw [hP]; exact writeR_fuse s _ t HS.out.fuse⟩)
    clear hw3 hP
    go_wp2_with fail
    go_roundw
    case rel => exact ⟨i + 1, _, by go_num, ⟨by have := C2.out; omega⟩, ⟨HW3.out⟩⟩
    case measure => simp [intOf]; have := C2.out; omega
   ·
    have hx : (decide ((i : Int) < (ls.length : Int)) = true ∧ decide (i < ls.length) = true ∧ decide ((i : Int) < 16) = false ∧ decide (i < 16) = false) ∨ (decide ((i : Int) < (ls.length : Int)) = false ∧ decide (i < ls.length) = false) := by
     by_cases c2 : i < ls.length
     ·
      exact .inl ⟨decide_eq_true (by omega), decide_eq_true c2, decide_eq_false (by omega), decide_eq_false (by omega)⟩
     ·
      exact .inr ⟨decide_eq_false (by omega), decide_eq_false c2⟩
    clear c1
    have HFS := hid HS.out.fuse
    have HLN := hid HS.out.len
    have HDR := hid HS.out.dr
    have HOP := hid (show s.opn.length < 900000 by have := HS.out.opn; have := HI.out; omega)
    clear HS HI HR HC
    rcases hx with ⟨d1, d2, d3, d4⟩ | ⟨d1, d2⟩ <;> (
     go_wp2_with fail
     go_at_call 9
     refine (quittanceref06_New.calls 20000 16 _ _ wr (New06_f 20000 16 (by decide) (by decide))).mono ?_
     rintro e w4 ⟨va, vb, rfl, hRa, hRb, hb4⟩
     obtain ⟨ga, ca, hva, hca, hga1, hga2, hHa, hPa⟩ := Half.made s 0 hRa
     obtain ⟨gb, cb, hvb, hcb, hgb1, hgb2, hHb, hPb⟩ := Half.made s 8 hRb
     subst hva
     subst hvb
     have hne : ga ≠ gb := fun e => hPa (by rw [e]; rfl)
     have HQ0 := hid (QS.start HDR.out (Only.of_below hb4) hHa hHb ⟨hga1, hga2⟩ ⟨hgb1, hgb2⟩ hne hca hcb)
     clear hRa hRb hb4 hca hga1 hga2 hHa hPa hcb hgb1 hgb2 hHb hPb hne HDR
     go_wp2_with fail
     obtain ⟨QB, hQB⟩ : ∃ QB, w4.heap.size = QB := ⟨_, rfl⟩
     rw [hQB] at HQ0
     rw [hQB]
     clear hQB
     go_loopg [11] 8 (fun kx s11 wr => ∃ (j : Nat), s11 = .int .i64 j ∧ j ≤ 8 ∧ 8 - j ≤ kx ∧ Hid (QS w wr D s QB ga gb ca cb j j))
     case atStart => exact ⟨0, rfl, by omega, by omega, HQ0.out⟩
     case round =>
      obtain ⟨j, rfl, hj8, hk, HQ⟩ := hrel
      clear HQ0
      by_cases hlt : j < 8
      ·
       have q1 : decide ((j : Int) < 8) = true := decide_eq_true (by omega)
       have q2 : (j : Int) < 8 := by omega
       have q3 : ((j : Int)).toNat = j := by omega
       have q4 : decide (j < 8) = true := decide_eq_true hlt
       have HJ := hid hlt
       obtain ⟨k0, k1, kf⟩ := HQ.out.cells
       obtain ⟨xa0, ka, kaf⟩ := HQ.out.ha.cell j hlt
       have hrd := (HQ.out.new (Only.drew [] wr)).dr.read (i := 0) rfl (j : Int)
       unfold ptr at hrd
       have HQA := hid ((HQ.out.new (Only.drew [] wr)).setA hlt)
       rw [Nat.zero_add] at HQA
       clear kf
       go_wp2_with fail
       obtain ⟨n0, n1, nf⟩ := HQA.out.cells
       go_region_held3 (fun W => W.cell? ⟨QB, 0, none⟩ = some (.slice (some ⟨ga, 0, none⟩) 8 ca)) (first | exact k0 | exact n0)
        (first | (go_at_call 10; refine hrd.mono ?_; rintro e w5 ⟨rfl, h5⟩; have h6 := h5.symm; clear h5; subst h6))
       have HQ2 := hid (show QS w ((wr.setCell ⟨ga, j, none⟩ (.string (readS s (j : Int)))).drew) D s QB ga gb ca cb (j + 1) j from HQA.out)
       clear HQA HQ n0 n1 nf hrd k0 k1 ka kaf
       obtain ⟨wb, hwb⟩ : ∃ wb, wb = (wr.setCell ⟨ga, j, none⟩ (.string (readS s (j : Int)))).drew := ⟨_, rfl⟩
       rw [← hwb] at HQ2
       rw [← hwb]
       clear hwb
       obtain ⟨k0, k1, kf⟩ := HQ2.out.cells
       obtain ⟨xb0, kb, kbf⟩ := HQ2.out.hb.cell j HJ.out
       have hrd := (HQ2.out.new (Only.drew [] wb)).dr.read (i := 0) rfl ((8 + j : Nat) : Int)
       have ew : IntKind.i64.wrap (8 + (j : Int)) = ((8 + j : Nat) : Int) := by rw [IntKind.wrap_i64]; have := HJ.out; omega
       have HQB := hid ((HQ2.out.new (Only.drew [] wb)).setB HJ.out)
       obtain ⟨j8, hj8e⟩ : ∃ j8, j8 = 8 + j := ⟨_, rfl⟩
       rw [← hj8e] at hrd ew HQB
       unfold ptr at hrd
       have HJ8 := hid hj8e
       clear kf hj8e
       go_wp2_with fail
       obtain ⟨n0, n1, nf⟩ := HQB.out.cells
       go_region_held3 (fun W => W.cell? ⟨QB, 1, none⟩ = some (.slice (some ⟨gb, 0, none⟩) 8 cb)) (first | exact k1 | exact n1)
        (first | (go_at_call 10; refine hrd.mono ?_; rintro e w5 ⟨rfl, h5⟩; have h6 := h5.symm; clear h5; subst h6))
       have HQ3 := hid (show QS w ((wb.setCell ⟨gb, j, none⟩ (.string (readS s (j8 : Int)))).drew) D s QB ga gb ca cb (j + 1) (j + 1) from HQB.out)
       clear HQB HQ2 n0 n1 nf hrd k0 k1 kb kbf
       have hj9 := HJ.out
       go_wp2_with fail
       go_roundg (8 - (j + 1))
       case measure => omega
       case rel => exact ⟨j + 1, by go_num, hj9, Nat.le_refl _, HQ3.out⟩
      ·
       have q1 : decide ((j : Int) < 8) = false := decide_eq_false (by omega)
       have q4 : decide (j < 8) = false := decide_eq_false hlt
       have hj8e : j = 8 := by omega
       subst hj8e
       have hfit := Pure.openW_fit HFS.out
       rw [HLN.out] at hfit
       have hop := Wal_Open HQ.out.dr (i := 0) rfl (by rw [HLN.out]; decide) (by rw [HLN.out]; decide)
       have HBLT := hid (fun k hk => HQ.out.dr.lt k hk)
       cases hos : openW s with
       | none =>
        rw [hos] at hop hfit
        have htx := hid (fun W (ho : Only [] wr W) => Txns_D (HQ.out.log.new ho))
        have hfn : Pure.txD (Pure.halfD (rowSec s 0 8) (rowSec s 8 8)) = none := hfit
        rw [hfn] at htx
        have HOPN := hid hop
        clear hop hfit hfn hos
        unfold ptr at HOPN
        go_wp2_with fail
        go_at_call 11
        refine HOPN.out.mono ?_
        rintro e w3 ⟨ho3, rfl⟩
        have HQ3 := hid (HQ.out.new ho3)
        have HO3 := hid ho3
        obtain ⟨k0, k1, kf⟩ := HQ3.out.cells
        clear ho3 HOPN HQ kf
        go_wp2_with fail
        go_at_call 12
        refine (htx.out _ HO3.out).mono ?_
        rintro e w5 ⟨rfl, ho5⟩
        have HB5 := hid (HQ3.out.new ho5).dr.below
        clear htx ho5 HQ3 k0 k1
        go_wp2_with fail
        go_at_call 7
        refine (wal_head _).mono ?_
        rintro e w6 ⟨rfl, hb⟩
        have HB6 := hid (HB5.out.trans (hb.mono HB5.out.size))
        clear hb
        go_wp2_with fail
        go_ret
        exact ⟨rfl, HB6.out⟩
       | some q =>
        rw [hos] at hop hfit
        have HFIT := hid (show Pure.LFit s q 8 from hfit)
        have htx := hid (fun W (ho : Only [] wr W) => Txns_D (HQ.out.log.new ho))
        rw [HFIT.out.txns] at htx
        have HOPN := hid hop
        clear hop hfit hos
        unfold ptr at HOPN
        go_wp2_with fail
        go_at_call 11
        refine HOPN.out.mono ?_
        rintro e w3 ⟨ho3, m, F', rfl, hw3, hsub, -, hfp⟩
        have HL3 := hid (show Lg w w3 [(D, s)] F' 0 D s m q QB [ga, gb] (.slice (some ⟨ga, 0, none⟩) 8 ca) (.slice (some ⟨gb, 0, none⟩) 8 cb) (rowSec s 0 8) (rowSec s 8 8) from
         ⟨hw3, HQ.out.log.new ho3, (HQ.out.new ho3).qb, HQ.out.lo.1, fun k hk => ⟨hsub k hk, fun e => by have h1 := hfp k e; have h2 := HBLT.out k hk; omega⟩, fun e => by
          simp only [List.mem_cons, List.not_mem_nil, or_false] at e
          rcases e with e | e
          ·
           exact HQ.out.ne.1 e
          ·
           exact HQ.out.ne.2.1 e⟩)
        have HO3 := hid ho3
        obtain ⟨k0, k1, kf⟩ := HL3.out.cells
        obtain ⟨O, hO⟩ : ∃ O, m.O = O := ⟨_, rfl⟩
        have HO := hid hO
        rw [hO]
        clear ho3 HOPN HQ kf hw3 hsub hfp hO HBLT
        go_wp2_with fail
        go_at_call 12
        refine (htx.out _ HO3.out).mono ?_
        rintro e w5 ⟨vD, BD, rfl, htD, ho5⟩
        have HL5 := hid (HL3.out.new ho5)
        have HTD := hid htD
        obtain ⟨n0, n1, nf⟩ := HL5.out.cells
        have HSH := hid HFIT.out.short
        have HAGE := hid HFIT.out.age
        have H14 := hid (fun W (ho : Only [] w5 W) => Wal_Txns (HL5.out.new ho).wl (by have := HSH.out.1; omega) (fun t ht => by have := HSH.out.2 t ht; omega))
        have H15 := hid (fun W (ho : Only [] w5 W) => Wal_Age (HL5.out.new ho).wl)
        have H17 := hid (fun W (ho : Only [] w5 W) => Wal_Room (HL5.out.new ho).wl)
        have H16 := hid (fun W (ho : Only [] w5 W) => Age_D (HL5.out.new ho).lg)
        have H18 := hid (fun W (ho : Only [] w5 W) => Room_D (HL5.out.new ho).lg)
        rw [HAGE.out.1] at H16
        rw [HAGE.out.2] at H18
        unfold ptr at H14 H15 H17
        rw [HO.out] at H14 H15 H17
        obtain ⟨ag, hag⟩ : ∃ ag : Int, ((q.h q.log).first : Int) = ag := ⟨_, rfl⟩
        rw [hag] at H15 H16
        obtain ⟨rm, hrm⟩ : ∃ rm : Int, (((q.h q.log).mn - (q.h q.log).en : Nat) : Int) = rm := ⟨_, rfl⟩
        rw [hrm] at H17 H18
        have HSM := hid (same_true q.txns (by have := HSH.out.1; omega) (fun t ht => by have := HSH.out.2 t ht; omega))
        clear htx HO3 HL3 k0 k1 nf ho5 htD hag hrm HAGE
        go_wp2_with fail
        go_region_held3 (fun W => W.cell? ⟨QB, 0, none⟩ = some (.slice (some ⟨ga, 0, none⟩) 8 ca) ∧ W.cell? ⟨QB, 1, none⟩ = some (.slice (some ⟨gb, 0, none⟩) 8 cb)) (first | exact ⟨n0, n1⟩ | exact ⟨a0, a1⟩ | exact ⟨b0, b1⟩ | exact ⟨y0, y1⟩ | exact ⟨f0, f1⟩ | exact ⟨g0, g1⟩ | exact ⟨h0, h1⟩)
         (first | (go_at_call 14; refine (H14.out _ (Only.drew [] w5)).mono ?_; rintro e w6 ⟨vT, BT, rfl, htT, ho⟩; have HO6 := hid ((Only.drew [] w5).trans ho (fun _ h _ => h)); have HTT := hid htT; obtain ⟨a0, a1, af⟩ := (HL5.out.new HO6.out).cells; clear af ho htT) | (go_at_call 13; refine (Same_D HTT.out (HTD.out.new HO6.out) HSM.out).mono ?_; rintro e w7 ⟨rfl, ho⟩; have HO7 := hid (HO6.out.trans ho (fun _ h _ => h)); obtain ⟨b0, b1, bf⟩ := (HL5.out.new HO7.out).cells; clear bf ho) | (go_at_call 15; refine (H15.out _ HO7.out).mono ?_; rintro e w8 ⟨rfl, ho⟩; have HO8 := hid (HO7.out.trans ho (fun _ h _ => h)); obtain ⟨y0, y1, yf⟩ := (HL5.out.new HO8.out).cells; clear yf ho) | (go_at_call 16; refine (H16.out _ HO8.out).mono ?_; rintro e w9 ⟨rfl, ho⟩; have HO9 := hid (HO8.out.trans ho (fun _ h _ => h)); obtain ⟨f0, f1, ff⟩ := (HL5.out.new HO9.out).cells; clear ff ho) | (go_at_call 17; refine (H17.out _ HO9.out).mono ?_; rintro e w10 ⟨rfl, ho⟩; have HO10 := hid (HO9.out.trans ho (fun _ h _ => h)); obtain ⟨g0, g1, gf⟩ := (HL5.out.new HO10.out).cells; clear gf ho) | (go_at_call 18; refine (H18.out _ HO10.out).mono ?_; rintro e w11 ⟨rfl, ho⟩; have HO11 := hid (HO10.out.trans ho (fun _ h _ => h)); obtain ⟨h0, h1, hf⟩ := (HL5.out.new HO11.out).cells; clear hf ho))
        have HL11 := hid (HL5.out.new HO11.out)
        obtain ⟨p0, p1, pf⟩ := HL11.out.cells
        have pf0 := pf 0
        have pf1 := pf 1
        obtain ⟨BXA, hSA, hBXA⟩ := StrAt.of_arg HA.out.2 HA.out.1
        have HAS := hid (fun W (hb : Below w.heap.size w W) => hSA.same (W := W) (fun k hk => hb.block k (hBXA k hk)))
        have HAF := hid hBXA
        have HT1 := hid (Pure.commitW_told HFIT.out xa HF.out.1)
        have hcd := commit_D HL11.out.lg (by rw [rowSec_len]; decide) (by rw [rowSec_len]; decide) (HAS.out _ HL11.out.wl.base) HF.out.1
        rw [HT1.out.eq] at hcd
        have HCD := hid hcd
        clear pf hSA hBXA hcd n0 n1 a0 a1 b0 b1 y0 y1 f0 f1 g0 g1 h0 h1 HO6 HO7 HO8 HO9 HO10 HO11 H14 H15 H16 H17 H18 HTD HTT HSM HL5
        go_wp2_with fail
        go_at_call 19
        refine HCD.out.mono ?_
        rintro e w12 ⟨va2, vb2, B2, rfl, hl12, hB12, ho12⟩
        obtain ⟨pA, pn, pc, hva2⟩ := hl12.sa.slice
        subst hva2
        obtain ⟨qA, qn, qc, hvb2⟩ := hl12.sb.slice
        subst hvb2
        have HGV := hid (HL11.out.gave (fun t => by simp) (fun t => by simp) ho12 hl12 hB12)
        obtain ⟨x0, x1, xf⟩ := (HL11.out.new ho12).cells
        have xf0 := xf 0
        have xf1 := xf 1
        clear xf HCD ho12 hl12 hB12 HL11 p0 p1 pf0 pf1
        go_wp2_with fail
        obtain ⟨F2, m2, hlg, hO2⟩ := HGV.out
        obtain ⟨wc, hwc⟩ : ∃ wc, wc = (w12.setCell ⟨QB, 0, none⟩ (.slice pA pn pc)).setCell ⟨QB, 1, none⟩ (.slice qA qn qc) := ⟨_, rfl⟩
        rw [← hwc] at hlg
        rw [← hwc]
        obtain ⟨P1, hP1⟩ : ∃ P1, P1 = commitW s q xa := ⟨_, rfl⟩
        rw [← hP1] at hlg
        have HLC := hid hlg
        have HOC := hid (hO2.trans HO.out)
        have HST := hid HSH.out.1
        have hcm := Wal_Commit hlg.wl A1 c1 xa BXA (HAS.out wc hlg.wl.base) (fun k hk => .inl (HAF.out k hk)) HF.out.1 HOP.out (by have := HSH.out.1; omega)
        rw [← hP1] at hcm HT1
        rw [← hP1]
        unfold ptr at hcm
        rw [HOC.out] at hcm
        have HCM := hid hcm
        have HOP1 := hid (HT1.out.few HOP.out)
        have HFIT1 := hid (show Pure.LFit P1.s P1.q 8 from HT1.out.fit)
        have HLN1 := hid (HT1.out.len.trans HLN.out)
        clear hwc hlg hO2 hcm hP1 HGV x0 x1 xf0 xf1 HT1
        obtain ⟨er1, her1⟩ : ∃ er1, P1.e = er1 := ⟨_, rfl⟩
        rw [her1] at HCM
        rw [her1]
        clear her1
        go_at_call 20
        refine HCM.out.mono ?_
        rintro e w14 ⟨rfl, F4, m4, hwent⟩
        have HL14 := hid (HLC.out.went hwent)
        have HO14 := hid (hwent.obj.1.trans HOC.out)
        obtain ⟨p0, p1, pf⟩ := HL14.out.cells
        have pf0 := pf 0
        have pf1 := pf 1
        obtain ⟨BXB, hSB, hBXB⟩ := StrAt.of_arg HB.out.2 HB.out.1
        have HBS := hid (fun W (hb : Below w.heap.size w W) => hSB.same (W := W) (fun k hk => hb.block k (hBXB k hk)))
        have HBF := hid hBXB
        have HT2 := hid (Pure.saveW_told HFIT1.out xb HF.out.2)
        have hcd := save_D HL14.out.lg (by rw [rowSec_len]; decide) (by rw [rowSec_len]; decide) (HBS.out _ HL14.out.wl.base) HF.out.2
        rw [HT2.out.eq] at hcd
        have HCD := hid hcd
        clear pf hSB hBXB hcd hwent HCM HLC
        go_wp2_with fail
        go_at_call 21
        refine HCD.out.mono ?_
        rintro e w15 ⟨va3, vb3, B3, rfl, hl15, hB15, ho15⟩
        obtain ⟨rA, rn, rc, hva3⟩ := hl15.sa.slice
        subst hva3
        obtain ⟨sA, sn, sc, hvb3⟩ := hl15.sb.slice
        subst hvb3
        have HGV := hid (HL14.out.gave (fun t => by simp) (fun t => by simp) ho15 hl15 hB15)
        obtain ⟨x0, x1, xf⟩ := (HL14.out.new ho15).cells
        have xf0 := xf 0
        have xf1 := xf 1
        clear xf HCD ho15 hl15 hB15 HL14 p0 p1 pf0 pf1
        go_wp2_with fail
        obtain ⟨F5, m5, hlg, hO2⟩ := HGV.out
        obtain ⟨wc2, hwc⟩ : ∃ wc2, wc2 = (w15.setCell ⟨QB, 0, none⟩ (.slice rA rn rc)).setCell ⟨QB, 1, none⟩ (.slice sA sn sc) := ⟨_, rfl⟩
        rw [← hwc] at hlg
        rw [← hwc]
        obtain ⟨P2, hP2⟩ : ∃ P2, P2 = saveW P1.s P1.q xb := ⟨_, rfl⟩
        rw [← hP2] at hlg
        have HLC := hid hlg
        have HOC2 := hid (hO2.trans HO14.out)
        have hsv := Wal_Save hlg.wl A2 c2 xb BXB (HBS.out wc2 hlg.wl.base) (fun k hk => .inl (HBF.out k hk)) HF.out.2 HOP1.out
        rw [← hP2] at hsv HT2
        rw [← hP2]
        unfold ptr at hsv
        rw [HOC2.out] at hsv
        have HCM := hid hsv
        have HFIT2 := hid (show Pure.LFit P2.s P2.q 8 from HT2.out.fit)
        have HLN2 := hid (HT2.out.len.trans HLN1.out)
        clear hwc hlg hO2 hsv hP2 HGV x0 x1 xf0 xf1 HT2
        obtain ⟨er2, her2⟩ : ∃ er2, P2.e = er2 := ⟨_, rfl⟩
        rw [her2] at HCM
        rw [her2]
        clear her2
        go_at_call 22
        refine HCM.out.mono ?_
        rintro e w16 ⟨rfl, F6, m6, hwent⟩
        have HL16 := hid (HLC.out.went hwent)
        have HO16 := hid (hwent.obj.1.trans HOC2.out)
        obtain ⟨p0, p1, pf⟩ := HL16.out.cells
        have htx := Txns_D HL16.out.lg
        rw [HFIT2.out.txns] at htx
        have HTX := hid htx
        clear pf hwent HCM HLC htx
        go_wp2_with fail
        go_at_call 12
        refine HTX.out.mono ?_
        rintro e w17 ⟨vD2, BD2, rfl, htD, ho17⟩
        have HL17 := hid (HL16.out.new ho17)
        have HTD := hid htD
        have HSH2 := hid HFIT2.out.short
        clear HTX htD ho17 HL16 p0 p1
        have htx := Wal_Txns HL17.out.wl (by have := HSH2.out.1; omega) (fun t ht => by have := HSH2.out.2 t ht; omega)
        unfold ptr at htx
        rw [HO16.out] at htx
        have HTX := hid htx
        clear htx
        go_wp2_with fail
        go_at_call 14
        refine HTX.out.mono ?_
        rintro e w18 ⟨vT, BT, rfl, htT, ho18⟩
        have HL18 := hid (HL17.out.new ho18)
        have HTT := hid htT
        have HTD2 := hid (HTD.out.new ho18)
        clear htT ho18 HL17 HTX HTD
        go_wp2_with fail
        go_at_call 13
        refine (Same_D HTT.out HTD2.out (same_true P2.q.txns (by have := HSH2.out.1; omega) (fun t ht => by have := HSH2.out.2 t ht; omega))).mono ?_
        rintro e w19 ⟨rfl, ho19⟩
        have HL19 := hid (HL18.out.new ho19)
        obtain ⟨p0, p1, pf⟩ := HL19.out.cells
        have hsame := same_calls HL19.out.wl.dr HL19.out.wl.hi (n := 8) (by decide) (by rw [HLN2.out]; decide) HL19.out.lg
        unfold ptr at hsame
        have HSAME := hid hsame
        clear ho19 HL18 HTT HTD2 pf hsame
        go_wp2_with fail
        go_at_call 23
        refine HSAME.out.mono ?_
        rintro e w20 ⟨rfl, ho20⟩
        have HB20 := hid (HL19.out.new ho20).wl.base
        clear ho20 HL19 HSAME p0 p1
        go_wp2_with fail
        go_at_call 7
        refine (wal_head _).mono ?_
        rintro e w21 ⟨rfl, hb⟩
        have HB21 := hid (HB20.out.trans (hb.mono HB20.out.size))
        clear hb
        go_wp2_with fail
        go_ret
        exact ⟨rfl, HB21.out⟩)
end Go.Proofs.Ytnhgakmnkpjpdaa
