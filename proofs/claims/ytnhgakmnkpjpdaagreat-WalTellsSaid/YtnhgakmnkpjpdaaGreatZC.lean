/- Chapter 06: WalTells, by walking it. -/
import Derived.Test.YtnhgakmnkpjpdaaGreatXK
import Derived.Test.YtnhgakmnkpjpdaaGreatXJ
import Derived.Test.YtnhgakmnkpjpdaaGreatPY
import Derived.Test.YtnhgakmnkpjpdaaGreatPZ
import Derived.Deep.RegionHeld3
import Derived.StillTailTactics
import Derived.Deep.CutBlock
import Derived.Deep.CutRange
set_option maxRecDepth 100000
set_option linter.unusedVariables false
set_option linter.unusedSimpArgs false
namespace Go.Proofs.YtnhgakmnkpjpdaaGreat
open Go Go.RowKit Go.Proofs.YtnhgakmnkpjpdaaGreat.Q Go.Proofs.YtnhgakmnkpjpdaaGreatW.PrintWords Go.Proofs.YtnhgakmnkpjpdaaGreatW.PrintLast Go.Proofs.YtnhgakmnkpjpdaaGreatW.PrintMore
attribute [local go_sem] Oper.semAt_some max2_int min2_int max_two min_two max_three min_three max_four min_four
theorem cell_below {w W : World} {a : Addr} {v : Value} (h : w.cell? a = some v) (hb : Below w.heap.size w W) : W.cell? a = some v := by
  have hlt : a.block < w.heap.size := by
    by_cases c : a.block < w.heap.size
    · exact c
    · exfalso
      have hn : w.heap[a.block]? = none := Array.getElem?_eq_none (by omega)
      unfold World.cell? at h
      rw [hn] at h
      cases h
  rw [cell_same (hb.block a.block hlt)]
  exact h
/-- An act of the argument, in whatever world it is read. -/
theorem act_cells {w : World} {A : Option Addr} {ls : List S40} (h : Kd.C k40 w A ls.length ls) (i : Nat) (h1 : i < ls.length) : ∃ ad A1 c1 BX, A = some ad ∧ (∀ W, Below w.heap.size w W →
    W.cell? (ad.add (i * 6)) = some (.int .u8 (rd_T40 ls (i : Int)).f0) ∧ W.cell? ⟨(ad.add (i * 6)).block, (ad.add (i * 6)).off + 1, none⟩ = some (.slice A1 (rd_T40 ls (i : Int)).f1.length c1) ∧ StrAt W BX (.slice A1 (rd_T40 ls (i : Int)).f1.length c1) (rd_T40 ls (i : Int)).f1) ∧ ∀ k ∈ BX, k < w.heap.size := by
  obtain ⟨ad, A1, c1, e, x0, x1, -, -, -, -, hc, hC⟩ := at_T40 h (i : Int) (by omega) (by omega)
  rw [Int.toNat_natCast] at x0 x1
  obtain ⟨BX, hS, hB⟩ := StrAt.of_arg hc hC
  exact ⟨ad, A1, c1, BX, e, fun W hb => ⟨cell_below x0 hb, cell_below x1 hb, hS.same (fun k hk => hb.block k (hB k hk))⟩, hB⟩
/-- Between two acts. -/
structure St (w wr : World) (D QB n O : Nat) : Prop where
  ex : ∃ F s m q B va vb, Lg w wr [(D, s)] F 0 D s m q QB B va vb (rowSec s 0 (n / 2)) (rowSec s (n / 2) (n / 2)) ∧ Pure.LFit s q (n / 2) ∧ s.opn = [] ∧ s.now.length = n ∧ m.O = O
theorem St.start {w w3 w4 : World} {D n : Nat} {F : List Nat} {m : WM} {q : WS} {va vb : Value} {P1 P2 : Nat → Prop} (h : Wl w w3 [(D, newS n)] F 0 D (newS n) m q) (hq : Pure.LFit (newS n) q (n / 2)) (hn : n / 2 ≤ 60) (hb : Below w3.heap.size w3 w4)
    (ha : Kd.R Kd.string 9 w4 w3.heap.size P1 va (List.replicate (n / 2) Pure.zB)) (hb2 : Kd.R Kd.string 9 w4 w3.heap.size P2 vb (List.replicate (n / 2) Pure.zB)) : St w (w4.alloc (lgBox va vb)) D w4.heap.size n m.O := by
  have ho4 := Only.of_below (fp := []) hb
  have hal := Only.alloc [] w4 (lgBox va vb)
  have ho := ho4.trans hal (fun _ h _ => h)
  obtain ⟨sa, la⟩ := StrAt.of_R ha
  obtain ⟨sb, lb⟩ := StrAt.of_R hb2
  have hlt := lgBox_lt w4 (lgBox va vb)
  have hw := h.more ho (w4.heap.size :: (va.ownBlock.toList ++ vb.ownBlock.toList)) (fun k hk => by
    rcases List.mem_cons.1 hk with e | e
    · rw [e]; exact ⟨ho4.size, hlt⟩
    · rcases List.mem_append.1 e with e | e
      · have := la k e; exact ⟨this.1, by omega⟩
      · have := lb k e; exact ⟨this.1, by omega⟩)
  have hnew : ∀ k ∈ w4.heap.size :: (va.ownBlock.toList ++ vb.ownBlock.toList), w3.heap.size ≤ k := fun k hk => by
    rcases List.mem_cons.1 hk with e | e
    · rw [e]; exact ho4.size
    · rcases List.mem_append.1 e with e | e
      · exact (la k e).1
      · exact (lb k e).1
  have hl1 : (List.replicate (n / 2) Pure.zB).length ≤ 60 := by rw [List.length_replicate]; exact hn
  refine ⟨_, newS n, m, q, va.ownBlock.toList ++ vb.ownBlock.toList, va, vb, ⟨hw, ?_, heap_alloc_new w4 _, ?_, fun k hk => ⟨List.mem_append_left _ hk, fun e => ?_⟩, fun e => ?_⟩, hq, rfl, List.length_replicate .., rfl⟩
  · rw [rowSec_new n 0 (n / 2) (by omega), rowSec_new n (n / 2) (n / 2) (by omega)]
    exact ⟨(sa.mono (fun k hk => List.mem_append_left _ hk)).kept hal (by simp), (sb.mono (fun k hk => List.mem_append_right _ hk)).kept hal (by simp), hl1, hl1, fun k hk => by
      rcases List.mem_append.1 hk with e | e
      · have := (la k e).2; omega
      · have := (lb k e).2; omega⟩
  · have := h.base.size; have := ho4.size; omega
  · have h1 := (h.fp_lt k e).2
    have h2 := hnew k hk
    omega
  · rcases List.mem_append.1 e with e | e
    · have := (la _ e).2; omega
    · have := (lb _ e).2; omega
set_option maxHeartbeats 16000000 in
theorem tells_calls (w : World) (a : Int) (ha : 0 ≤ a ∧ a < 256) (A : Option Addr) (c : Nat) (ls : List S40) (hr : Kd.C k40 w A ls.length ls) (hc : ls.length ≤ c) (hok : ∀ x ∈ ls, 0 ≤ x.f0 ∧ x.f0 < 256) :
    Calls Tryz.prog 3 #[.int .u8 a, .slice A ls.length c] w fun e w' => e = .returned (.bool true) ∧ Below w.heap.size w w' := by
  obtain ⟨r, hrm⟩ : ∃ r : Nat, a % 56 = (r : Int) := ⟨(a % 56).toNat, by omega⟩
  obtain ⟨n, hn⟩ : ∃ n : Nat, 8 + (r : Int) = (n : Int) := ⟨8 + r, by omega⟩
  have HNN := hid (show 8 ≤ n ∧ n ≤ 63 by omega)
  have ha0 : 0 ≤ a := ha.1
  have HR := hid hr
  have HC := hid hc
  have HOK := hid hok
  obtain ⟨gr, hgr1, hgr2⟩ := Pure.great_f ls 1000 (by decide)
  have HG1 := hid hgr1
  have HG2 := hid hgr2
  clear hr hc hok ha hgr1 hgr2
  have e4 : ∀ args w, (callFunc 4 args).run Tryz.prog w = .ok (.enter 4 args) w := enters_of Tryz.func4 (by kernel_rfl) rfl
  have e5 : ∀ args w, (callFunc 5 args).run Tryz.prog w = .ok (.enter 5 args) w := enters_of Tryz.func5 (by kernel_rfl) rfl
  have e6 : ∀ args w, (callFunc 6 args).run Tryz.prog w = .ok (.enter 6 args) w := enters_of Tryz.func6 (by kernel_rfl) rfl
  have e7 : ∀ args w, (callFunc 7 args).run Tryz.prog w = .ok (.enter 7 args) w := enters_of Tryz.func7 (by kernel_rfl) rfl
  have e8 : ∀ args w, (callFunc 8 args).run Tryz.prog w = .ok (.enter 8 args) w := enters_of Tryz.func8 (by kernel_rfl) rfl
  have e9 : ∀ args w, (callFunc 9 args).run Tryz.prog w = .ok (.enter 9 args) w := enters_of Tryz.func9 (by kernel_rfl) rfl
  have e10 : ∀ args w, (callFunc 10 args).run Tryz.prog w = .ok (.enter 10 args) w := enters_of Tryz.func10 (by kernel_rfl) rfl
  have e11 : ∀ args w, (callFunc 11 args).run Tryz.prog w = .ok (.enter 11 args) w := enters_of Tryz.func11 (by kernel_rfl) rfl
  have e12 : ∀ args w, (callFunc 12 args).run Tryz.prog w = .ok (.enter 12 args) w := enters_of Tryz.func12 (by kernel_rfl) rfl
  have e13 : ∀ args w, (callFunc 13 args).run Tryz.prog w = .ok (.enter 13 args) w := enters_of Tryz.func13 (by kernel_rfl) rfl
  have e14 : ∀ args w, (callFunc 14 args).run Tryz.prog w = .ok (.enter 14 args) w := enters_of Tryz.func14 (by kernel_rfl) rfl
  have e15 : ∀ args w, (callFunc 15 args).run Tryz.prog w = .ok (.enter 15 args) w := enters_of Tryz.func15 (by kernel_rfl) rfl
  have e16 : ∀ args w, (callFunc 16 args).run Tryz.prog w = .ok (.enter 16 args) w := enters_of Tryz.func16 (by kernel_rfl) rfl
  have e17 : ∀ args w, (callFunc 17 args).run Tryz.prog w = .ok (.enter 17 args) w := enters_of Tryz.func17 (by kernel_rfl) rfl
  have e18 : ∀ args w, (callFunc 18 args).run Tryz.prog w = .ok (.enter 18 args) w := enters_of Tryz.func18 (by kernel_rfl) rfl
  have e19 : ∀ args w, (callFunc 19 args).run Tryz.prog w = .ok (.enter 19 args) w := enters_of Tryz.func19 (by kernel_rfl) rfl
  have e20 : ∀ args w, (callFunc 20 args).run Tryz.prog w = .ok (.enter 20 args) w := enters_of Tryz.func20 (by kernel_rfl) rfl
  have e21 : ∀ args w, (callFunc 21 args).run Tryz.prog w = .ok (.enter 21 args) w := enters_of Tryz.func21 (by kernel_rfl) rfl
  have e22 : ∀ args w, (callFunc 22 args).run Tryz.prog w = .ok (.enter 22 args) w := enters_of Tryz.func22 (by kernel_rfl) rfl
  have e23 : ∀ args w, (callFunc 23 args).run Tryz.prog w = .ok (.enter 23 args) w := enters_of Tryz.func23 (by kernel_rfl) rfl
  go_enter Tryz.func3, Tryz.ntmps3
  go_wp2_with fail
  go_at_call 4
  refine ((Dr.start w).make n HNN.out.1 (by have := HNN.out; omega)).mono ?_
  rintro e w1 ⟨v, rfl, D, rfl, hd1, -⟩
  replace hd1 : Dr w w1 [(D, newS n)] [] := hd1
  have hop := Wal_Open hd1 (i := 0) (D := D) (s := newS n) rfl (by show 2 ≤ (List.replicate n z64).length; rw [List.length_replicate]; have := HNN.out; omega) (by show (List.replicate n z64).length ≤ 4096; rw [List.length_replicate]; have := HNN.out; omega)
  rw [openW_new] at hop
  have HOP := hid hop
  clear hd1 hop
  unfold ptr at HOP ⊢
  go_wp2_with fail
  go_at_call 5
  refine HOP.out.mono ?_
  rintro e w2 ⟨-, m2, F2, rfl, hw2, -, -, -⟩
  have HW2 := hid hw2
  clear hw2 HOP
  obtain ⟨O, hO⟩ : ∃ O, m2.O = O := ⟨_, rfl⟩
  have HO := hid hO
  rw [hO]
  clear hO
  go_wp2_with fail
  go_at_call 6
  refine (quittancelaw06_great.calls 1000 A c ls gr w2 (Kd.C_below HR.out HW2.out.base) HC.out HG1.out).mono ?_
  rintro e w3 ⟨rfl, hd3⟩
  have HW3 := hid (HW2.out.new (drawn_only hd3 []))
  clear hd3 HW2
  cases gr with
  | true =>
    have HB3 := hid HW3.out.base
    go_wp2_with fail
    go_at_call 7
    refine (wal_head _).mono ?_
    rintro e w4 ⟨rfl, hb⟩
    have HB4 := hid (HB3.out.trans (hb.mono HB3.out.size))
    clear hb
    go_wp2_with fail
    go_ret
    exact ⟨rfl, HB4.out⟩
  | false =>
    have HGL := hid (HG2.out.1 rfl)
    clear HG1 HG2
    have hfit0 := Pure.openW_fit (s := newS n) rfl
    rw [openW_new] at hfit0
    have hl0 : (newS n).now.length = n := List.length_replicate ..
    rw [hl0] at hfit0
    have HF0 := hid (show Pure.LFit (newS n) (q0 (n / 2)) (n / 2) from hfit0)
    clear hfit0 hl0
    go_wp2_with fail
    go_at_call 8
    refine (quittanceref06_New.calls 20000 (n : Int) _ _ w3 (New06_f 20000 n (by have := HNN.out; omega) (by decide))).mono ?_
    rintro e w4 ⟨va, vb, rfl, hRa, hRb, hb4⟩
    have HST0 := hid (St.start HW3.out HF0.out (by have := HNN.out; omega) hb4 hRa hRb)
    obtain ⟨pA, pn, pc, hva⟩ := (StrAt.of_R hRa).1.slice
    obtain ⟨qA, qn, qc, hvb⟩ := (StrAt.of_R hRb).1.slice
    subst hva
    subst hvb
    rw [HO.out] at HST0
    clear hRa hRb hb4 HW3 HF0 HO
    go_wp2_with fail
    obtain ⟨QB, hQB⟩ : ∃ QB, w4.heap.size = QB := ⟨_, rfl⟩
    rw [hQB] at HST0
    rw [hQB]
    clear hQB
    go_loopg [11, 8] ls.length (fun kx s11 s8 wr => ∃ (i O : Nat), s11 = .int .i64 i ∧ s8 = .pointer (some ⟨O, 0, none⟩) ∧ i ≤ ls.length ∧ ls.length - i ≤ kx ∧ Hid (St w wr D QB n O))
    case atStart => exact ⟨0, O, rfl, rfl, by omega, by omega, HST0.out⟩
    case round =>
      obtain ⟨i, O, rfl, rfl, hin, hk, HST⟩ := hrel
      clear HST0
      by_cases hlt : i < ls.length
      · have d1 : decide ((i : Int) < (ls.length : Int)) = true := decide_eq_true (by omega)
        have d2 : decide (i < ls.length) = true := decide_eq_true hlt
        have p1 : (0 ≤ (i : Int)) = True := eq_true (by omega)
        have p2 : ((i : Int) < (ls.length : Int)) = True := eq_true (by omega)
        have p3 : (i : Int) < (ls.length : Int) := by omega
        have p4 : ((i : Int)).toNat = i := by omega
        obtain ⟨ad, A1, c1, BX, rfl, hxc, hBX⟩ := act_cells HR.out i hlt
        obtain ⟨X, hX⟩ : ∃ X, X = rd_T40 ls (i : Int) := ⟨_, rfl⟩
        have hXm : X ∈ ls := by
          rw [hX, Pure.rd32_get ls i hlt]
          exact List.getElem_mem _
        have hx0 := HOK.out X hXm
        have HFN := hid (HGL.out.2 X hXm)
        have hi40 : i ≤ 40 := by have := HGL.out.1; omega
        have hl40 : ls.length ≤ 40 := HGL.out.1
        rw [← hX] at hxc
        have HXC := hid hxc
        have HBX := hid hBX
        have HIC := hid (show i + 1 ≤ ls.length by omega)
        clear hxc hBX hX hXm
        obtain ⟨F, s, m, q, B, va, vb, hlg, hfit, hop, hln, hO⟩ := HST.out.ex
        obtain ⟨pA, pn, pc, hva⟩ := hlg.lg.sa.slice
        subst hva
        obtain ⟨qA, qn, qc, hvb⟩ := hlg.lg.sb.slice
        subst hvb
        have HL0 := hid hlg
        have HFIT := hid hfit
        have HOPN := hid hop
        have HLN := hid hln
        have HO := hid hO
        have HX0 := hid (HXC.out _ hlg.wl.base)
        obtain ⟨x0, x1, -⟩ := HX0.out
        obtain ⟨k0, k1, kf⟩ := HL0.out.cells
        have kf0 := kf 0
        have kf1 := kf 1
        have hz0 : 0 ≤ X.f0 := hx0.1
        have hm5 : X.f0 % 5 = 0 ∨ X.f0 % 5 = 1 ∨ X.f0 % 5 = 2 ∨ X.f0 % 5 = 3 ∨ X.f0 % 5 = 4 := by omega
        clear hlg hfit hop hln hO HST kf hlt hx0 HX0
        have hm3 : (X.f0 % 5 = 0 ∨ X.f0 % 5 = 1 ∨ X.f0 % 5 = 2) ∨ X.f0 % 5 = 3 ∨ X.f0 % 5 = 4 := by omega
        clear hm5
        go_upto_block 2 with fail
        go_cut [12, 8, 9] from 50 to 172 (fun s12 s8 s9 wx => ∃ OX, s8 = .pointer (some ⟨OX, 0, none⟩) ∧ Hid (St w wx D QB n OX))
        case first =>
          rcases hm3 with hm | hm | hm
          · rcases hm with hm | hm | hm
            all_goals
              as_aux_lemma =>
                have HT1 := hid (Pure.commitW_told HFIT.out X.f1 HFN.out)
                have hcd := commit_D (HL0.out.new (Only.drew [] wr)).lg (by rw [rowSec_len]; have := HNN.out; omega) (by rw [rowSec_len]; have := HNN.out; omega) (HXC.out _ (HL0.out.new (Only.drew [] wr)).wl.base).2.2 HFN.out
                rw [HT1.out.eq] at hcd
                have HCD := hid hcd
                clear hcd
                obtain ⟨P1, hP1⟩ : ∃ P1, P1 = commitW s q X.f1 := ⟨_, rfl⟩
                rw [← hP1] at HCD HT1
                have HP1 := hid hP1
                clear hP1
                go_upto_region 15 with fail
                go_cut [12] from 50 to 172 (fun s12 wx => s12 = .int .i64 P1.e ∧ Hid (∃ (rA : Option Addr) (rn rc : Nat) (sA : Option Addr) (sn sc : Nat) (F2 : List Nat) (m2 : WM) (B2 : List Nat), Lg w wx [(D, s)] F2 0 D s m2 q QB B2 (.slice rA rn rc) (.slice sA sn sc) (rowSec P1.s 0 (n / 2)) (rowSec P1.s (n / 2) (n / 2)) ∧ m2.O = O))
                case first =>
                  go_region_law (first | (go_simp; go_at_call 9; refine HCD.out.mono ?_; rintro e w12 ⟨va2, vb2, B2, rfl, hl12, hB12, ho12⟩; obtain ⟨rA, rn, rc, hva2⟩ := hl12.sa.slice; subst hva2; obtain ⟨sA, sn, sc, hvb2⟩ := hl12.sb.slice; subst hvb2; have HGV := hid ((HL0.out.new (Only.drew [] wr)).gave (fun t => by simp) (fun t => by simp) ho12 hl12 hB12); obtain ⟨t0, t1, tf⟩ := ((HL0.out.new (Only.drew [] wr)).new ho12).cells; have tf0 := tf 0; have tf1 := tf 1; clear tf ho12 hl12 hB12))
                  all_goals
                    go_wp2_with fail
                    go_meet
                    obtain ⟨F2, m2, hlg, hO2⟩ := HGV.out
                    exact ⟨rfl, _, _, _, _, _, _, F2, m2, _, hlg, hO2.trans HO.out⟩
                case rest =>
                obtain ⟨rfl, HLX⟩ := hcut
                obtain ⟨rA, rn, rc, sA, sn, sc, F2, m2, B2, hlg, hO2⟩ := HLX.out
                clear HLX HCD HL0 k0 k1 kf0 kf1 x0 x1
                have v1 := (HXC.out _ hlg.wl.base).2.1
                have HLC := hid hlg
                have HOC := hid hO2
                have hcm := Wal_Commit hlg.wl A1 c1 X.f1 BX (HXC.out _ hlg.wl.base).2.2 (fun k hk => .inl (HBX.out k hk)) HFN.out (by rw [HOPN.out]; decide) (by have := HFIT.out.short.1; have := HNN.out; omega)
                rw [← HP1.out] at hcm
                unfold ptr at hcm
                rw [HOC.out] at hcm
                have HCM := hid hcm
                have HFITX := hid (show Pure.LFit P1.s P1.q (n / 2) from HT1.out.fit)
                have HLNX := hid (HT1.out.len.trans HLN.out)
                have HOPX := hid (show P1.s.opn = [] by
                  rcases HT1.out.opn with e | e
                  · exact e
                  · rw [e]; exact HOPN.out)
                clear hlg hO2 hcm HT1
                obtain ⟨er1, her1⟩ : ∃ er1, P1.e = er1 := ⟨_, rfl⟩
                rw [her1] at HCM
                rw [her1]
                clear her1
                go_wp2_with fail
                go_at_call 10
                refine HCM.out.mono ?_
                rintro e w14 ⟨rfl, F4, m4, hwent⟩
                have HL := hid (HLC.out.went hwent)
                have HOX := hid (hwent.obj.1.trans HOC.out)
                obtain ⟨qX, hqX⟩ : ∃ qX, P1.q = qX := ⟨_, rfl⟩
                rw [hqX] at HL HFITX
                clear hwent HCM HLC hqX
                have HSTX := hid (show St w _ D QB n O from ⟨_, _, _, _, _, _, _, HL.out, HFITX.out, HOPX.out, HLNX.out, HOX.out⟩)
                clear HL HFITX HOPX HLNX HOX
                go_wp2_with fail
                go_meet
                exact ⟨_, rfl, HSTX⟩
          · as_aux_lemma =>
              have HT1 := hid (Pure.saveW_told HFIT.out X.f1 HFN.out)
              have hcd := save_D (HL0.out.new (Only.drew [] wr)).lg (by rw [rowSec_len]; have := HNN.out; omega) (by rw [rowSec_len]; have := HNN.out; omega) (HXC.out _ (HL0.out.new (Only.drew [] wr)).wl.base).2.2 HFN.out
              rw [HT1.out.eq] at hcd
              have HCD := hid hcd
              clear hcd
              obtain ⟨P1, hP1⟩ : ∃ P1, P1 = saveW s q X.f1 := ⟨_, rfl⟩
              rw [← hP1] at HCD HT1
              have HP1 := hid hP1
              clear hP1
              go_upto_region 19 with fail
              go_cut [12] from 50 to 172 (fun s12 wx => s12 = .int .i64 P1.e ∧ Hid (∃ (rA : Option Addr) (rn rc : Nat) (sA : Option Addr) (sn sc : Nat) (F2 : List Nat) (m2 : WM) (B2 : List Nat), Lg w wx [(D, s)] F2 0 D s m2 q QB B2 (.slice rA rn rc) (.slice sA sn sc) (rowSec P1.s 0 (n / 2)) (rowSec P1.s (n / 2) (n / 2)) ∧ m2.O = O))
              case first =>
                go_region_law (first | (go_simp; go_at_call 11; refine HCD.out.mono ?_; rintro e w12 ⟨va2, vb2, B2, rfl, hl12, hB12, ho12⟩; obtain ⟨rA, rn, rc, hva2⟩ := hl12.sa.slice; subst hva2; obtain ⟨sA, sn, sc, hvb2⟩ := hl12.sb.slice; subst hvb2; have HGV := hid ((HL0.out.new (Only.drew [] wr)).gave (fun t => by simp) (fun t => by simp) ho12 hl12 hB12); obtain ⟨t0, t1, tf⟩ := ((HL0.out.new (Only.drew [] wr)).new ho12).cells; have tf0 := tf 0; have tf1 := tf 1; clear tf ho12 hl12 hB12))
                all_goals
                  go_wp2_with fail
                  go_meet
                  obtain ⟨F2, m2, hlg, hO2⟩ := HGV.out
                  exact ⟨rfl, _, _, _, _, _, _, F2, m2, _, hlg, hO2.trans HO.out⟩
              case rest =>
              obtain ⟨rfl, HLX⟩ := hcut
              obtain ⟨rA, rn, rc, sA, sn, sc, F2, m2, B2, hlg, hO2⟩ := HLX.out
              clear HLX HCD HL0 k0 k1 kf0 kf1 x0 x1
              have v1 := (HXC.out _ hlg.wl.base).2.1
              have HLC := hid hlg
              have HOC := hid hO2
              have hcm := Wal_Save hlg.wl A1 c1 X.f1 BX (HXC.out _ hlg.wl.base).2.2 (fun k hk => .inl (HBX.out k hk)) HFN.out (by rw [HOPN.out]; decide)
              rw [← HP1.out] at hcm
              unfold ptr at hcm
              rw [HOC.out] at hcm
              have HCM := hid hcm
              have HFITX := hid (show Pure.LFit P1.s P1.q (n / 2) from HT1.out.fit)
              have HLNX := hid (HT1.out.len.trans HLN.out)
              have HOPX := hid (show P1.s.opn = [] by
                rcases HT1.out.opn with e | e
                · exact e
                · rw [e]; exact HOPN.out)
              clear hlg hO2 hcm HT1
              obtain ⟨er1, her1⟩ : ∃ er1, P1.e = er1 := ⟨_, rfl⟩
              rw [her1] at HCM
              rw [her1]
              clear her1
              go_wp2_with fail
              go_at_call 12
              refine HCM.out.mono ?_
              rintro e w14 ⟨rfl, F4, m4, hwent⟩
              have HL := hid (HLC.out.went hwent)
              have HOX := hid (hwent.obj.1.trans HOC.out)
              obtain ⟨qX, hqX⟩ : ∃ qX, P1.q = qX := ⟨_, rfl⟩
              rw [hqX] at HL HFITX
              clear hwent HCM HLC hqX
              have HSTX := hid (show St w _ D QB n O from ⟨_, _, _, _, _, _, _, HL.out, HFITX.out, HOPX.out, HLNX.out, HOX.out⟩)
              clear HL HFITX HOPX HLNX HOX
              go_wp2_with fail
              go_meet
              exact ⟨_, rfl, HSTX⟩
          · as_aux_lemma =>
              have hop := Wal_Open HL0.out.wl.dr (i := 0) (D := D) (s := s) rfl (by rw [HLN.out]; have := HNN.out; omega) (by rw [HLN.out]; have := HNN.out; omega)
              obtain ⟨qX, ho1, hfX⟩ := openW_some HFIT.out (by rw [HLN.out])
              rw [ho1] at hop
              have HOP := hid hop
              have HFITX := hid hfX
              have HLNX := hid HLN.out
              have HOPX := hid HOPN.out
              clear hop ho1 hfX
              unfold ptr at HOP
              go_wp2_with fail
              go_at_call 5
              refine HOP.out.mono ?_
              rintro e w14 ⟨ho14, m4, F4, rfl, hw4, hsub, -, hfp⟩
              have HL := hid (show Lg w w14 [(D, s)] F4 0 D s m4 qX QB B (.slice pA pn pc) (.slice qA qn qc) (rowSec s 0 (n / 2)) (rowSec s (n / 2) (n / 2)) from
                ⟨hw4, HL0.out.lg.new ho14, (HL0.out.new ho14).qb, HL0.out.q0, fun k hk => ⟨hsub k (HL0.out.mem k hk).1, fun e => by
                  have h1 := hfp k e
                  have h2 := HL0.out.wl.dr.lt k (HL0.out.mem k hk).1
                  omega⟩, HL0.out.ne⟩)
              obtain ⟨O2, hO2⟩ : ∃ O2, m4.O = O2 := ⟨_, rfl⟩
              have HOX := hid hO2
              rw [hO2]
              clear ho14 hw4 hsub hfp HOP HL0 k0 k1 kf0 kf1 hO2
              have HSTX := hid (show St w _ D QB n O2 from ⟨_, _, _, _, _, _, _, HL.out, HFITX.out, HOPX.out, HLNX.out, HOX.out⟩)
              clear HL HFITX HOPX HLNX HOX
              go_wp2_with fail
              go_meet
              exact ⟨_, rfl, HSTX⟩
        case rest =>
          obtain ⟨OX, rfl, HSTX⟩ := hcut
          obtain ⟨F1, s1, m1, qX, B1, va1, vb1, hl1, hf1, ho1, hn1, hO1⟩ := HSTX.out.ex
          obtain ⟨rA, rn, rc, hva1⟩ := hl1.lg.sa.slice
          subst hva1
          obtain ⟨sA, sn, sc, hvb1⟩ := hl1.lg.sb.slice
          subst hvb1
          have HL := hid hl1
          have HFITX := hid hf1
          have HOPX := hid ho1
          have HLNX := hid hn1
          have HOX := hid hO1
          clear hl1 hf1 ho1 hn1 hO1 HSTX HL0 k0 k1 kf0 kf1 x0 x1 HFIT HOPN HLN HO
          obtain ⟨k0, k1, kf⟩ := HL.out.cells
          have htx := Txns_D HL.out.lg
          rw [HFITX.out.txns] at htx
          have HTX := hid htx
          clear htx kf
          go_wp2_with fail
          go_at_call 13
          refine HTX.out.mono ?_
          rintro e w5 ⟨vD, BD, rfl, htD, ho5⟩
          have HL5 := hid (HL.out.new ho5)
          have HTD := hid htD
          obtain ⟨n0, n1, nf⟩ := HL5.out.cells
          have n2 := (HXC.out _ HL5.out.wl.base).2.1
          have HSH := hid HFITX.out.short
          have HAGE := hid HFITX.out.age
          have HH2 := hid (show n / 2 ≤ 31 by have := HNN.out; omega)
          have H15 := hid (fun W (ho : Only [] w5 W) => Wal_Txns (HL5.out.new ho).wl (by have := HSH.out.1; have := HH2.out; omega) (fun t ht => by have := HSH.out.2 t ht; have := HH2.out; omega))
          have H16 := hid (fun W (ho : Only [] w5 W) => Wal_Age (HL5.out.new ho).wl)
          have H18 := hid (fun W (ho : Only [] w5 W) => Wal_Room (HL5.out.new ho).wl)
          have H17 := hid (fun W (ho : Only [] w5 W) => Age_D (HL5.out.new ho).lg)
          have H19 := hid (fun W (ho : Only [] w5 W) => Room_D (HL5.out.new ho).lg)
          have H20 := hid (fun W (ho : Only [] w5 W) => Cost_W (HXC.out _ (HL5.out.new ho).wl.base).2.2 HFN.out)
          have H21 := hid (fun W (ho : Only [] w5 W) => Cost_D (HXC.out _ (HL5.out.new ho).wl.base).2.2 HFN.out)
          have H22 := hid (fun W (ho : Only [] w5 W) => (HL5.out.new ho).wl.dr.pending (HL5.out.new ho).wl.hi)
          have H23 := hid (fun W (ho : Only [] w5 W) => same_calls (HL5.out.new ho).wl.dr (HL5.out.new ho).wl.hi (n := n / 2) (by have := HNN.out; omega) (by rw [HLNX.out]; omega) (HL5.out.new ho).lg)
          rw [HAGE.out.1] at H17
          rw [HAGE.out.2] at H19
          rw [HOPX.out] at H22
          unfold ptr at H15 H16 H18 H22 H23
          rw [HOX.out] at H15 H16 H18
          obtain ⟨ag, hag⟩ : ∃ ag : Int, ((qX.h qX.log).first : Int) = ag := ⟨_, rfl⟩
          rw [hag] at H16 H17
          obtain ⟨rm, hrm⟩ : ∃ rm : Int, (((qX.h qX.log).mn - (qX.h qX.log).en : Nat) : Int) = rm := ⟨_, rfl⟩
          rw [hrm] at H18 H19
          obtain ⟨co, hco⟩ : ∃ co : Int, ((Pure.manyN (rowL X.f1).length : Nat) : Int) = co := ⟨_, rfl⟩
          rw [hco] at H20 H21
          have HSM := hid (same_true qX.txns (by have := HSH.out.1; have := HH2.out; omega) (fun t ht => by have := HSH.out.2 t ht; have := HH2.out; omega))
          as_aux_lemma =>
            clear HTX HL k0 k1 nf ho5 htD hag hrm hco HAGE
            go_wp2_with fail
            go_region_held3 (fun W => W.cell? ⟨QB, 0, none⟩ = some (.slice rA rn rc) ∧ W.cell? ⟨QB, 1, none⟩ = some (.slice sA sn sc) ∧ W.cell? ⟨(ad.add (i * 6)).block, (ad.add (i * 6)).off + 1, none⟩ = some (.slice A1 X.f1.length c1)) (first | exact ⟨n0, n1, n2⟩ | exact ⟨a0, a1, a2⟩ | exact ⟨b0, b1, b2⟩ | exact ⟨y0, y1, y2⟩ | exact ⟨f0, f1, f2⟩ | exact ⟨g0, g1, g2⟩ | exact ⟨h0, h1, h2⟩ | exact ⟨j0, j1, j2⟩ | exact ⟨l0, l1, l2⟩ | exact ⟨p0, p1, p2⟩)
              (first | (go_at_call 15; refine (H15.out _ (Only.drew [] w5)).mono ?_; rintro e w6 ⟨vT, BT, rfl, htT, ho⟩; have HO6 := hid ((Only.drew [] w5).trans ho (fun _ h _ => h)); have HTT := hid htT; obtain ⟨a0, a1, af⟩ := (HL5.out.new HO6.out).cells; have a2 := (HXC.out _ (HL5.out.new HO6.out).wl.base).2.1; clear af ho htT) | (go_at_call 14; refine (Same_D HTT.out (HTD.out.new HO6.out) HSM.out).mono ?_; rintro e w7 ⟨rfl, ho⟩; have HO7 := hid (HO6.out.trans ho (fun _ h _ => h)); obtain ⟨b0, b1, bf⟩ := (HL5.out.new HO7.out).cells; have b2 := (HXC.out _ (HL5.out.new HO7.out).wl.base).2.1; clear bf ho) | (go_at_call 16; refine (H16.out _ HO7.out).mono ?_; rintro e w8 ⟨rfl, ho⟩; have HO8 := hid (HO7.out.trans ho (fun _ h _ => h)); obtain ⟨y0, y1, yf⟩ := (HL5.out.new HO8.out).cells; have y2 := (HXC.out _ (HL5.out.new HO8.out).wl.base).2.1; clear yf ho) | (go_at_call 17; refine (H17.out _ HO8.out).mono ?_; rintro e w9 ⟨rfl, ho⟩; have HO9 := hid (HO8.out.trans ho (fun _ h _ => h)); obtain ⟨f0, f1, ff⟩ := (HL5.out.new HO9.out).cells; have f2 := (HXC.out _ (HL5.out.new HO9.out).wl.base).2.1; clear ff ho) | (go_at_call 18; refine (H18.out _ HO9.out).mono ?_; rintro e w10 ⟨rfl, ho⟩; have HO10 := hid (HO9.out.trans ho (fun _ h _ => h)); obtain ⟨g0, g1, gf⟩ := (HL5.out.new HO10.out).cells; have g2 := (HXC.out _ (HL5.out.new HO10.out).wl.base).2.1; clear gf ho) | (go_at_call 19; refine (H19.out _ HO10.out).mono ?_; rintro e w11 ⟨rfl, ho⟩; have HO11 := hid (HO10.out.trans ho (fun _ h _ => h)); obtain ⟨h0, h1, hf⟩ := (HL5.out.new HO11.out).cells; have h2 := (HXC.out _ (HL5.out.new HO11.out).wl.base).2.1; clear hf ho) | (go_at_call 20; refine (H20.out _ HO11.out).mono ?_; rintro e w12 ⟨rfl, ho⟩; have HO12 := hid (HO11.out.trans ho (fun _ h _ => h)); obtain ⟨j0, j1, jf⟩ := (HL5.out.new HO12.out).cells; have j2 := (HXC.out _ (HL5.out.new HO12.out).wl.base).2.1; clear jf ho) | (go_at_call 21; refine (H21.out _ HO12.out).mono ?_; rintro e w13 ⟨rfl, ho⟩; have HO13 := hid (HO12.out.trans ho (fun _ h _ => h)); obtain ⟨l0, l1, lf⟩ := (HL5.out.new HO13.out).cells; have l2 := (HXC.out _ (HL5.out.new HO13.out).wl.base).2.1; clear lf ho) | (go_at_call 22; refine (H22.out _ HO13.out).mono ?_; rintro e w14 ⟨rfl, h14⟩; have h15 := h14.symm; clear h14; subst h15) | (go_at_call 23; refine (H23.out _ HO13.out).mono ?_; rintro e w15 ⟨rfl, ho⟩; have HO15 := hid (HO13.out.trans ho (fun _ h _ => h)); obtain ⟨p0, p1, pf⟩ := (HL5.out.new HO15.out).cells; have p2 := (HXC.out _ (HL5.out.new HO15.out).wl.base).2.1; clear pf ho))
            have HLE := hid (HL5.out.new HO15.out)
            clear H15 H16 H17 H18 H19 H20 H21 H22 H23 HTD HTT HSM HL5 HO6 HO7 HO8 HO9 HO10 HO11 HO12 HO13 HO15 n0 n1 n2 a0 a1 a2 b0 b1 b2 y0 y1 y2 f0 f1 f2 g0 g1 g2 h0 h1 h2 j0 j1 j2 l0 l1 l2 p0 p1 p2
            have HST2 := hid (show St w _ D QB n OX from ⟨_, _, _, _, _, _, _, HLE.out, HFITX.out, HOPX.out, HLNX.out, HOX.out⟩)
            have hic := HIC.out
            go_wp2_with fail
            go_roundg (ls.length - (i + 1))
            case measure => omega
            case rel => exact ⟨i + 1, OX, by go_num, rfl, hic, Nat.le_refl _, HST2.out⟩
      · have d1 : decide ((i : Int) < (ls.length : Int)) = false := decide_eq_false (by omega)
        have d2 : decide (i < ls.length) = false := decide_eq_false hlt
        obtain ⟨F, s, m, q, B, va, vb, hlg, -⟩ := HST.out.ex
        have HB3 := hid hlg.wl.base
        clear hlg HST
        go_wp2_with fail
        go_at_call 7
        refine (wal_head _).mono ?_
        rintro e w5 ⟨rfl, hb⟩
        have HB4 := hid (HB3.out.trans (hb.mono HB3.out.size))
        clear hb
        go_wp2_with fail
        go_ret
        exact ⟨rfl, HB4.out⟩
end Go.Proofs.YtnhgakmnkpjpdaaGreat
