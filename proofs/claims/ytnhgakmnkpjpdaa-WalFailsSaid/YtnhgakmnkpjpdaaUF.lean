/- Chapter 06: WalFails, by walking it. -/
import Derived.Test.YtnhgakmnkpjpdaaUQ
import Derived.Test.YtnhgakmnkpjpdaaPY
import Derived.Deep.RegionHeld3
import Derived.Deep.CutBlock
import Derived.Deep.CutRange
set_option maxRecDepth 100000
set_option linter.unusedVariables false
set_option linter.unusedSimpArgs false
namespace Go.Proofs.Ytnhgakmnkpjpdaa
open Go Go.RowKit Go.Proofs.Ytnhgakmnkpjpdaa.Q Go.Proofs.YtnhgakmnkpjpdaaW.PrintWords Go.Proofs.YtnhgakmnkpjpdaaW.PrintLast Go.Proofs.YtnhgakmnkpjpdaaW.PrintMore
attribute [local go_sem] Oper.semAt_some max2_int min2_int max_two min_two max_three min_three max_four min_four
theorem cell_below {w W : World} {a : Addr} {v : Value} (h : w.cell? a = some v) (hb : Below w.heap.size w W) : W.cell? a = some v := by
  have hlt : a.block < w.heap.size := by
    by_cases c : a.block < w.heap.size
    · exact c
    · exfalso
      have hn : w.heap[a.block]? = none := Array.getElem?_eq_none (by omega)
      unfold World.cell? at h
      rw [hn] at h
      cases h
  rw [cell_same (hb.block a.block hlt)]
  exact h
/-- An act of the argument, in whatever world it is read. -/
theorem act_cells {w : World} {A : Option Addr} {ls : List S32} (h : Kd.C k32 w A ls.length ls) (i : Nat) (h1 : i < ls.length) : ∃ ad A1 c1 BX, A = some ad ∧ (∀ W, Below w.heap.size w W →
    W.cell? (ad.add (i * 6)) = some (.int .u8 (rd_T32 ls (i : Int)).f0) ∧ W.cell? ⟨(ad.add (i * 6)).block, (ad.add (i * 6)).off + 1, none⟩ = some (.slice A1 (rd_T32 ls (i : Int)).f1.length c1) ∧ W.cell? ⟨(ad.add (i * 6)).block, (ad.add (i * 6)).off + 2, none⟩ = some (.int .u8 (rd_T32 ls (i : Int)).f2) ∧
    W.cell? ⟨(ad.add (i * 6)).block, (ad.add (i * 6)).off + 3, none⟩ = some (.int .u64 (rd_T32 ls (i : Int)).f3.f0) ∧ W.cell? ⟨(ad.add (i * 6)).block, (ad.add (i * 6)).off + 4, none⟩ = some (.int .i64 (rd_T32 ls (i : Int)).f3.f1) ∧ W.cell? ⟨(ad.add (i * 6)).block, (ad.add (i * 6)).off + 5, none⟩ = some (.int .i64 (rd_T32 ls (i : Int)).f3.f2)) ∧
    (∀ W, Below w.heap.size w W → StrAt W BX (.slice A1 (rd_T32 ls (i : Int)).f1.length c1) (rd_T32 ls (i : Int)).f1) ∧ ∀ k ∈ BX, k < w.heap.size := by
  obtain ⟨ad, A1, c1, e, x0, x1, x2, x3, x4, x5, hc, hC⟩ := at_T32 h (i : Int) (by omega) (by omega)
  rw [Int.toNat_natCast] at x0 x1 x2 x3 x4 x5
  obtain ⟨BX, hS, hB⟩ := StrAt.of_arg hc hC
  exact ⟨ad, A1, c1, BX, e, fun W hb => ⟨cell_below x0 hb, cell_below x1 hb, cell_below x2 hb, cell_below x3 hb, cell_below x4 hb, cell_below x5 hb⟩, fun W hb => hS.same (fun k hk => hb.block k (hB k hk)), hB⟩
/-- Between two acts. -/
def Sf (w wr : World) (D CB n N O : Nat) : Prop := ∃ (s : DS) (q : WS) (C : S30), Wf w wr D s O q [] [(CB, boxC C)] ∧ Pure.Clean s q n N ∧ 0 ≤ C.f0 ∧ C.f0 < 18446744073709551616
/-- Behind a call. -/
structure Md (w wx : World) (D CB XB n N O : Nat) (X : S32) (A1 : Option Addr) (c1 : Nat) (C : S30) (q : WS) (V1 V2 : Value) (e : Int) : Prop where
  ex : ∃ (s1 : DS) (q1 : WS) (L2 : List (List ByteArray)), Wf w wx D s1 O q1 [(V2, L2), (V1, q.txns)] [(XB, boxX X A1 c1), (CB, boxC C)] ∧ (L2.length ≤ 4096 ∧ ∀ t ∈ L2, t.length ≤ 4096) ∧
    ((X.f0 % 7 < 4 ∧ Pure.OutW q n N L2 ⟨s1, q1, e⟩) ∨ (4 < X.f0 % 7 ∧ e = 0 ∧ L2 = q.txns ∧ q1 = q ∧ Pure.Clean (Pure.noF s1) q1 n N))
theorem same_false (L1 L2 : List (List ByteArray)) (hl : L1.length ≤ 4096) (hs : ∀ t ∈ L1, t.length ≤ 4096) (hne : L1 ≠ L2) : quittanceref06_Same.f 9000 L1 L2 = some false := by
  obtain ⟨q, h1, h2⟩ := Pure.Same06_f 9000 L1 L2 hl hs (by decide)
  rw [h1]
  cases q with
  | false => rfl
  | true => exact absurd (h2.1 rfl) hne
theorem Clean.few {s : DS} {q : WS} {n N : Nat} (h : Pure.Clean s q n N) (hn : n ≤ 31) : q.txns.length ≤ 31 ∧ ∀ t ∈ q.txns, t.length ≤ 1488 := by
  have := h.fit.short
  exact ⟨by omega, fun t ht => by have := this.2 t ht; omega⟩
theorem Clean.fused {s : DS} {q : WS} {n N : Nat} (h : Pure.Clean s q n N) (fu : Int) : Pure.Clean (Pure.noF (fuseS s fu)) q n N := by
  have e : Pure.noF (fuseS s fu) = s := Pure.noF_self h.fit.fuse
  rw [e]; exact h
theorem fuseS_neg (s : DS) : fuseS s (-1) = Pure.noF s := rfl
theorem Upd.only {w W : World} {b : Nat} {o : Obj} (u : Upd w W b o) : Only [b] w W := Only.of_upd (fp := [b]) u (by simp)
theorem Wf.downC {w0 w : World} {D O : Nat} {s : DS} {q : WS} {ts : List (Value × List (List ByteArray))} {fz : List (Nat × Obj)} (h : Wf w0 w D s O q ts fz) (hd : q.down = true) (hm : s.opn.length < 900000) (ht : q.txns.length ≤ 100000) :
    Calls Try.prog 20 #[.pointer (some ⟨O, 0, none⟩), .slice none 0 0] w fun e w' => e = .returned (.int .i64 30) ∧ Wf w0 w' D s O q ts fz := by
  have h2 := h.commit none 0 [] [] (fun W hb => StrAt.nil W 0) (fun k hk => by cases hk) fine_nil hm ht
  rw [(Pure.down_calls hd []).1] at h2
  exact h2
theorem Wf.downS {w0 w : World} {D O : Nat} {s : DS} {q : WS} {ts : List (Value × List (List ByteArray))} {fz : List (Nat × Obj)} (h : Wf w0 w D s O q ts fz) (hd : q.down = true) (hm : s.opn.length < 900000) :
    Calls Try.prog 22 #[.pointer (some ⟨O, 0, none⟩), .slice none 0 0] w fun e w' => e = .returned (.int .i64 30) ∧ Wf w0 w' D s O q ts fz := by
  have h2 := h.save none 0 [] [] (fun W hb => StrAt.nil W 0) (fun k hk => by cases hk) fine_nil hm
  rw [(Pure.down_calls hd []).2] at h2
  exact h2
theorem inf30 : (Try.prog.info? 30).map (fun i => (i.zero, i.size)) = some (some (.agg #[.int .u64 0, .int .i64 0, .int .i64 0]), 3) := by kernel_rfl
set_option maxHeartbeats 20000000 in
theorem fails_calls (w : World) (a : Int) (ha : 0 ≤ a ∧ a < 256) (A : Option Addr) (c : Nat) (ls : List S32) (hr : Kd.C k32 w A ls.length ls) (hc : ls.length ≤ c) (hok : ∀ x ∈ ls, (0 ≤ x.f0 ∧ x.f0 < 256) ∧ (0 ≤ x.f2 ∧ x.f2 < 256) ∧ 0 ≤ x.f3.f0 ∧ x.f3.f0 < 18446744073709551616) :
    Calls Try.prog 4 #[.int .u8 a, .slice A ls.length c] w fun e w' => e = .returned (.bool true) ∧ Below w.heap.size w w' := by
  obtain ⟨r, hrm⟩ : ∃ r : Nat, a % 56 = (r : Int) := ⟨(a % 56).toNat, by omega⟩
  obtain ⟨N, hN⟩ : ∃ N : Nat, 8 + (r : Int) = (N : Int) := ⟨8 + r, by omega⟩
  obtain ⟨n, hn⟩ : ∃ n : Nat, N / 2 = n := ⟨_, rfl⟩
  have HNN := hid (show 8 ≤ N ∧ N ≤ 63 by omega)
  have HN2 := hid hn
  have ha0 : 0 ≤ a := ha.1
  have HR := hid hr
  have HC := hid hc
  have HOK := hid hok
  obtain ⟨gr, hgr1, hgr2⟩ := Pure.great_f ls 1000 (by decide)
  have HG1 := hid hgr1
  have HG2 := hid hgr2
  clear hr hc hok ha hgr1 hgr2
  have e5 : ∀ args w, (callFunc 5 args).run Try.prog w = .ok (.enter 5 args) w := enters_of Try.func5 (by kernel_rfl) rfl
  have e6 : ∀ args w, (callFunc 6 args).run Try.prog w = .ok (.enter 6 args) w := enters_of Try.func6 (by kernel_rfl) rfl
  have e7 : ∀ args w, (callFunc 7 args).run Try.prog w = .ok (.enter 7 args) w := enters_of Try.func7 (by kernel_rfl) rfl
  have e11 : ∀ args w, (callFunc 11 args).run Try.prog w = .ok (.enter 11 args) w := enters_of Try.func11 (by kernel_rfl) rfl
  have e13 : ∀ args w, (callFunc 13 args).run Try.prog w = .ok (.enter 13 args) w := enters_of Try.func13 (by kernel_rfl) rfl
  have e14 : ∀ args w, (callFunc 14 args).run Try.prog w = .ok (.enter 14 args) w := enters_of Try.func14 (by kernel_rfl) rfl
  have e17 : ∀ args w, (callFunc 17 args).run Try.prog w = .ok (.enter 17 args) w := enters_of Try.func17 (by kernel_rfl) rfl
  have e20 : ∀ args w, (callFunc 20 args).run Try.prog w = .ok (.enter 20 args) w := enters_of Try.func20 (by kernel_rfl) rfl
  have e22 : ∀ args w, (callFunc 22 args).run Try.prog w = .ok (.enter 22 args) w := enters_of Try.func22 (by kernel_rfl) rfl
  have e24 : ∀ args w, (callFunc 24 args).run Try.prog w = .ok (.enter 24 args) w := enters_of Try.func24 (by kernel_rfl) rfl
  have e25 : ∀ args w, (callFunc 25 args).run Try.prog w = .ok (.enter 25 args) w := enters_of Try.func25 (by kernel_rfl) rfl
  have e26 : ∀ args w, (callFunc 26 args).run Try.prog w = .ok (.enter 26 args) w := enters_of Try.func26 (by kernel_rfl) rfl
  have e27 : ∀ args w, (callFunc 27 args).run Try.prog w = .ok (.enter 27 args) w := enters_of Try.func27 (by kernel_rfl) rfl
  go_enter Try.func4, Try.ntmps4
  go_wp2_with fail
  go_at_call 5
  refine ((Dr.start w).make N HNN.out.1 (by have := HNN.out; omega)).mono ?_
  rintro e w1 ⟨v, rfl, D, rfl, hd1, -⟩
  replace hd1 : Dr w w1 [(D, newS N)] [] := hd1
  have hop := Wal_Open hd1 (i := 0) (D := D) (s := newS N) rfl (by show 2 ≤ (List.replicate N z64).length; rw [List.length_replicate]; have := HNN.out; omega) (by show (List.replicate N z64).length ≤ 4096; rw [List.length_replicate]; have := HNN.out; omega)
  rw [openW_new] at hop
  have HOP := hid hop
  clear hd1 hop
  unfold ptr at HOP ⊢
  go_wp2_with fail
  go_at_call 11
  refine HOP.out.mono ?_
  rintro e w2 ⟨-, m2, F2, rfl, hw2, -, -, -⟩
  have HW2 := hid (Wf.start hw2)
  clear hw2 HOP
  obtain ⟨O0, hO⟩ : ∃ O, m2.O = O := ⟨_, rfl⟩
  rw [hO] at HW2 ⊢
  clear hO
  go_wp2_with fail
  go_at_call 6
  refine (quittancelaw06_great.calls 1000 A c ls gr w2 (Kd.C_below HR.out HW2.out.base) HC.out HG1.out).mono ?_
  rintro e w3 ⟨rfl, hd3⟩
  have HW3 := hid (HW2.out.new (drawn_only hd3 []))
  clear hd3 HW2
  cases gr with
  | true =>
    have HB3 := hid HW3.out.base
    go_wp2_with fail
    go_at_call 7
    refine (wal_head _).mono ?_
    rintro e w4 ⟨rfl, hb⟩
    have HB4 := hid (HB3.out.trans (hb.mono HB3.out.size))
    clear hb
    go_wp2_with fail
    go_ret
    exact ⟨rfl, HB4.out⟩
  | false =>
    have HGL := hid (HG2.out.1 rfl)
    clear HG1 HG2
    go_upto_region 8 with fail
    change Code.wp Try.prog _ _ _ (w3.alloc (boxC z30))
    obtain ⟨CB, hCB⟩ : ∃ CB, CB = w3.heap.size := ⟨_, rfl⟩
    obtain ⟨w4, hw4⟩ : ∃ w4, w4 = w3.alloc (boxC z30) := ⟨_, rfl⟩
    rw [← hCB, ← hw4]
    have HST0 := hid (show Sf w w4 D CB n N O0 from ⟨_, _, z30, HW3.out.boxed (by rw [hw4]; exact Only.alloc [] w3 _) CB _ (by rw [hw4, hCB]; exact heap_alloc_new w3 _) (by omega), by rw [← HN2.out]; exact Pure.clean_new N HNN.out.1, by decide, by decide⟩)
    clear hCB hw4 HW3
    go_wp2_with fail
    go_loopg [12, 10, 8] ls.length (fun kx s12 s10 s8 wr => ∃ (i : Nat) (fu : Int) (O : Nat), s12 = .int .i64 i ∧ s10 = .int .i64 fu ∧ s8 = .pointer (some ⟨O, 0, none⟩) ∧ i ≤ ls.length ∧ ls.length - i ≤ kx ∧ Hid (-1 ≤ fu ∧ fu ≤ 11) ∧ Hid (Sf w wr D CB n N O))
    case atStart => exact ⟨0, -1, O0, rfl, rfl, rfl, by omega, by omega, hid ⟨by decide, by decide⟩, HST0⟩
    case round =>
      obtain ⟨i, fu, O, rfl, rfl, rfl, hin, hk, HFU, HST⟩ := hrel
      clear HST0
      by_cases hlt : i < ls.length
      · have d1 : decide ((i : Int) < (ls.length : Int)) = true := decide_eq_true (by omega)
        have d2 : decide (i < ls.length) = true := decide_eq_true hlt
        have p1 : (0 ≤ (i : Int)) = True := eq_true (by omega)
        have p2 : ((i : Int) < (ls.length : Int)) = True := eq_true (by omega)
        have p3 : (i : Int) < (ls.length : Int) := by omega
        have p4 : ((i : Int)).toNat = i := by omega
        obtain ⟨ad, A1, c1, BX, rfl, hxc, hxs, hBX⟩ := act_cells HR.out i hlt
        obtain ⟨X, hX⟩ : ∃ X, X = rd_T32 ls (i : Int) := ⟨_, rfl⟩
        have hXm : X ∈ ls := by
          rw [hX, Pure.rd32_get ls i hlt]
          exact List.getElem_mem _
        have hx0 := HOK.out X hXm
        have HFN := hid (HGL.out.2 X hXm)
        have hi40 : i ≤ 40 := by have := HGL.out.1; omega
        have hl40 : ls.length ≤ 40 := HGL.out.1
        rw [← hX] at hxc hxs
        have HXS := hid hxs
        have HBX := hid hBX
        have HIC := hid (show i + 1 ≤ ls.length by omega)
        obtain ⟨s, q, C, hwf, hcl, hC0, hC1⟩ := HST.out
        obtain ⟨x0, x1, x2, x3, x4, x5⟩ := hxc _ hwf.base
        have HW0 := hid hwf
        have HCL := hid hcl
        have HC0 := hid (And.intro hC0 hC1)
        have HX0 := hid hx0
        have hz0 : 0 ≤ X.f0 := hx0.1.1
        have hm7 : X.f0 % 7 = 4 ∨ X.f0 % 7 ≠ 4 := by omega
        clear hxc hxs hBX hX hXm hwf hcl hC0 hC1 HST hlt hx0
        go_upto_region 12 with fail
        change Code.wp Try.prog _ _ _ (wr.alloc (boxX X A1 c1))
        obtain ⟨W1, hW1⟩ : ∃ W1, W1 = wr.alloc (boxX X A1 c1) := ⟨_, rfl⟩
        obtain ⟨XB, hXB⟩ : ∃ XB, XB = wr.heap.size := ⟨_, rfl⟩
        have HW1 := hid (show Wf w W1 D s O q [] [(XB, boxX X A1 c1), (CB, boxC C)] from HW0.out.boxed (by rw [hW1]; exact Only.alloc [] wr _) XB _ (by rw [hW1, hXB]; exact heap_alloc_new wr _) (by omega))
        have HNE := hid (show XB ≠ CB by
          have := block_lt (HW0.out.box (CB, boxC C) (by simp))
          have h2 : CB < wr.heap.size := this
          omega)
        rw [← hW1]
        try rw [← hXB]
        clear hW1 hXB x0 x1 x2 x3 x4 x5 HW0
        have HFW := hid (Clean.few HCL.out (by have := HNN.out; have := HN2.out; omega))
        go_wp2_with fail
        go_at_call 14
        refine (HW1.out.txns (by have := HFW.out; omega) (fun t ht => by have := HFW.out.2 t ht; omega)).mono ?_
        rintro e w5 ⟨A2, n2, c2, rfl, hw5, -⟩
        have HW5 := hid hw5
        clear hw5 HW1
        obtain ⟨y0, y1, y2, y3, y4, y5⟩ := boxX_cells (HW5.out.box (XB, boxX X A1 c1) (by simp))
        rcases hm7 with hm | hm
        · as_aux_lemma =>
          obtain ⟨fu2, hfu2⟩ : ∃ fu2 : Nat, X.f2 % 12 = (fu2 : Int) := ⟨(X.f2 % 12).toNat, by have := HX0.out.2.1; omega⟩
          have HFU2 := hid (show -1 ≤ (fu2 : Int) ∧ (fu2 : Int) ≤ 11 by omega)
          have hz2 : 0 ≤ X.f2 := HX0.out.2.1.1
          obtain ⟨ti, hti⟩ := info_two inf30
          have HTI := hid hti
          clear hti
          have HCBX := hid (HW5.out.box (CB, boxC C) (by simp))
          go_wp2_with (refine wpList_store_row rfl 30 (.tmp 11) (.tmp 74) rfl ti HTI.out.1 CB rfl 30 _ HCBX.out #[.int .u64 X.f3.f0, .int .i64 X.f3.f1, .int .i64 X.f3.f2] rfl HTI.out.2.2 rfl (by intro v hv; simp at hv; rcases hv with rfl | rfl | rfl <;> rfl) ?_; intro w6 u6)
          have HST2 := hid (show Sf w w6 D CB n N O from ⟨s, q, X.f3, ((HW5.out.less (ts' := []) (fz' := [(CB, boxC C)]) (fun t e => by cases e) (fun p e => by simp only [List.mem_cons, List.not_mem_nil, or_false] at e ⊢; exact .inr e)).setC u6.only u6.at_ (fun p e => by cases e)), HCL.out, HX0.out.2.2⟩)
          clear u6 HW5 HCBX y0 y1 y2 y3 y4 y5
          have hic := HIC.out
          go_roundg (ls.length - (i + 1))
          case measure => omega
          case rel => exact ⟨i + 1, fu2, O, by go_num, rfl, rfl, hic, Nat.le_refl _, HFU2, HST2⟩
        · have he4 : (X.f0 % 7 == 4) = false := beq_eq_false_iff_ne.2 hm
          go_upto_region 16 with fail
          go_wp2_with fail
          go_at_call 24
          refine (HW5.out.fuse fu (by have := HFU.out; omega)).mono ?_
          rintro e w6 ⟨rfl, hw6⟩
          have HCF := hid (Clean.fused HCL.out fu)
          obtain ⟨s6, hs6⟩ : ∃ s6, s6 = fuseS s fu := ⟨_, rfl⟩
          rw [← hs6] at hw6 HCF
          have HW6 := hid hw6
          clear hw6 hs6 HW5 y0 y1 y2 y3 y4 y5
          obtain ⟨y0, y1, y2, y3, y4, y5⟩ := boxX_cells (HW6.out.box (XB, boxX X A1 c1) (by simp))
          go_upto_block 2 with fail
          go_cut [15, 16] from 53 to 215 (fun s15 s16 wx => ∃ (An : Option Addr) (nn cn : Nat) (e : Int), s15 = .slice An nn cn ∧ s16 = .int .i64 e ∧ Hid (Md w wx D CB XB n N O X A1 c1 C q (.slice A2 n2 c2) (.slice An nn cn) e))
          case first =>
            have hm3 : (X.f0 % 7 = 0 ∨ X.f0 % 7 = 1 ∨ X.f0 % 7 = 2) ∨ X.f0 % 7 = 3 ∨ X.f0 % 7 = 5 ∨ X.f0 % 7 = 6 := by omega
            clear hm he4
            have HOP6 := hid (show s6.opn.length < 900000 by rw [show s6.opn = [] from HCF.out.opn]; decide)
            rcases hm3 with hm | hm | hm | hm
            · rcases hm with hm | hm | hm
              all_goals
                as_aux_lemma =>
                  have hou := Pure.commit_out HCF.out HN2.out (by have := HNN.out; omega) X.f1 HFN.out
                  have hcm := HW6.out.commit A1 c1 X.f1 BX HXS.out HBX.out HFN.out HOP6.out (by have := HFW.out; omega)
                  obtain ⟨⟨s7, q7, E⟩, hP⟩ : ∃ P, P = commitW s6 q X.f1 := ⟨_, rfl⟩
                  rw [← hP] at hcm hou
                  have HOU := hid hou
                  have HCM := hid hcm
                  clear hP hcm hou
                  go_wp2_with fail
                  go_at_call 20
                  refine HCM.out.mono ?_
                  rintro e w7 ⟨rfl, hw7⟩
                  have HW7 := hid hw7
                  clear HCM hw7 HW6 y0 y1 y2 y3 y4 y5
                  go_upto_region 24 with fail
                  obtain ⟨B1, hB1, hmx⟩ := HW7.out.mixed (v1 := .slice A2 n2 c2) (L1 := q.txns) (by simp)
                  obtain ⟨A3, c3, vs1, hv3, -, -, htx, hcell⟩ := hB1
                  obtain ⟨rfl, rfl, rfl⟩ := Value.slice.inj hv3
                  have HMX := hid hmx
                  have HTX := hid htx
                  have hL1 := HFW.out.1
                  have hrd : 0 < q.txns.length → ∃ ad : Addr, A2 = some ad ∧ ∀ W, Only [] w7 W → ∀ j u, vs1[j]? = some u → W.cell? (ad.add j) = some u := fun h0 => by
                    obtain ⟨ad, e, hb, hc⟩ := hcell h0
                    refine ⟨ad, e, fun W ho j u hj => ?_⟩
                    rw [cell_same (ho.block _ (by rw [add_block]; exact (HTX.out.lt _ hb).2) (by simp))]
                    exact hc j u hj
                  have hone : ∀ u ∈ vs1, u.oneCell' = true := fun u hu => by
                    obtain ⟨j, hj⟩ := List.getElem?_of_mem hu
                    have hjl : j < q.txns.length := by rw [← HTX.out.len]; exact (List.getElem?_eq_some_iff.1 hj).1
                    obtain ⟨A4, c4, e4, -⟩ := HTX.out.each j u _ hj (List.getElem?_eq_getElem hjl)
                    rw [e4]; rfl
                  have hcX : ∀ W, Only [] w7 W → W.cell? ⟨XB, 1, none⟩ = some (.slice A1 X.f1.length c1) := fun W ho => (boxX_cells ((HW7.out.new ho).box (XB, boxX X A1 c1) (by simp))).2.1
                  refine wp_region_flow (NJ w7 (.slice A2 q.txns.length c2) q.txns.length vs1 XB (.slice A1 X.f1.length c1)) (by kernel_rfl) (by kernel_rfl) NJ.start ?_ ?_
                  · exact ⟨nj_build _ rfl, nj_move _ rfl (by kernel_rfl) rfl, nj_copy _ _ _ 90 91 rfl rfl rfl rfl rfl ⟨⟨0, .data⟩, by simp, rfl, rfl⟩ ⟨⟨1, .data⟩, by simp, rfl, rfl⟩ A2 c2 rfl HTX.out.len hone (by omega) hrd, nj_field _ rfl (by kernel_rfl) rfl, nj_load _ _ 93 rfl rfl rfl ⟨⟨3, .data⟩, by simp, rfl, rfl⟩ hcX, nj_one _ _ 94 rfl rfl rfl ⟨⟨4, .data⟩, by simp, rfl, rfl⟩ A1 X.f1.length c1 rfl, nj_more _ _ _ 92 95 rfl rfl rfl rfl rfl ⟨⟨2, .data⟩, by simp, rfl, rfl⟩ ⟨⟨5, .data⟩, by simp, rfl, rfl⟩ A1 X.f1.length c1 rfl (by omega), nj_give _ _ 96 rfl rfl rfl ⟨⟨6, .data⟩, by simp, rfl, rfl⟩, trivial⟩
                  · intro vs us w8 hv hJ
                    simp only [putAll, Act.put, List.setIfInBounds_toArray, List.set_cons_zero, List.set_cons_succ]
                    have h6 := hJ.f6 _ (hJ.f7 _ (hv 7 (by decide)))
                    obtain ⟨g, cap, cur, e7, -, -, hcap, -⟩ := ownsRow_slice h6 (by omega)
                    rw [e7] at h6 ⊢
                    have hb8 := (HW7.out.new hJ.only).base
                    have htx8 := (HTX.out.kept hJ.only (by simp)).snoc (HXS.out w8 hb8) (fun k hk => ⟨Nat.zero_le _, Nat.lt_of_lt_of_le (HBX.out k hk) hb8.size⟩)
                    have hll : (q.txns ++ [X.f1]).length = q.txns.length + 1 := by rw [List.length_append, List.length_singleton]
                    have h6' := ownsRow_weaken (b' := 0) h6 (Nat.zero_le _)
                    rw [← hll] at h6'
                    have hT := TxV.of_own (A := some ⟨g, 0, none⟩) (c := cap) (c2 := cap) h6' htx8 (by rw [hll]) (by rw [hll]; exact hcap) (by rw [hll]; omega)
                    rw [hll] at hT
                    have HWF := hid (HMX.out w8 _ _ _ hJ.only hT (fun k hk => by
                      rcases List.mem_append.1 hk with e | e
                      · exact .inr (.inr (ownsRow_lt h6 e).1)
                      · rcases List.mem_append.1 e with e | e
                        · exact .inl (HBX.out k e)
                        · exact .inr (.inl e)))
                    have hsh : (q.txns ++ [X.f1]).length ≤ 4096 ∧ ∀ t ∈ q.txns ++ [X.f1], t.length ≤ 4096 := ⟨by omega, fun t ht => by
                      rcases List.mem_append.1 ht with e | e
                      · have := HFW.out.2 t e; omega
                      · rw [List.mem_singleton.1 e]; have := HFN.out.1; omega⟩
                    have HMD := hid (show Md w w8 D CB XB n N O X A1 c1 C q (.slice A2 q.txns.length c2) (.slice (some ⟨g, 0, none⟩) (q.txns.length + 1) cap) E from ⟨s7, q7, _, HWF.out, hsh, .inl ⟨by omega, HOU.out⟩⟩)
                    clear hT h6 h6' htx8 hJ hv hsh
                    go_wp2_with fail
                    go_meet
                    exact ⟨_, _, _, E, rfl, rfl, HMD⟩
            · as_aux_lemma =>
                have hou := Pure.save_out HCF.out HN2.out (by have := HNN.out; omega) X.f1 HFN.out
                have hcm := HW6.out.save A1 c1 X.f1 BX HXS.out HBX.out HFN.out HOP6.out
                obtain ⟨⟨s7, q7, E⟩, hP⟩ : ∃ P, P = saveW s6 q X.f1 := ⟨_, rfl⟩
                rw [← hP] at hcm hou
                have HOU := hid hou
                have HCM := hid hcm
                clear hP hcm hou
                go_wp2_with fail
                go_at_call 22
                refine HCM.out.mono ?_
                rintro e w7 ⟨rfl, hw7⟩
                have HW7 := hid hw7
                clear HCM hw7 HW6 y0 y1 y2 y3 y4 y5
                obtain ⟨y0, y1, y2, y3, y4, y5⟩ := boxX_cells (HW7.out.box (XB, boxX X A1 c1) (by simp))
                obtain ⟨B1, -, hmx⟩ := HW7.out.mixed (v1 := .slice A2 n2 c2) (L1 := q.txns) (by simp)
                have hb7 := HW7.out.base
                have hT := lit_txs w7 _ _ _ ((Txs.none 0 w7).snoc (HXS.out w7 hb7) (fun k hk => ⟨Nat.zero_le _, Nat.lt_of_lt_of_le (HBX.out k hk) hb7.size⟩)) (by simp) (by simp)
                have HWF := hid (hmx _ _ _ _ (Only.alloc [] w7 _) hT (fun k hk => by
                  rcases List.mem_cons.1 hk with e | e
                  · exact .inr (.inr (by rw [e]; exact Nat.le_refl _))
                  · rcases List.mem_append.1 e with e | e
                    · exact .inl (HBX.out k e)
                    · cases e))
                have HMD := hid (show Md w _ D CB XB n N O X A1 c1 C q (.slice A2 n2 c2) (.slice (some ⟨w7.heap.size, 0, none⟩) 1 1) E from ⟨s7, q7, _, HWF.out, ⟨by simp, fun t ht => by
                  have e : t = X.f1 := by simpa using ht
                  rw [e]; have := HFN.out.1; omega⟩, .inl ⟨by omega, HOU.out⟩⟩)
                clear hT hmx HWF
                go_wp2_with fail
                go_meet
                exact ⟨_, _, _, E, rfl, rfl, HMD⟩
            · as_aux_lemma =>
                have HMD := hid (show Md w w6 D CB XB n N O X A1 c1 C q (.slice A2 n2 c2) (.slice A2 n2 c2) 0 from ⟨s6, q, q.txns, HW6.out.less (fun t e => by simp only [List.mem_cons, List.not_mem_nil, or_false, or_self] at e ⊢; exact e) (fun p e => e), ⟨by have := HFW.out; omega, fun t ht => by have := HFW.out.2 t ht; omega⟩, .inr ⟨by omega, rfl, rfl, rfl, HCF.out⟩⟩)
                go_wp2_with fail
                go_meet
                exact ⟨_, _, _, 0, rfl, rfl, HMD⟩
            · as_aux_lemma =>
                have HMD := hid (show Md w w6 D CB XB n N O X A1 c1 C q (.slice A2 n2 c2) (.slice A2 n2 c2) 0 from ⟨s6, q, q.txns, HW6.out.less (fun t e => by simp only [List.mem_cons, List.not_mem_nil, or_false, or_self] at e ⊢; exact e) (fun p e => e), ⟨by have := HFW.out; omega, fun t ht => by have := HFW.out.2 t ht; omega⟩, .inr ⟨by omega, rfl, rfl, rfl, HCF.out⟩⟩)
                go_wp2_with fail
                go_meet
                exact ⟨_, _, _, 0, rfl, rfl, HMD⟩
          case rest =>
            obtain ⟨An, nn, cn, E, rfl, rfl, HMD⟩ := hcut
            obtain ⟨s7, q7, L2, hw7, hsh, hkind⟩ := HMD.out.ex
            have HW7 := hid hw7
            have HSH := hid hsh
            clear HMD hw7 hsh y0 y1 y2 y3 y4 y5 HW6 HCF
            obtain ⟨y0, y1, y2, y3, y4, y5⟩ := boxX_cells (HW7.out.box (XB, boxX X A1 c1) (by simp))
            obtain ⟨z0, z1, z2⟩ := boxC_cells (HW7.out.box (CB, boxC C) (by simp))
            have h7 : 0 ≤ X.f0 % 7 ∧ X.f0 % 7 < 7 := by omega
            rcases hkind with ⟨hwh, hou⟩ | ⟨hwh, rfl, hL2, hq7, hcl⟩
            · have l4 : decide (X.f0 % 7 < 4) = true := decide_eq_true hwh
              have l5 : decide (X.f0 % 7 < 5) = true := decide_eq_true (by omega)
              have l6 : (X.f0 % 7 == 6) = false := beq_eq_false_iff_ne.2 (by omega)
              cases hou with
              | ok h1 h2 h3 =>
                simp only at h1 h2 h3
                subst h1
                have HCL7 := hid h2
                rw [← h3] at HW7 HSH
                clear h2
                as_aux_lemma =>
                  have HFQ := hid (Clean.few HCL7.out (by have := HNN.out; have := HN2.out; omega))
                  go_wp2_with fail
                  go_at_call 14
                  refine (HW7.out.txns (by have := HFQ.out; omega) (fun t ht => by have := HFQ.out.2 t ht; omega)).mono ?_
                  rintro e w8 ⟨A8, n8, c8, rfl, hw8, -⟩
                  obtain ⟨B8, hB8⟩ := hw8.tx (v1 := .slice A8 n8 c8) (L1 := q7.txns) (by simp)
                  obtain ⟨B9, hB9⟩ := hw8.tx (v1 := .slice An nn cn) (L1 := q7.txns) (by simp)
                  have HSM := hid (Same_D hB8 hB9 (same_true q7.txns (by have := HFQ.out; omega) (fun t ht => by have := HFQ.out.2 t ht; omega)))
                  have HWM := hid hw8
                  clear hw8 hB8 hB9 HW7 y0 y1 y2 y3 y4 y5 z0 z1 z2
                  go_wp2_with fail
                  go_at_call 13
                  refine HSM.out.mono ?_
                  rintro e w9 ⟨rfl, ho9⟩
                  have HW8 := hid (HWM.out.new ho9)
                  clear ho9 HWM HSM
                  obtain ⟨y0, y1, y2, y3, y4, y5⟩ := boxX_cells (HW8.out.box (XB, boxX X A1 c1) (by simp))
                  go_wp2_with fail
                  go_at_call 24
                  refine (HW8.out.fuse (-1) (by decide)).mono ?_
                  rintro e w10 ⟨rfl, hw10⟩
                  rw [fuseS_neg] at hw10
                  have HST2 := hid (show Sf w w10 D CB n N O from ⟨_, q7, C, hw10.less (fun t e => by cases e) (fun p e => by simp only [List.mem_cons, List.not_mem_nil, or_false] at e ⊢; exact .inr e), HCL7.out, HC0.out⟩)
                  have hic := HIC.out
                  clear hw10 HW8
                  go_wp2_with fail
                  go_roundg (ls.length - (i + 1))
                  case measure => omega
                  case rel => exact ⟨i + 1, -1, O, by go_num, rfl, rfl, hic, Nat.le_refl _, hid ⟨by decide, by decide⟩, HST2⟩
              | no h1 h2 h3 =>
                simp only at h1 h2 h3
                have HCL7 := hid h3
                have b0 : (E == 0) = false := beq_eq_false_iff_ne.2 h1
                have b3 : (E == 30) = false := beq_eq_false_iff_ne.2 h2
                have b4 : (E != 30) = true := by rw [bne, b3]; rfl
                clear h3
                as_aux_lemma =>
                  have HW8 := HW7
                  clear HW7
                  go_wp2_with fail
                  go_at_call 24
                  refine (HW8.out.fuse (-1) (by decide)).mono ?_
                  rintro e w10 ⟨rfl, hw10⟩
                  rw [fuseS_neg] at hw10
                  have HST2 := hid (show Sf w w10 D CB n N O from ⟨_, q7, C, hw10.less (fun t e => by cases e) (fun p e => by simp only [List.mem_cons, List.not_mem_nil, or_false] at e ⊢; exact .inr e), HCL7.out, HC0.out⟩)
                  have hic := HIC.out
                  clear hw10 HW8
                  go_wp2_with fail
                  go_roundg (ls.length - (i + 1))
                  case measure => omega
                  case rel => exact ⟨i + 1, -1, O, by go_num, rfl, rfl, hic, Nat.le_refl _, hid ⟨by decide, by decide⟩, HST2⟩
              | ko h1 h2 h3 h4 =>
                simp only at h1 h2 h3 h4
                subst h1
                have HDN := hid h2
                have HTN := hid h3
                have HAF := hid h4
                clear h2 h3 h4
                as_aux_lemma =>
                  go_wp2_with fail
                  go_at_call 20
                  refine (HW7.out.downC HDN.out HAF.out.1 (by rw [HTN.out]; have := HFW.out; omega)).mono ?_
                  rintro e wa ⟨rfl, hwa⟩
                  have HWA := hid hwa
                  clear hwa HW7 y0 y1 y2 y3 y4 y5 z0 z1 z2
                  go_wp2_with fail
                  go_at_call 22
                  refine (HWA.out.downS HDN.out HAF.out.1).mono ?_
                  rintro e wb ⟨rfl, hwb⟩
                  have HWB := hid hwb
                  clear hwb HWA
                  go_wp2_with fail
                  go_at_call 14
                  refine (HWB.out.txns (by rw [HTN.out]; have := HFW.out; omega) (fun t ht => by rw [HTN.out] at ht; have := HFW.out.2 t ht; omega)).mono ?_
                  rintro e wd ⟨A8, n8, c8, rfl, hwd, -⟩
                  rw [HTN.out] at hwd
                  obtain ⟨B8, hB8⟩ := hwd.tx (v1 := .slice A8 n8 c8) (L1 := q.txns) (by simp)
                  obtain ⟨B9, hB9⟩ := hwd.tx (v1 := .slice A2 n2 c2) (L1 := q.txns) (by simp)
                  have HSM := hid (Same_D hB8 hB9 (same_true q.txns (by have := HFW.out; omega) (fun t ht => by have := HFW.out.2 t ht; omega)))
                  have HWD := hid hwd
                  clear hwd hB8 hB9 HWB
                  go_wp2_with fail
                  go_at_call 13
                  refine HSM.out.mono ?_
                  rintro e we ⟨rfl, hoe⟩
                  have hwe := HWD.out.new hoe
                  obtain ⟨y0, y1, y2, y3, y4, y5⟩ := boxX_cells (hwe.box (XB, boxX X A1 c1) (by simp))
                  obtain ⟨z0, z1, z2⟩ := boxC_cells (hwe.box (CB, boxC C) (by simp))
                  have HW8 := hid (hwe.less (ts' := [(.slice An nn cn, L2), (.slice A2 n2 c2, q.txns)]) (fz' := [(CB, boxC C)]) (fun t e => by simp only [List.mem_cons, List.not_mem_nil, or_false] at e ⊢; exact .inr e) (fun p e => by simp only [List.mem_cons, List.not_mem_nil, or_false] at e ⊢; exact .inr e))
                  clear hwe hoe HWD HSM
                  go_wp2_with fail
                  go_at_call 25
                  refine (HW8.out.crash HAF.out.1 C HC0.out).mono ?_
                  rintro e w10 ⟨rfl, hw10⟩
                  obtain ⟨q11, hq11, hc11, ht11⟩ := HAF.out.2 (C).f0 (C).f1 (C).f2
                  obtain ⟨s11, hs11⟩ : ∃ s11, s11 = crashS s7 (C).f0 (C).f1 (C).f2 := ⟨_, rfl⟩
                  rw [← hs11] at hw10 hq11 hc11
                  have HW10 := hid hw10
                  have HQ11 := hid hq11
                  have HC11 := hid hc11
                  have HT11 := hid ht11
                  have HFQ := hid (Clean.few hc11 (by have := HNN.out; have := HN2.out; omega))
                  clear hs11 hw10 hq11 hc11 ht11 HW8 HAF z0 z1 z2
                  go_wp2_with fail
                  go_at_call 11
                  refine (HW10.out.opened HQ11.out (by rw [HC11.out.len]; have := HNN.out; omega) (by rw [HC11.out.len]; have := HNN.out; omega)).mono ?_
                  rintro e w11 ⟨O11, rfl, hw11⟩
                  have HW11 := hid hw11
                  clear hw11 HW10
                  go_wp2_with fail
                  go_at_call 14
                  refine (HW11.out.txns (by have := HFQ.out; omega) (fun t ht => by have := HFQ.out.2 t ht; omega)).mono ?_
                  rintro e w12 ⟨A11, n11, c11, rfl, hw12, -⟩
                  have HW12 := hid hw12
                  clear hw12 HW11
                  obtain ⟨B11, hB11⟩ := HW12.out.tx (v1 := .slice A11 n11 c11) (L1 := q11.txns) (by simp)
                  obtain ⟨B2, hB2⟩ := HW12.out.tx (v1 := .slice An nn cn) (L1 := L2) (by simp)
                  obtain ⟨B1, hB1⟩ := HW12.out.tx (v1 := .slice A2 n2 c2) (L1 := q.txns) (by simp)
                  have HB11 := hid hB11
                  have HB2 := hid hB2
                  have HB1 := hid hB1
                  clear hB11 hB2 hB1
                  go_upto_region 45 with fail
                  go_cut [184] from 53 to 215 (fun s184 wx => s184 = .bool false ∧ Hid (Wf w wx D s11 O11 q11 [(.slice A11 n11 c11, q11.txns), (.slice An nn cn, L2), (.slice A2 n2 c2, q.txns)] [(CB, boxC C)]))
                  case first =>
                    by_cases hsq : q11.txns = q.txns
                    · have HSM := hid (same_true q11.txns (by have := HFQ.out; omega) (fun t ht => by have := HFQ.out.2 t ht; omega))
                      have HSD := hid (Same_D HB11.out HB1.out (by have := HSM.out; rw [← hsq]; exact this))
                      go_wp2_with fail
                      go_at_call 13
                      refine HSD.out.mono ?_
                      rintro e w14 ⟨rfl, ho14⟩
                      have HWM := hid (HW12.out.new ho14)
                      clear HW12 HSD HSM HB1 HB2 HB11 ho14
                      go_wp2_with fail
                      go_meet
                      exact ⟨rfl, HWM⟩
                    · have hl2 : q11.txns = L2 := HT11.out.resolve_left hsq
                      have HSF := hid (same_false q11.txns q.txns (by have := HFQ.out; omega) (fun t ht => by have := HFQ.out.2 t ht; omega) hsq)
                      have HSM := hid (same_true q11.txns (by have := HFQ.out; omega) (fun t ht => by have := HFQ.out.2 t ht; omega))
                      have HSD := hid (Same_D HB11.out HB1.out HSF.out)
                      go_wp2_with fail
                      go_at_call 13
                      refine HSD.out.mono ?_
                      rintro e w14 ⟨rfl, ho14⟩
                      have HSE := hid (Same_D (HB11.out.new ho14) (HB2.out.new ho14) (by have := HSM.out; rw [← hl2]; exact this))
                      go_wp2_with fail
                      go_at_call 13
                      refine HSE.out.mono ?_
                      rintro e w15 ⟨rfl, ho15⟩
                      have HWM := hid ((HW12.out.new ho14).new ho15)
                      clear HW12 HSD HSE HSM HSF HB1 HB2 HB11 ho14 ho15 hl2
                      go_wp2_with fail
                      go_meet
                      exact ⟨rfl, HWM⟩
                  case rest =>
                    obtain ⟨rfl, HWX⟩ := hcut
                    clear HB1 HB2 HB11 HW12
                    have hp0 : ((s11.opn.length : Nat) : Int) = 0 := by rw [show s11.opn = [] from HC11.out.opn]; rfl
                    go_wp2_with fail
                    go_at_call 26
                    refine (HWX.out.copy (by rw [show s11.opn = [] from HC11.out.opn]; decide) HQ11.out (by rw [HC11.out.len]; have := HNN.out; omega) (by rw [HC11.out.len]; have := HNN.out; omega)).mono ?_
                    rintro e w16 ⟨D16, rfl, -, hop16⟩
                    have HOP16 := hid hop16
                    clear hop16 HWX
                    go_wp2_with fail
                    go_at_call 11
                    refine HOP16.out.mono ?_
                    rintro e w17 ⟨O17, rfl, hw17, ho17⟩
                    have HW17 := hid hw17
                    have HO17 := hid ho17
                    clear hw17 ho17 HOP16
                    go_wp2_with fail
                    go_at_call 14
                    refine (HO17.out.txns (by have := HFQ.out; omega) (fun t ht => by have := HFQ.out.2 t ht; omega)).mono ?_
                    rintro e w18 ⟨A18, n18, c18, rfl, ⟨B18, hB18⟩, ho18⟩
                    have HW18 := hid (HW17.out.new ho18)
                    have HO18 := hid (HO17.out.new ho18)
                    obtain ⟨B11, hB11⟩ := HW18.out.tx (v1 := .slice A11 n11 c11) (L1 := q11.txns) (by simp)
                    have HSD := hid (Same_D hB18 hB11 (same_true q11.txns (by have := HFQ.out; omega) (fun t ht => by have := HFQ.out.2 t ht; omega)))
                    clear hB18 hB11 ho18 HW17 HO17
                    go_wp2_with fail
                    go_at_call 13
                    refine HSD.out.mono ?_
                    rintro e w19 ⟨rfl, ho19⟩
                    have HW19 := hid (HW18.out.new ho19)
                    have HRO := hid (HO18.out.new ho19).room
                    have HRW := hid (fun W (ho : Only [] w19 W) => (HW19.out.new ho).room)
                    obtain ⟨rm, hrm⟩ : ∃ rm : Int, (((q11.h q11.log).mn - (q11.h q11.log).en : Nat) : Int) = rm := ⟨_, rfl⟩
                    rw [hrm] at HRO HRW
                    clear hrm ho19 HSD HW18 HO18
                    go_wp2_with fail
                    go_at_call 17
                    refine HRO.out.mono ?_
                    rintro e w20 ⟨rfl, ho20⟩
                    have HO20 := hid ho20
                    clear ho20
                    go_wp2_with fail
                    go_at_call 17
                    refine (HRW.out w20 HO20.out).mono ?_
                    rintro e w21 ⟨rfl, ho21⟩
                    have HW21 := hid ((HW19.out.new HO20.out).new ho21)
                    have hpn := HW21.out.pending
                    rw [hp0] at hpn
                    have HPN := hid hpn
                    clear ho21 hpn HRO HRW HO20 HW19
                    go_wp2_with fail
                    go_at_call 27
                    refine HPN.out.mono ?_
                    rintro e w22 ⟨rfl, h22⟩
                    have h23 := h22.symm
                    clear h22
                    subst h23
                    have HST2 := hid (show Sf w w21 D CB n N O11 from ⟨s11, q11, C, HW21.out.less (fun t e => by cases e) (fun p e => e), HC11.out, HC0.out⟩)
                    have hic := HIC.out
                    clear HW21 HPN hp0
                    go_wp2_with fail
                    go_roundg (ls.length - (i + 1))
                    case measure => omega
                    case rel => exact ⟨i + 1, -1, O11, by go_num, rfl, rfl, hic, Nat.le_refl _, hid ⟨by decide, by decide⟩, HST2⟩
            · subst hL2
              have hq8 := hq7.symm
              subst hq8
              have l4 : decide (X.f0 % 7 < 4) = false := decide_eq_false (by omega)
              have l5 : decide (X.f0 % 7 < 5) = false := decide_eq_false (by omega)
              have HAF := hid (Pure.idle_after hcl HN2.out)
              clear hcl
              rcases (show X.f0 % 7 = 5 ∨ X.f0 % 7 = 6 by omega) with hm6 | hm6
              · as_aux_lemma =>
                  have HW8 := hid (HW7.out.less (fz' := [(CB, boxC C)]) (fun t e => e) (fun p e => by simp only [List.mem_cons, List.not_mem_nil, or_false] at e ⊢; exact .inr e))
                  clear HW7
                  go_wp2_with fail
                  go_at_call 25
                  refine (HW8.out.crash HAF.out.1 C HC0.out).mono ?_
                  rintro e w10 ⟨rfl, hw10⟩
                  obtain ⟨q11, hq11, hc11, ht11⟩ := HAF.out.2 (C).f0 (C).f1 (C).f2
                  obtain ⟨s11, hs11⟩ : ∃ s11, s11 = crashS s7 (C).f0 (C).f1 (C).f2 := ⟨_, rfl⟩
                  rw [← hs11] at hw10 hq11 hc11
                  have HW10 := hid hw10
                  have HQ11 := hid hq11
                  have HC11 := hid hc11
                  have HT11 := hid ht11
                  have HFQ := hid (Clean.few hc11 (by have := HNN.out; have := HN2.out; omega))
                  clear hs11 hw10 hq11 hc11 ht11 HW8 HAF z0 z1 z2
                  go_wp2_with fail
                  go_at_call 11
                  refine (HW10.out.opened HQ11.out (by rw [HC11.out.len]; have := HNN.out; omega) (by rw [HC11.out.len]; have := HNN.out; omega)).mono ?_
                  rintro e w11 ⟨O11, rfl, hw11⟩
                  have HW11 := hid hw11
                  clear hw11 HW10
                  go_wp2_with fail
                  go_at_call 14
                  refine (HW11.out.txns (by have := HFQ.out; omega) (fun t ht => by have := HFQ.out.2 t ht; omega)).mono ?_
                  rintro e w12 ⟨A11, n11, c11, rfl, hw12, -⟩
                  have HW12 := hid hw12
                  clear hw12 HW11
                  obtain ⟨B11, hB11⟩ := HW12.out.tx (v1 := .slice A11 n11 c11) (L1 := q11.txns) (by simp)
                  obtain ⟨B2, hB2⟩ := HW12.out.tx (v1 := .slice An nn cn) (L1 := q.txns) (by simp)
                  obtain ⟨B1, hB1⟩ := HW12.out.tx (v1 := .slice A2 n2 c2) (L1 := q.txns) (by simp)
                  have HB11 := hid hB11
                  have HB2 := hid hB2
                  have HB1 := hid hB1
                  clear hB11 hB2 hB1
                  go_upto_region 45 with fail
                  go_cut [184] from 53 to 215 (fun s184 wx => s184 = .bool false ∧ Hid (Wf w wx D s11 O11 q11 [(.slice A11 n11 c11, q11.txns), (.slice An nn cn, q.txns), (.slice A2 n2 c2, q.txns)] [(CB, boxC C)]))
                  case first =>
                    have hsq : q11.txns = q.txns := HT11.out.elim id id
                    have HSM := hid (same_true q11.txns (by have := HFQ.out; omega) (fun t ht => by have := HFQ.out.2 t ht; omega))
                    have HSD := hid (Same_D HB11.out HB1.out (by have := HSM.out; rw [← hsq]; exact this))
                    clear hsq
                    go_wp2_with fail
                    go_at_call 13
                    refine HSD.out.mono ?_
                    rintro e w14 ⟨rfl, ho14⟩
                    have HWM := hid (HW12.out.new ho14)
                    clear HW12 HSD HSM HB1 HB2 HB11 ho14
                    go_wp2_with fail
                    go_meet
                    exact ⟨rfl, HWM⟩
                  case rest =>
                    obtain ⟨rfl, HWX⟩ := hcut
                    clear HB1 HB2 HB11 HW12
                    have hp0 : ((s11.opn.length : Nat) : Int) = 0 := by rw [show s11.opn = [] from HC11.out.opn]; rfl
                    go_wp2_with fail
                    go_at_call 26
                    refine (HWX.out.copy (by rw [show s11.opn = [] from HC11.out.opn]; decide) HQ11.out (by rw [HC11.out.len]; have := HNN.out; omega) (by rw [HC11.out.len]; have := HNN.out; omega)).mono ?_
                    rintro e w16 ⟨D16, rfl, -, hop16⟩
                    have HOP16 := hid hop16
                    clear hop16 HWX
                    go_wp2_with fail
                    go_at_call 11
                    refine HOP16.out.mono ?_
                    rintro e w17 ⟨O17, rfl, hw17, ho17⟩
                    have HW17 := hid hw17
                    have HO17 := hid ho17
                    clear hw17 ho17 HOP16
                    go_wp2_with fail
                    go_at_call 14
                    refine (HO17.out.txns (by have := HFQ.out; omega) (fun t ht => by have := HFQ.out.2 t ht; omega)).mono ?_
                    rintro e w18 ⟨A18, n18, c18, rfl, ⟨B18, hB18⟩, ho18⟩
                    have HW18 := hid (HW17.out.new ho18)
                    have HO18 := hid (HO17.out.new ho18)
                    obtain ⟨B11, hB11⟩ := HW18.out.tx (v1 := .slice A11 n11 c11) (L1 := q11.txns) (by simp)
                    have HSD := hid (Same_D hB18 hB11 (same_true q11.txns (by have := HFQ.out; omega) (fun t ht => by have := HFQ.out.2 t ht; omega)))
                    clear hB18 hB11 ho18 HW17 HO17
                    go_wp2_with fail
                    go_at_call 13
                    refine HSD.out.mono ?_
                    rintro e w19 ⟨rfl, ho19⟩
                    have HW19 := hid (HW18.out.new ho19)
                    have HRO := hid (HO18.out.new ho19).room
                    have HRW := hid (fun W (ho : Only [] w19 W) => (HW19.out.new ho).room)
                    obtain ⟨rm, hrm⟩ : ∃ rm : Int, (((q11.h q11.log).mn - (q11.h q11.log).en : Nat) : Int) = rm := ⟨_, rfl⟩
                    rw [hrm] at HRO HRW
                    clear hrm ho19 HSD HW18 HO18
                    go_wp2_with fail
                    go_at_call 17
                    refine HRO.out.mono ?_
                    rintro e w20 ⟨rfl, ho20⟩
                    have HO20 := hid ho20
                    clear ho20
                    go_wp2_with fail
                    go_at_call 17
                    refine (HRW.out w20 HO20.out).mono ?_
                    rintro e w21 ⟨rfl, ho21⟩
                    have HW21 := hid ((HW19.out.new HO20.out).new ho21)
                    have hpn := HW21.out.pending
                    rw [hp0] at hpn
                    have HPN := hid hpn
                    clear ho21 hpn HRO HRW HO20 HW19
                    go_wp2_with fail
                    go_at_call 27
                    refine HPN.out.mono ?_
                    rintro e w22 ⟨rfl, h22⟩
                    have h23 := h22.symm
                    clear h22
                    subst h23
                    have HST2 := hid (show Sf w w21 D CB n N O11 from ⟨s11, q11, C, HW21.out.less (fun t e => by cases e) (fun p e => e), HC11.out, HC0.out⟩)
                    have hic := HIC.out
                    clear HW21 HPN hp0
                    go_wp2_with fail
                    go_roundg (ls.length - (i + 1))
                    case measure => omega
                    case rel => exact ⟨i + 1, -1, O11, by go_num, rfl, rfl, hic, Nat.le_refl _, hid ⟨by decide, by decide⟩, HST2⟩
              · as_aux_lemma =>
                  obtain ⟨ti, hti⟩ := info_two inf30
                  have HTI := hid hti
                  clear hti
                  have HCBX := hid (HW7.out.box (CB, boxC C) (by simp))
                  have HWL := hid (HW7.out.less (fz' := [(CB, boxC C)]) (fun t e => e) (fun p e => by simp only [List.mem_cons, List.not_mem_nil, or_false] at e ⊢; exact .inr e))
                  clear HW7 z0 z1 z2
                  go_wp2_with (refine wpList_store_row rfl 30 (.tmp 11) (.tmp 154) rfl ti HTI.out.1 CB rfl 30 _ HCBX.out #[.int .u64 X.f3.f0, .int .i64 X.f3.f1, .int .i64 X.f3.f2] rfl HTI.out.2.2 rfl (by intro v hv; simp at hv; rcases hv with rfl | rfl | rfl <;> rfl) ?_; intro w8 u8; have HW8 := hid (HWL.out.setC (Y := X.f3) u8.only u8.at_ (fun p e => by cases e)); clear HWL HCBX y0 y1 y2 y3 y4 y5; obtain ⟨z0, z1, z2⟩ := boxC_cells (X := X.f3) u8.at_; clear u8)
                  go_at_call 25
                  refine (HW8.out.crash HAF.out.1 X.f3 HX0.out.2.2).mono ?_
                  rintro e w10 ⟨rfl, hw10⟩
                  obtain ⟨q11, hq11, hc11, ht11⟩ := HAF.out.2 (X.f3).f0 (X.f3).f1 (X.f3).f2
                  obtain ⟨s11, hs11⟩ : ∃ s11, s11 = crashS s7 (X.f3).f0 (X.f3).f1 (X.f3).f2 := ⟨_, rfl⟩
                  rw [← hs11] at hw10 hq11 hc11
                  have HW10 := hid hw10
                  have HQ11 := hid hq11
                  have HC11 := hid hc11
                  have HT11 := hid ht11
                  have HFQ := hid (Clean.few hc11 (by have := HNN.out; have := HN2.out; omega))
                  clear hs11 hw10 hq11 hc11 ht11 HW8 HAF z0 z1 z2
                  go_wp2_with fail
                  go_at_call 11
                  refine (HW10.out.opened HQ11.out (by rw [HC11.out.len]; have := HNN.out; omega) (by rw [HC11.out.len]; have := HNN.out; omega)).mono ?_
                  rintro e w11 ⟨O11, rfl, hw11⟩
                  have HW11 := hid hw11
                  clear hw11 HW10
                  go_wp2_with fail
                  go_at_call 14
                  refine (HW11.out.txns (by have := HFQ.out; omega) (fun t ht => by have := HFQ.out.2 t ht; omega)).mono ?_
                  rintro e w12 ⟨A11, n11, c11, rfl, hw12, -⟩
                  have HW12 := hid hw12
                  clear hw12 HW11
                  obtain ⟨B11, hB11⟩ := HW12.out.tx (v1 := .slice A11 n11 c11) (L1 := q11.txns) (by simp)
                  obtain ⟨B2, hB2⟩ := HW12.out.tx (v1 := .slice An nn cn) (L1 := q.txns) (by simp)
                  obtain ⟨B1, hB1⟩ := HW12.out.tx (v1 := .slice A2 n2 c2) (L1 := q.txns) (by simp)
                  have HB11 := hid hB11
                  have HB2 := hid hB2
                  have HB1 := hid hB1
                  clear hB11 hB2 hB1
                  go_upto_region 45 with fail
                  go_cut [184] from 53 to 215 (fun s184 wx => s184 = .bool false ∧ Hid (Wf w wx D s11 O11 q11 [(.slice A11 n11 c11, q11.txns), (.slice An nn cn, q.txns), (.slice A2 n2 c2, q.txns)] [(CB, boxC X.f3)]))
                  case first =>
                    have hsq : q11.txns = q.txns := HT11.out.elim id id
                    have HSM := hid (same_true q11.txns (by have := HFQ.out; omega) (fun t ht => by have := HFQ.out.2 t ht; omega))
                    have HSD := hid (Same_D HB11.out HB1.out (by have := HSM.out; rw [← hsq]; exact this))
                    clear hsq
                    go_wp2_with fail
                    go_at_call 13
                    refine HSD.out.mono ?_
                    rintro e w14 ⟨rfl, ho14⟩
                    have HWM := hid (HW12.out.new ho14)
                    clear HW12 HSD HSM HB1 HB2 HB11 ho14
                    go_wp2_with fail
                    go_meet
                    exact ⟨rfl, HWM⟩
                  case rest =>
                    obtain ⟨rfl, HWX⟩ := hcut
                    clear HB1 HB2 HB11 HW12
                    have hp0 : ((s11.opn.length : Nat) : Int) = 0 := by rw [show s11.opn = [] from HC11.out.opn]; rfl
                    go_wp2_with fail
                    go_at_call 26
                    refine (HWX.out.copy (by rw [show s11.opn = [] from HC11.out.opn]; decide) HQ11.out (by rw [HC11.out.len]; have := HNN.out; omega) (by rw [HC11.out.len]; have := HNN.out; omega)).mono ?_
                    rintro e w16 ⟨D16, rfl, -, hop16⟩
                    have HOP16 := hid hop16
                    clear hop16 HWX
                    go_wp2_with fail
                    go_at_call 11
                    refine HOP16.out.mono ?_
                    rintro e w17 ⟨O17, rfl, hw17, ho17⟩
                    have HW17 := hid hw17
                    have HO17 := hid ho17
                    clear hw17 ho17 HOP16
                    go_wp2_with fail
                    go_at_call 14
                    refine (HO17.out.txns (by have := HFQ.out; omega) (fun t ht => by have := HFQ.out.2 t ht; omega)).mono ?_
                    rintro e w18 ⟨A18, n18, c18, rfl, ⟨B18, hB18⟩, ho18⟩
                    have HW18 := hid (HW17.out.new ho18)
                    have HO18 := hid (HO17.out.new ho18)
                    obtain ⟨B11, hB11⟩ := HW18.out.tx (v1 := .slice A11 n11 c11) (L1 := q11.txns) (by simp)
                    have HSD := hid (Same_D hB18 hB11 (same_true q11.txns (by have := HFQ.out; omega) (fun t ht => by have := HFQ.out.2 t ht; omega)))
                    clear hB18 hB11 ho18 HW17 HO17
                    go_wp2_with fail
                    go_at_call 13
                    refine HSD.out.mono ?_
                    rintro e w19 ⟨rfl, ho19⟩
                    have HW19 := hid (HW18.out.new ho19)
                    have HRO := hid (HO18.out.new ho19).room
                    have HRW := hid (fun W (ho : Only [] w19 W) => (HW19.out.new ho).room)
                    obtain ⟨rm, hrm⟩ : ∃ rm : Int, (((q11.h q11.log).mn - (q11.h q11.log).en : Nat) : Int) = rm := ⟨_, rfl⟩
                    rw [hrm] at HRO HRW
                    clear hrm ho19 HSD HW18 HO18
                    go_wp2_with fail
                    go_at_call 17
                    refine HRO.out.mono ?_
                    rintro e w20 ⟨rfl, ho20⟩
                    have HO20 := hid ho20
                    clear ho20
                    go_wp2_with fail
                    go_at_call 17
                    refine (HRW.out w20 HO20.out).mono ?_
                    rintro e w21 ⟨rfl, ho21⟩
                    have HW21 := hid ((HW19.out.new HO20.out).new ho21)
                    have hpn := HW21.out.pending
                    rw [hp0] at hpn
                    have HPN := hid hpn
                    clear ho21 hpn HRO HRW HO20 HW19
                    go_wp2_with fail
                    go_at_call 27
                    refine HPN.out.mono ?_
                    rintro e w22 ⟨rfl, h22⟩
                    have h23 := h22.symm
                    clear h22
                    subst h23
                    have HST2 := hid (show Sf w w21 D CB n N O11 from ⟨s11, q11, X.f3, HW21.out.less (fun t e => by cases e) (fun p e => e), HC11.out, HX0.out.2.2⟩)
                    have hic := HIC.out
                    clear HW21 HPN hp0
                    go_wp2_with fail
                    go_roundg (ls.length - (i + 1))
                    case measure => omega
                    case rel => exact ⟨i + 1, -1, O11, by go_num, rfl, rfl, hic, Nat.le_refl _, hid ⟨by decide, by decide⟩, HST2⟩
      · have d1 : decide ((i : Int) < (ls.length : Int)) = false := decide_eq_false (by omega)
        have d2 : decide (i < ls.length) = false := decide_eq_false hlt
        obtain ⟨s, q, C, hwf, -⟩ := HST.out
        have HB3 := hid hwf.base
        clear hwf HST
        go_wp2_with fail
        go_at_call 7
        refine (wal_head _).mono ?_
        rintro e w5 ⟨rfl, hb⟩
        have HB4 := hid (HB3.out.trans (hb.mono HB3.out.size))
        clear hb
        go_wp2_with fail
        go_ret
        exact ⟨rfl, HB4.out⟩
end Go.Proofs.Ytnhgakmnkpjpdaa
