/- Chapter 03: DrivePlays. -/
import Derived.Test.YtlafanbilodafaaDK
import Derived.Test.YtlafanbilodafaaDE
import Derived.Deep.RegionHeld3
set_option linter.unusedVariables false
set_option linter.unusedSimpArgs false
namespace Go.Proofs.Ytlafanbilodafaa
open Go Go.RowKit Go.Proofs.Ytlafanbilodafaa.Q Go.Proofs.YtlafanbilodafaaW.PrintWords Go.Proofs.YtlafanbilodafaaW.PrintLast Go.Proofs.YtlafanbilodafaaW.PrintMore
attribute [local go_sem] Oper.semAt_some max2_int min2_int max_two min_two max_three min_three max_four min_four
def xbC (x : S38) : Obj := .cells (c38 x).toArray 38 (0, 0)
/-- Both drives, and the act's own variable. -/
structure PlayX (w0 wr : World) (D : Nat) (q : QV) (s : DS) (XB : Nat) (x : S38) : Prop where
  dr : Dr w0 wr [(D, s)] (XB :: q.fp s)
  rd : Rd w0.heap.size wr q s
  nx : XB ∉ q.fp s
  box : wr.heap[XB]? = some (xbC x)
theorem PlayX.less {w0 wr : World} {D : Nat} {q : QV} {s : DS} {XB : Nat} {x : S38} (h : PlayX w0 wr D q s XB x) : Play w0 wr D q s := ⟨h.dr.less _ (fun k hk => by simp [hk]), h.rd⟩
theorem Play.box {w0 wr w' : World} {D : Nat} {q : QV} {s : DS} {x : S38} (h : Play w0 wr D q s) (ho : Only [] wr w') (hs : w'.heap.size = wr.heap.size + 1) (hb : w'.heap[wr.heap.size]? = some (xbC x)) : PlayX w0 w' D q s wr.heap.size x :=
  ⟨h.dr.grow [] _ ho (by simp) (fun k hk => by rcases List.mem_cons.1 hk with rfl | hk
                                               · exact .inr ⟨Nat.le_refl _, by omega⟩
                                               · exact .inl hk), (h.new ho).rd, fun hk => by have := (h.rd.ob.fp_lt _ hk).2; omega, hb⟩
theorem PlayX.cells {w0 wr : World} {D : Nat} {q : QV} {s : DS} {XB : Nat} {x : S38} (h : PlayX w0 wr D q s XB x) : wr.cell? ⟨XB, 0, none⟩ = some (.int .u8 x.f0) ∧ wr.cell? ⟨XB, 1, none⟩ = some (.int .i64 x.f1) ∧ wr.cell? ⟨XB, 2, none⟩ = some (.string x.f2) ∧
    wr.cell? ⟨XB, 3, none⟩ = some (.int .u64 x.f3.f0) ∧ wr.cell? ⟨XB, 4, none⟩ = some (.int .i64 x.f3.f1) ∧ wr.cell? ⟨XB, 5, none⟩ = some (.int .i64 x.f3.f2) :=
  ⟨(cell_of_row wr _ _ _ _ _ h.box).trans rfl, (cell_of_row wr _ _ _ _ _ h.box).trans rfl, (cell_of_row wr _ _ _ _ _ h.box).trans rfl, (cell_of_row wr _ _ _ _ _ h.box).trans rfl, (cell_of_row wr _ _ _ _ _ h.box).trans rfl, (cell_of_row wr _ _ _ _ _ h.box).trans rfl⟩
theorem PlayX.drew {w0 wr : World} {D : Nat} {q : QV} {s : DS} {XB : Nat} {x : S38} (h : PlayX w0 wr D q s XB x) : PlayX w0 wr.drew D q s XB x :=
  ⟨h.dr.new (Only.drew [] _), ⟨h.rd.ob.new (Only.drew [] _), h.rd.len, h.rd.secN, h.rd.secS, h.rd.wr, h.rd.fuse⟩, h.nx, h.box⟩
/-- The drive has gone on alone. -/
structure Half (w0 wr : World) (D : Nat) (q : QV) (s s' : DS) (XB : Nat) (x : S38) : Prop where
  dr : Dr w0 wr [(D, s')] (XB :: q.fp s)
  rd : Rd w0.heap.size wr q s
  nx : XB ∉ q.fp s
  box : wr.heap[XB]? = some (xbC x)
theorem PlayX.half {w0 w w' : World} {D : Nat} {q : QV} {s s' : DS} {XB : Nat} {x : S38} (h : PlayX w0 w D q s XB x) (hd : Dr w0 w' [(D, s')] (XB :: q.fp s)) (hs : Same (XB :: q.fp s) w w') : Half w0 w' D q s s' XB x :=
  ⟨hd, h.rd.same (fun k hk => hs k (by simp [hk])), h.nx, (hs XB (by simp)).trans h.box⟩
theorem Half.cells {w0 wr : World} {D : Nat} {q : QV} {s s' : DS} {XB : Nat} {x : S38} (h : Half w0 wr D q s s' XB x) : wr.cell? ⟨XB, 0, none⟩ = some (.int .u8 x.f0) ∧ wr.cell? ⟨XB, 1, none⟩ = some (.int .i64 x.f1) ∧ wr.cell? ⟨XB, 2, none⟩ = some (.string x.f2) ∧
    wr.cell? ⟨XB, 3, none⟩ = some (.int .u64 x.f3.f0) ∧ wr.cell? ⟨XB, 4, none⟩ = some (.int .i64 x.f3.f1) ∧ wr.cell? ⟨XB, 5, none⟩ = some (.int .i64 x.f3.f2) :=
  ⟨(cell_of_row wr _ _ _ _ _ h.box).trans rfl, (cell_of_row wr _ _ _ _ _ h.box).trans rfl, (cell_of_row wr _ _ _ _ _ h.box).trans rfl, (cell_of_row wr _ _ _ _ _ h.box).trans rfl, (cell_of_row wr _ _ _ _ _ h.box).trans rfl, (cell_of_row wr _ _ _ _ _ h.box).trans rfl⟩
theorem Half.whole {w0 w w2 : World} {D : Nat} {q : QV} {s s' : DS} {XB : Nat} {x : S38} (h : Half w0 w D q s s' XB x) (hg : RGoes w0.heap.size w w2 q s s') : ∃ q', q'.Q = q.Q ∧ PlayX w0 w2 D q' s' XB x := by
  obtain ⟨q', e, hr, ho, hf⟩ := hg
  have hl : XB < w.heap.size := (Array.getElem?_eq_some_iff.1 h.box).1
  refine ⟨q', e, ⟨h.dr.grow (q.fp s) _ ho (fun k hk => ⟨by simp [hk], (h.rd.ob.fp_lt k hk).1⟩) (fun k hk => ?_), hr, fun hk => ?_, (ho.block XB hl h.nx).trans h.box⟩⟩
  · rcases List.mem_cons.1 hk with rfl | hk
    · exact .inl (by simp)
    · rcases hf k hk with e | e
      · exact .inl (by simp [e])
      · exact .inr ⟨e, (hr.ob.fp_lt k hk).2⟩
  · rcases hf XB hk with e | e
    · exact h.nx e
    · omega
theorem Ob.weaken {base b' : Nat} {w : World} {O ty : Nat} {cs : Array Value} {rows : List RowV} (h : Ob base w O ty cs rows) (hb : b' ≤ base) : Ob b' w O ty cs rows := by
  refine ⟨Nat.le_trans hb h.hO, h.obj, fun r hr => ?_, h.nd⟩
  have hw := h.own r hr
  refine ⟨hw.1, ?_⟩
  rcases hw.2 with h1 | ⟨g, cap, cur, h1, h2, h3⟩
  · exact .inl h1
  · exact .inr ⟨g, cap, cur, h1, Nat.le_trans hb h2, h3⟩
theorem Rd.weaken {base b' : Nat} {w : World} {q : QV} {s : DS} (h : Rd base w q s) (hb : b' ≤ base) : Rd b' w q s := ⟨h.ob.weaken hb, h.len, h.secN, h.secS, h.wr, h.fuse⟩
theorem writeR_opn (s : DS) (n : Int) (t : ByteArray) : (writeR s n t).1.opn.length ≤ s.opn.length + 1 := by
  unfold writeR wrR writeS
  split
  · split
    · split
      · simp
      · simp
    · simp
  · simp
theorem syncR_opn (s : DS) : (syncR s).1.opn.length ≤ s.opn.length := by
  unfold syncR syncS
  split <;> simp
theorem PlayX.half' {w0 w w' : World} {D : Nat} {q : QV} {s : DS} {XB : Nat} {x : S38} (h : PlayX w0 w D q s XB x) (hs : Same (XB :: q.fp s) w w') : Rd w0.heap.size w' q s := h.rd.same (fun k hk => hs k (by simp [hk]))
theorem fuse_max (s : DS) (n : Int) : fzI (fuseS s n).fuse = if n < -1 then -1 else n := by
  unfold fuseS
  by_cases h : 0 ≤ n
  · rw [if_pos h, if_neg (by omega)]; show ((n.toNat : Nat) : Int) = n; omega
  · rw [if_neg h]
    show (-1 : Int) = _
    split <;> omega
set_option maxRecDepth 100000 in
set_option maxHeartbeats 2000000 in
theorem DrivePlays_calls (w : World) (n : Int) (A : Option Addr) (c : Nat) (l : List S38) (hr : Kd.C k38 w A l.length l) (hc : l.length ≤ c) (hl : l.length ≤ maxLen)
    (hok : ∀ x ∈ l, (0 ≤ x.f0 ∧ x.f0 < 256) ∧ x.f1 < 9223372036854775808 ∧ x.f2.size ≤ maxLen ∧ 0 ≤ x.f3.f0 ∧ x.f3.f0 < 18446744073709551616) :
    Calls Try.prog 5 #[.int .i64 n, .slice A l.length c] w fun e w' => e = .returned (.bool true) ∧ Below w.heap.size w w' := by
  have HR := hid hr
  have HOK := hid hok
  unfold maxLen at hl
  clear hr hok
  by_cases h40 : 40 < n
  · have d1 : decide (40 < n) = true := decide_eq_true h40
    by_cases h4 : n ≤ 4096
    · have d2 : decide (n ≤ 4096) = true := decide_eq_true h4
      obtain ⟨m, rfl⟩ : ∃ m : Nat, n = (m : Int) := ⟨n.toNat, by omega⟩
      have HM := hid (show 8 ≤ m ∧ m ≤ 4096 by omega)
      clear h40 h4
      go_enter Try.func5, Try.ntmps5
      go_wp2_with fail
      go_at_call 6
      refine ((Dr.start w).make m HM.out.1 HM.out.2).mono ?_
      rintro e w1 ⟨v, rfl, D, rfl, hd1, -⟩
      unfold ptr
      go_wp2_with fail
      go_at_call 11
      refine (head_calls w1).mono ?_
      rintro e w2 ⟨rfl, hb⟩
      go_wp2_with fail
      go_ret
      exact ⟨rfl, hd1.below.trans (hb.mono hd1.below.size)⟩
    · have d2 : decide (n ≤ 4096) = false := decide_eq_false h4
      have HN := hid (show ¬ (8 ≤ n ∧ n ≤ 4096) by omega)
      clear h40 h4
      go_enter Try.func5, Try.ntmps5
      go_wp2_with fail
      go_at_call 6
      refine (New_no w n HN.out).mono ?_
      rintro e w1 ⟨rfl, rfl⟩
      go_wp2_with fail
      go_at_call 11
      refine (head_calls w1).mono ?_
      rintro e w2 ⟨rfl, hb⟩
      go_wp2_with fail
      go_ret
      exact ⟨rfl, hb⟩
  · have d1 : decide (40 < n) = false := decide_eq_false h40
    by_cases h8 : 8 ≤ n
    · obtain ⟨m, rfl⟩ : ∃ m : Nat, n = (m : Int) := ⟨n.toNat, by omega⟩
      have HM := hid (show 8 ≤ m ∧ m ≤ 4096 by omega)
      clear h40 h8
      go_enter Try.func5, Try.ntmps5
      go_wp2_with fail
      go_at_call 6
      refine ((Dr.start w).make m HM.out.1 HM.out.2).mono ?_
      rintro e w1 ⟨v, rfl, D, rfl, hd1, -⟩
      replace hd1 : Dr w w1 [(D, newS m)] [] := hd1
      unfold ptr
      go_wp2_with fail
      go_at_call 16
      refine (RNew_calls w1 m HM.out.1 HM.out.2).mono ?_
      rintro e w2 ⟨v, rfl, q, rfl, hr2, ho2⟩
      have HP := hid (show Play w w2 D q (newS m) from ⟨hd1.grow [] _ ho2 (by simp) (fun k hk => .inr (hr2.ob.fp_lt k hk)), hr2.weaken hd1.below.size⟩)
      clear hd1 hr2 ho2
      unfold ptr
      go_wp2_with fail
      obtain ⟨Q, hQ⟩ : ∃ Q, Q = q.Q := ⟨_, rfl⟩
      rw [← hQ]
      have HP0 := hid (show ∃ (D' : Nat) (s : DS) (q' : QV), D' = D ∧ q'.Q = Q ∧ Play w w2 D' q' s ∧ s.opn.length ≤ 0 from ⟨D, _, q, rfl, hQ.symm, HP.out, Nat.le_refl 0⟩)
      clear hQ HP
      go_loopw [5, 9] (fun v5 v wr => ∃ (D : Nat) (i : Int) (s : DS) (q : QV), v5 = .pointer (some ⟨D, 0, none⟩) ∧ v = .int .i64 i ∧ Aside0 (q.Q = Q) ∧ Aside0 (0 ≤ i ∧ i ≤ 60) ∧ Aside0 (Play w wr D q s) ∧ Aside0 (s.opn.length ≤ i.toNat)) (fun _ v _ => 60 - (intOf v).toNat)
      case atStart =>
        obtain ⟨D', s, q', e, e2, hp, hl⟩ := HP0.out
        subst e
        exact ⟨_, 0, s, q', rfl, rfl, ⟨e2⟩, ⟨⟨by decide, by decide⟩⟩, ⟨hp⟩, ⟨hl⟩⟩
      case round =>
        clear HP0
        obtain ⟨D, i, s, q, rfl, rfl, HQ, HI, HP, HO⟩ := hrel
        have p0 : 0 ≤ i := HI.out.1
        have p60 : i ≤ 60 := HI.out.2
        by_cases c1 : i < (l.length : Int) ∧ i < 60
        · obtain ⟨ad, rfl, x0, x1, x2, x3, x4, x5⟩ := act_cells HR.out HP.out.dr.below i p0 c1.1
          obtain ⟨X, hX⟩ : ∃ X, X = rd_T38 l i := ⟨_, rfl⟩
          have hXm : X ∈ l := by
            rw [hX]; unfold rd_T38
            rw [List.getD_eq_getElem?_getD, List.getElem?_eq_getElem (by omega)]
            exact List.getElem_mem _
          have hx := HOK.out X hXm
          rw [← hX] at x0 x1 x2 x3 x4 x5
          have d1 : decide (i < (l.length : Int)) = true := decide_eq_true c1.1
          have d2 : decide (i < 60) = true := decide_eq_true c1.2
          have q0 := eq_true p0
          have q1 := eq_true c1.1
          have C1 := hid c1
          have HXX := hid hx
          have hs0 : X.f2.size ≤ 9223372036854775807 := hx.2.2.1
          have HM := hid (show s.opn.length < 1000000 by have := HO.out; omega)
          clear hX hXm c1 hx
          by_cases h2 : X.f2.size ≤ 200
          · have d3 : decide (200 < (X.f2.size : Int)) = false := decide_eq_false (by omega)
            go_upto_region 11 with (fail)
            have hq := HQ.out
            subst hq
            obtain ⟨W1, hW1⟩ : ∃ W1, W1 = wr.alloc (.cells #[.int .u8 X.f0, .int .i64 X.f1, .string X.f2, .int .u64 X.f3.f0, .int .i64 X.f3.f1, .int .i64 X.f3.f2] 38) := ⟨_, rfl⟩
            obtain ⟨XB, hXB⟩ : ∃ XB, XB = wr.heap.size := ⟨_, rfl⟩
            have hpx : PlayX w W1 D q s wr.heap.size X := HP.out.box (by rw [hW1]; exact Only.alloc [] wr _) (by rw [hW1]; simp) (by rw [hW1]; exact heap_alloc_new wr _)
            rw [← hW1, ← hXB]
            rw [← hXB] at hpx
            have PX := hid hpx
            obtain ⟨y0, y1, y2, y3, y4, y5⟩ := hpx.cells
            clear hW1 hXB hpx x0 x1 x2 x3 x4 x5 HP h2
            have hm5 : X.f0 % 5 = 0 ∨ X.f0 % 5 = 1 ∨ X.f0 % 5 = 2 ∨ X.f0 % 5 = 3 ∨ X.f0 % 5 = 4 := by omega
            have hx0 : 0 ≤ X.f0 := HXX.out.1.1
            rcases hm5 with hm | hm | hm | hm | hm
            · go_upto_region 15 with (fail)
              go_region_held3 (fun W => W.cell? ⟨XB, 1, none⟩ = some (.int .i64 X.f1) ∧ W.cell? ⟨XB, 2, none⟩ = some (.string X.f2)) (first | exact ⟨y1, y2⟩ | exact ⟨z1, z2⟩ | exact ⟨u1, u2⟩)
                (first | (go_at_call 9; refine ((PX.out.drew).dr.write (i := 0) rfl HM.out X.f1 X.f2).mono ?_; rintro e w3 ⟨rfl, hd3, sm⟩; have HF := hid (PX.out.drew.half hd3 sm); clear hd3 sm; obtain ⟨-, z1, z2, -, -, -⟩ := HF.out.cells) | (go_at_call 17; refine (RWrite HF.out.rd HM.out X.f1 X.f2 HXX.out.2.2.1).mono ?_; rintro e w4 ⟨rfl, hg⟩; obtain ⟨q', EQ, hp4⟩ := HF.out.whole hg; have PX4 := hid hp4; clear hg hp4; obtain ⟨-, u1, u2, -, -, -⟩ := PX4.out.cells))
              have HOP := hid (show (writeR s X.f1 X.f2).1.opn.length ≤ i.toNat + 1 by have := HO.out; have := writeR_opn s X.f1 X.f2; omega)
              have PP := hid PX4.out.less
              go_wp2_with fail
              rw [← EQ]
              go_at_call 20
              refine (same_calls PP.out).mono ?_
              rintro e w9 ⟨rfl, nq, rfl⟩
              rw [EQ]
              go_wp2_with fail
              go_roundw
              case rel => exact ⟨_, i + 1, _, _, rfl, by go_num, ⟨EQ⟩, ⟨⟨by omega, by have := C1.out; omega⟩⟩, ⟨PP.out.drawn nq⟩, ⟨by rw [show (i + 1).toNat = i.toNat + 1 by omega]; exact HOP.out⟩⟩
              case measure => simp [intOf]; have := C1.out; omega
            · have e0 : (X.f0 % 5 == 0) = false := by rw [hm]; rfl
              have e1 : (X.f0 % 5 == 1) = true := by rw [hm]; rfl
              go_upto_region 18 with (fail)
              go_wp2_with fail
              go_at_call 8
              refine (PX.out.dr.sync (i := 0) rfl).mono ?_
              rintro e w3 ⟨rfl, hd3, sm⟩
              have HF := hid (PX.out.half hd3 sm)
              clear hd3 sm
              go_wp2_with fail
              go_at_call 18
              refine (RSync HF.out.rd).mono ?_
              rintro e w4 ⟨rfl, hg⟩
              obtain ⟨q', EQ, hp4⟩ := HF.out.whole hg
              have PP := hid hp4.less
              clear hg hp4
              have HOP := hid (show (syncR s).1.opn.length ≤ i.toNat + 1 by have := HO.out; have := syncR_opn s; omega)
              go_wp2_with fail
              rw [← EQ]
              go_at_call 20
              refine (same_calls PP.out).mono ?_
              rintro e w9 ⟨rfl, nq, rfl⟩
              rw [EQ]
              go_wp2_with fail
              go_roundw
              case rel => exact ⟨_, i + 1, _, _, rfl, by go_num, ⟨EQ⟩, ⟨⟨by omega, by have := C1.out; omega⟩⟩, ⟨PP.out.drawn nq⟩, ⟨by rw [show (i + 1).toNat = i.toNat + 1 by omega]; exact HOP.out⟩⟩
              case measure => simp [intOf]; have := C1.out; omega
            · have e0 : (X.f0 % 5 == 0) = false := by rw [hm]; rfl
              have e1 : (X.f0 % 5 == 1) = false := by rw [hm]; rfl
              have e2 : (X.f0 % 5 == 2) = true := by rw [hm]; rfl
              go_upto_region 21 with (fail)
              go_wp2_with fail
              go_at_call 10
              refine (PX.out.dr.crash (i := 0) rfl HM.out X.f3.f0 X.f3.f1 X.f3.f2 HXX.out.2.2.2).mono ?_
              rintro e w3 ⟨rfl, hd3, sm⟩
              have HF := hid (PX.out.half hd3 sm)
              obtain ⟨-, -, -, z3, z4, z5⟩ := HF.out.cells
              clear hd3 sm y0 y1 y2 y3 y4 y5
              go_wp2_with fail
              go_at_call 19
              refine (RCrash HF.out.rd HM.out X.f3.f0 X.f3.f1 X.f3.f2 HXX.out.2.2.2).mono ?_
              rintro e w4 ⟨rfl, hg⟩
              obtain ⟨q', EQ, hp4⟩ := HF.out.whole hg
              have PP := hid hp4.less
              clear hg hp4
              have HOP := hid (show (crashS s X.f3.f0 X.f3.f1 X.f3.f2).opn.length ≤ i.toNat + 1 from Nat.zero_le _)
              go_wp2_with fail
              rw [← EQ]
              go_at_call 20
              refine (same_calls PP.out).mono ?_
              rintro e w9 ⟨rfl, nq, rfl⟩
              rw [EQ]
              go_wp2_with fail
              go_roundw
              case rel => exact ⟨_, i + 1, _, _, rfl, by go_num, ⟨EQ⟩, ⟨⟨by omega, by have := C1.out; omega⟩⟩, ⟨PP.out.drawn nq⟩, ⟨by rw [show (i + 1).toNat = i.toNat + 1 by omega]; exact HOP.out⟩⟩
              case measure => simp [intOf]; have := C1.out; omega
            · have e0 : (X.f0 % 5 == 0) = false := by rw [hm]; rfl
              have e1 : (X.f0 % 5 == 1) = false := by rw [hm]; rfl
              have e2 : (X.f0 % 5 == 2) = false := by rw [hm]; rfl
              have e3 : (X.f0 % 5 == 3) = true := by rw [hm]; rfl
              go_upto_region 24 with (fail)
              go_wp2_with fail
              go_at_call 7
              refine (PX.out.dr.fuse (i := 0) rfl X.f1 HXX.out.2.1).mono ?_
              rintro e w3 ⟨rfl, hd3, sm⟩
              have HF := hid (PX.out.half hd3 sm)
              obtain ⟨-, z1, -, -, -, -⟩ := HF.out.cells
              obtain ⟨-, -, -, -, g4, gf⟩ := HF.out.rd.cells
              have gf4 := gf 4
              clear hd3 sm y0 y1 y2 y3 y4 y5 gf
              have hfz := HF.out.rd.fused (fuseS s X.f1).fuse (fun j hj => by
                have := HXX.out.2.1
                unfold fuseS at hj
                simp only at hj
                split at hj
                · injection hj; omega
                · cases hj)
              rw [fuse_max] at hfz
              obtain ⟨q', EQ, hp4⟩ := HF.out.whole hfz
              have PP := hid hp4.less
              clear hfz hp4
              have HOP := hid (show (fuseS s X.f1).opn.length ≤ i.toNat + 1 by have := HO.out; show s.opn.length ≤ _; omega)
              by_cases cm : X.f1 < -1
              · rw [if_pos cm, ← EQ] at PP
                go_wp2_with fail
                rw [← EQ]
                go_at_call 20
                refine (same_calls PP.out).mono ?_
                rintro e w9 ⟨rfl, nq, rfl⟩
                rw [EQ]
                go_wp2_with fail
                go_roundw
                case rel => exact ⟨_, i + 1, _, _, rfl, by go_num, ⟨EQ⟩, ⟨⟨by omega, by have := C1.out; omega⟩⟩, ⟨by rw [EQ] at PP; exact PP.out.drawn nq⟩, ⟨by rw [show (i + 1).toNat = i.toNat + 1 by omega]; exact HOP.out⟩⟩
                case measure => simp [intOf]; have := C1.out; omega
              · rw [if_neg cm, ← EQ] at PP
                go_wp2_with fail
                rw [← EQ]
                go_at_call 20
                refine (same_calls PP.out).mono ?_
                rintro e w9 ⟨rfl, nq, rfl⟩
                rw [EQ]
                go_wp2_with fail
                go_roundw
                case rel => exact ⟨_, i + 1, _, _, rfl, by go_num, ⟨EQ⟩, ⟨⟨by omega, by have := C1.out; omega⟩⟩, ⟨by rw [EQ] at PP; exact PP.out.drawn nq⟩, ⟨by rw [show (i + 1).toNat = i.toNat + 1 by omega]; exact HOP.out⟩⟩
                case measure => simp [intOf]; have := C1.out; omega
            · have e0 : (X.f0 % 5 == 0) = false := by rw [hm]; rfl
              have e1 : (X.f0 % 5 == 1) = false := by rw [hm]; rfl
              have e2 : (X.f0 % 5 == 2) = false := by rw [hm]; rfl
              have e3 : (X.f0 % 5 == 3) = false := by rw [hm]; rfl
              have e4 : (X.f0 % 5 == 4) = true := by rw [hm]; rfl
              go_upto_region 27 with (fail)
              go_wp2_with fail
              go_at_call 13
              refine (PX.out.dr.copy (i := 0) rfl HM.out).mono ?_
              rintro e w3 ⟨v, rfl, D2, rfl, hd3, sm⟩
              have PP := hid (show Play w w3 D2 q s from ⟨(hd3.tail (p := (D, s)) (l := [(D2, s)])).less _ (fun k hk => by simp [hk]), (PX.out.half' sm)⟩)
              clear hd3 sm
              have HOP := hid (show s.opn.length ≤ i.toNat + 1 by have := HO.out; omega)
              unfold ptr
              go_wp2_with fail
              go_at_call 20
              refine (same_calls PP.out).mono ?_
              rintro e w9 ⟨rfl, nq, rfl⟩
              go_wp2_with fail
              go_roundw
              case rel => exact ⟨_, i + 1, _, _, rfl, by go_num, ⟨rfl⟩, ⟨⟨by omega, by have := C1.out; omega⟩⟩, ⟨PP.out.drawn nq⟩, ⟨by rw [show (i + 1).toNat = i.toNat + 1 by omega]; exact HOP.out⟩⟩
              case measure => simp [intOf]; have := C1.out; omega
          · have d3 : decide (200 < (X.f2.size : Int)) = true := decide_eq_true (by omega)
            have PW := hid (HP.out.new (Only.alloc [] wr (.cells #[.int .u8 X.f0, .int .i64 X.f1, .string X.f2, .int .u64 X.f3.f0, .int .i64 X.f3.f1, .int .i64 X.f3.f2] 38)))
            clear h2
            go_wp2_with (go_at_call 11; refine (head_calls _).mono ?_; rintro e w6 ⟨rfl, hb6⟩; have H6 := hid hb6; clear hb6)
            go_ret
            exact ⟨rfl, PW.out.dr.below.trans (H6.out.mono PW.out.dr.below.size)⟩
        · have hq := HQ.out
          subst hq
          obtain ⟨k0, -, -, -, -, -⟩ := HP.out.rd.cells
          have hlen := HP.out.rd.len
          have hrp := HP.out.rd.rp
          obtain ⟨gN, cN, hv⟩ := hrp.formN (by rw [strC_len]; omega)
          rw [strC_len] at hv
          rw [hv] at k0
          have HE := hid (show hasE s.now.length (s.now.length : Int) = 2 by unfold hasE; rw [if_neg (by omega)])
          clear hrp hv hlen
          by_cases c2 : i < (l.length : Int)
          · have d1 : decide (i < (l.length : Int)) = true := decide_eq_true c2
            have d2 : decide (i < 60) = false := decide_eq_false (by omega)
            clear c1 c2
            go_wp2_with fail
            go_at_call 14
            refine (HP.out.dr.read (i := 0) rfl (s.now.length : Int)).mono ?_
            rintro e w3 ⟨rfl, rfl⟩
            rw [HE.out]
            go_wp2_with fail
            go_at_call 11
            refine (head_calls w3).mono ?_
            rintro e w6 ⟨rfl, hb6⟩
            go_wp2_with fail
            go_ret
            exact ⟨rfl, HP.out.dr.below.trans (hb6.mono HP.out.dr.below.size)⟩
          · have d1 : decide (i < (l.length : Int)) = false := decide_eq_false c2
            clear c1 c2
            go_wp2_with fail
            go_at_call 14
            refine (HP.out.dr.read (i := 0) rfl (s.now.length : Int)).mono ?_
            rintro e w3 ⟨rfl, rfl⟩
            rw [HE.out]
            go_wp2_with fail
            go_at_call 11
            refine (head_calls w3).mono ?_
            rintro e w6 ⟨rfl, hb6⟩
            go_wp2_with fail
            go_ret
            exact ⟨rfl, HP.out.dr.below.trans (hb6.mono HP.out.dr.below.size)⟩
    · have HN := hid (show ¬ (8 ≤ n ∧ n ≤ 4096) by omega)
      clear h40 h8
      go_enter Try.func5, Try.ntmps5
      go_wp2_with fail
      go_at_call 6
      refine (New_no w n HN.out).mono ?_
      rintro e w1 ⟨rfl, rfl⟩
      go_wp2_with fail
      go_at_call 16
      refine (RNew_no w1 n HN.out).mono ?_
      rintro e w2 ⟨rfl, rfl⟩
      go_wp2_with fail
      go_at_call 11
      refine (head_calls w2).mono ?_
      rintro e w3 ⟨rfl, hb⟩
      go_wp2_with fail
      go_ret
      exact ⟨rfl, hb⟩
end Go.Proofs.Ytlafanbilodafaa
