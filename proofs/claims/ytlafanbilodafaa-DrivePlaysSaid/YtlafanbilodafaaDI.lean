/- Chapter 03: the document's Crash. -/
import Derived.Test.YtlafanbilodafaaDH
import Derived.Outline
set_option linter.unusedVariables false
set_option linter.unusedSimpArgs false
namespace Go.Proofs.Ytlafanbilodafaa
open Go Go.RowKit Go.Proofs.YtlafanbilodafaaW.PrintWords Go.Proofs.YtlafanbilodafaaW.PrintLast Go.Proofs.YtlafanbilodafaaW.PrintMore
attribute [local go_sem] Oper.semAt_some max2_int min2_int max_two min_two max_three min_three max_four min_four
theorem Rp.readA {base : Nat} {fp0 : List Nat} {w W : World} {q : QV} {nw su at_ op : List Value} {fz : Int} (h : Rp base fp0 w W q nw su at_ op fz) {g cap : Nat} (hv : q.vA = .slice (some ⟨g, 0, none⟩) at_.length cap) {i : Nat} (hi : i < at_.length) :
    ∃ v, at_[i]? = some v ∧ W.cell? ⟨g, i, none⟩ = some v := by
  have ho := h.ownA
  rw [hv] at ho
  refine ⟨_, List.getElem?_eq_getElem hi, ?_⟩
  rw [World.ownsRow.cellAt ho i (by omega), List.getElem?_eq_getElem hi]
theorem Rp.readO {base : Nat} {fp0 : List Nat} {w W : World} {q : QV} {nw su at_ op : List Value} {fz : Int} (h : Rp base fp0 w W q nw su at_ op fz) {g cap : Nat} (hv : q.vO = .slice (some ⟨g, 0, none⟩) op.length cap) {i : Nat} (hi : i < op.length) :
    ∃ v, op[i]? = some v ∧ W.cell? ⟨g, i, none⟩ = some v := by
  have ho := h.ownO
  rw [hv] at ho
  refine ⟨_, List.getElem?_eq_getElem hi, ?_⟩
  rw [World.ownsRow.cellAt ho i (by omega), List.getElem?_eq_getElem hi]
theorem tornL_zero (sure : List (List UInt8)) (x : Nat × List UInt8) : tornL sure x 0 = sure := by
  unfold tornL
  rw [List.take_zero, List.drop_zero, List.nil_append]
  apply List.ext_getElem?
  intro j
  rw [List.getElem?_set]
  by_cases h : x.1 = j
  · subst h
    rw [if_pos rfl]
    by_cases hl : x.1 < sure.length
    · rw [if_pos hl, List.getD_eq_getElem?_getD, List.getElem?_eq_getElem hl]; rfl
    · rw [if_neg hl, List.getElem?_eq_none (by omega)]
  · rw [if_neg h]
theorem sureAt_zero (keep torn at_ : Int) (sure : List (List UInt8)) (opn : List (Nat × List UInt8)) (K : Nat) (h : toOf keep torn at_ K = 0) : sureAt keep torn at_ sure opn (K + 1) = sureAt keep torn at_ sure opn K := by
  rw [sureAt, h, tornL_zero]
theorem kept_rem (keep : Int) (hk : 0 ≤ keep ∧ keep < 18446744073709551616) (K : Nat) : (keep / 2 ^ (K % 64) % 2 == 1) = keptB keep K := by
  obtain ⟨m, rfl⟩ : ∃ m : Nat, keep = (m : Int) := ⟨keep.toNat, by omega⟩
  have e : ((m : Int) / 2 ^ (K % 64)) = ((m / 2 ^ (K % 64) : Nat) : Int) := by rw [Int.natCast_ediv, Int.natCast_pow]; rfl
  rw [e]
  unfold keptB
  rw [Int.toNat_natCast]
  by_cases h : m / 2 ^ (K % 64) % 2 = 1
  · have h2 : ((m / 2 ^ (K % 64) : Nat) : Int) % 2 = 1 := by omega
    rw [h, h2]; rfl
  · have h0 : m / 2 ^ (K % 64) % 2 = 0 := by omega
    have h2 : ((m / 2 ^ (K % 64) : Nat) : Int) % 2 = 0 := by omega
    rw [h0, h2]; rfl
theorem kept_tmod (keep : Int) (hk : 0 ≤ keep ∧ keep < 18446744073709551616) (K : Nat) : ((keep / 2 ^ (K % 64)).tmod 2 == 1) = keptB keep K := by
  rw [Int.tmod_eq_emod_of_nonneg (Int.ediv_nonneg hk.1 (by exact_mod_cast Nat.zero_le _)), kept_rem keep hk]
/-- Behind K open writes. -/
structure RCr (base : Nat) (w W : World) (q : QV) (s : DS) (keep torn at_ : Int) (b K : Nat) : Prop where
  rp : Rp base (q.fp s) w W q (strC s.now) (strC (sureAt keep torn at_ s.sure s.opn K)) (atC s.opn) (opC s.opn) (fzI s.fuse)
  box : W.heap[b]? = some (.cells #[.int .u64 keep, .int .i64 torn, .int .i64 at_] 33 (0, 0))
theorem RCr.next {base : Nat} {w W : World} {q : QV} {s : DS} {keep torn at_ : Int} {b K : Nat} (h : RCr base w W q s keep torn at_ b K) (hz : toOf keep torn at_ K = 0) : RCr base w W q s keep torn at_ b (K + 1) :=
  ⟨by rw [sureAt_zero _ _ _ _ _ _ hz]; exact h.rp, h.box⟩
theorem RCr.store {base : Nat} {w W : World} {q : QV} {s : DS} {keep torn at_ : Int} {b K n : Nat} {L : List UInt8} (h : RCr base w W q s keep torn at_ b K) (hx : (n, L) = s.opn.getD K (0, [])) {tt : Nat} (ht : toOf keep torn at_ K = tt) {g cap : Nat} (hv : q.vS = .slice (some ⟨g, 0, none⟩) s.sure.length cap) (hb : b ≠ g)
    {u : ByteArray} (hu : u = B (L.take tt ++ ((sureAt keep torn at_ s.sure s.opn K).getD n []).drop tt)) : RCr base w (W.drew.setCell ⟨g, n, none⟩ (.string u)) q s keep torn at_ b (K + 1) := by
  have e : strC (sureAt keep torn at_ s.sure s.opn (K + 1)) = (strC (sureAt keep torn at_ s.sure s.opn K)).set n (.string u) := by
    rw [sureAt, ← hx, ht, hu]
    unfold strC tornL
    rw [List.map_set]
  refine ⟨by rw [e]; exact h.rp.drew.setS (by rw [strC_len, sureAt_len]; exact hv) n (.string u), ?_⟩
  rw [heap_setCell_other _ _ _ _ hb]
  exact h.box
theorem torn_str (L M : List UInt8) (tt : Nat) (h1 : tt ≤ L.length) : (B L).extract 0 tt ++ (B M).extract tt M.length = B (L.take tt ++ M.drop tt) := by
  rw [B_extract, B_extract, B_append]
  congr 2
  rw [List.take_of_length_le (by rw [List.length_drop]; omega)]
theorem crash_len' (s : DS) (a b c : Int) : (crashS s a b c).now.length = s.sure.length := sureAt_len ..
theorem Rd.crashd {base : Nat} {w W : World} {q q' : QV} {s : DS} {keep torn at_ : Int} (h : Rd base w q s) (hp : Rp base (q.fp s) w W q' (strC (crashS s keep torn at_).now) (strC (crashS s keep torn at_).now) [] [] (-1)) (hq : q'.Q = q.Q) : RGoes base w W q s (crashS s keep torn at_) := by
  have hw : ∀ x ∈ s.opn, x.1 < s.sure.length ∧ x.2.length = 64 := fun x hx => by rw [h.len.1]; exact h.wr x hx
  have h64 : ∀ x ∈ (crashS s keep torn at_).now, x.length = 64 := sureAt_64 h.secS hw _ (Nat.le_refl _)
  have hl : (crashS s keep torn at_).now.length = s.now.length := ((crash_len' s keep torn at_)).trans h.len.1
  exact Rp.goes (s' := crashS s keep torn at_) hp hq ⟨rfl, by rw [hl]; exact h.len.2⟩ h64 h64 (fun x hx => by cases hx) (fun k hk => by cases hk)
set_option maxRecDepth 100000 in
set_option maxHeartbeats 8000000 in
theorem RCrash {base : Nat} {w : World} {q : QV} {s : DS} (h : Rd base w q s) (hm : s.opn.length < 1000000) (keep torn at_ : Int) (hk : 0 ≤ keep ∧ keep < 18446744073709551616) :
    Calls Try.prog 19 #[ptr q.Q, .agg #[.int .u64 keep, .int .i64 torn, .int .i64 at_]] w fun e w' => e = .returned (.tuple #[]) ∧ RGoes base w w' q s (crashS s keep torn at_) := by
  have HD := hid h
  have HM := hid hm
  have HK := hid hk
  obtain ⟨qQ, vN, vS, vA, vO⟩ := q
  have hrp := h.rp
  have hlen := h.len
  obtain ⟨gS, cS, rfl⟩ : ∃ g cap, vS = .slice (some ⟨g, 0, none⟩) s.sure.length cap := by
    obtain ⟨g, c, e⟩ := hrp.formS (by rw [strC_len]; omega)
    exact ⟨g, c, by rw [strC_len] at e; exact e⟩
  obtain ⟨gN, cN, rfl⟩ : ∃ g cap, vN = .slice (some ⟨g, 0, none⟩) s.now.length cap := by
    obtain ⟨g, c, e⟩ := hrp.formN (by rw [strC_len]; omega)
    exact ⟨g, c, by rw [strC_len] at e; exact e⟩
  obtain ⟨AO, cO, rfl⟩ : ∃ A c, vO = .slice A s.opn.length c := by
    obtain ⟨A, c, e⟩ := own_cases hrp.ownO
    exact ⟨A, c, by rw [opC_len] at e; exact e⟩
  obtain ⟨AA, cA, rfl⟩ : ∃ A c, vA = .slice A s.opn.length c := by
    obtain ⟨A, c, e⟩ := own_cases hrp.ownA
    exact ⟨A, c, by rw [atC_len] at e; exact e⟩
  have HBX := hid (show RCr base w (w.alloc (.cells #[.int .u64 keep, .int .i64 torn, .int .i64 at_] 33)) ⟨qQ, .slice (some ⟨gN, 0, none⟩) s.now.length cN, .slice (some ⟨gS, 0, none⟩) s.sure.length cS, .slice AA s.opn.length cA, .slice AO s.opn.length cO⟩ s keep torn at_ w.heap.size 0 from ⟨hrp.newW (Only.alloc [] w _), heap_alloc_new w _⟩)
  have HBG := hid (show w.heap.size ≠ gS from fun e => by
    have := (h.ob.fp_lt gS (by simp [obFp, QV.rS, QV.rN, QV.rA, QV.rO, RowV.fp, Value.ownBlock])).2
    omega)
  have HLEN := hid hlen
  clear h hm hk hrp hlen
  unfold ptr
  go_enter Try.func19, Try.ntmps19
  go_wp2_with fail
  go_loopw [4] (fun v wr => ∃ K : Int, v = .int .i64 K ∧ Aside0 (0 ≤ K ∧ K ≤ (s.opn.length : Int)) ∧ Aside0 (RCr base w wr ⟨qQ, .slice (some ⟨gN, 0, none⟩) s.now.length cN, .slice (some ⟨gS, 0, none⟩) s.sure.length cS, .slice AA s.opn.length cA, .slice AO s.opn.length cO⟩ s keep torn at_ w.heap.size K.toNat)) (fun v _ => s.opn.length - (intOf v).toNat)
  case atStart => exact ⟨0, rfl, ⟨⟨by decide, by omega⟩⟩, ⟨HBX.out⟩⟩
  case round =>
    obtain ⟨Ki, rfl, HI, HC⟩ := hrel
    clear HBX
    obtain ⟨k0, k1, k2, k3, -, -⟩ := HC.out.rp.cells
    replace k0 : wr.cell? ⟨qQ, 0, none⟩ = some (.slice (some ⟨gN, 0, none⟩) s.now.length cN) := k0
    replace k1 : wr.cell? ⟨qQ, 1, none⟩ = some (.slice (some ⟨gS, 0, none⟩) s.sure.length cS) := k1
    replace k2 : wr.cell? ⟨qQ, 2, none⟩ = some (.slice AA s.opn.length cA) := k2
    replace k3 : wr.cell? ⟨qQ, 3, none⟩ = some (.slice AO s.opn.length cO) := k3
    have kb0 : wr.cell? ⟨w.heap.size, 0, none⟩ = some (.int .u64 keep) := (cell_of_row wr _ _ _ _ _ HC.out.box).trans rfl
    have kb1 : wr.cell? ⟨w.heap.size, 1, none⟩ = some (.int .i64 torn) := (cell_of_row wr _ _ _ _ _ HC.out.box).trans rfl
    have kb2 : wr.cell? ⟨w.heap.size, 2, none⟩ = some (.int .i64 at_) := (cell_of_row wr _ _ _ _ _ HC.out.box).trans rfl
    by_cases hi : Ki < (s.opn.length : Int)
    · have p0 : 0 ≤ Ki := HI.out.1
      obtain ⟨K, rfl⟩ : ∃ K : Nat, Ki = (K : Int) := ⟨Ki.toNat, by omega⟩
      rw [Int.toNat_natCast] at HC
      have hKl : K < s.opn.length := by omega
      have hkb : (K : Int) ≤ 1000000 := by have := HM.out; omega
      have d1 : decide ((K : Int) < (s.opn.length : Int)) = true := decide_eq_true hi
      have d2 : decide (K < s.opn.length) = true := decide_eq_true hKl
      obtain ⟨x, hx⟩ : ∃ x, x = s.opn.getD K (0, []) := ⟨_, rfl⟩
      have hxw : x.1 < s.now.length ∧ x.2.length = 64 := HD.out.wr x (by rw [hx]; exact getD_mem hKl)
      have hxe : s.opn[K]? = some x := by rw [hx, List.getD_eq_getElem?_getD, List.getElem?_eq_getElem hKl]; rfl
      have HX := hid hx
      have HXW := hid hxw
      obtain ⟨n, L⟩ := x
      obtain ⟨gA, rfl⟩ : ∃ g, AA = some ⟨g, 0, none⟩ := by
        obtain ⟨g, c, e, -⟩ := HC.out.rp.ownA.form (by rw [atC_len]; omega)
        injection e with e1
        exact ⟨g, e1⟩
      obtain ⟨gO, rfl⟩ : ∃ g, AO = some ⟨g, 0, none⟩ := by
        obtain ⟨g, c, e, -⟩ := HC.out.rp.ownO.form (by rw [opC_len]; omega)
        injection e with e1
        exact ⟨g, e1⟩
      obtain ⟨va, ha, y1⟩ := HC.out.rp.readA (g := gA) (cap := cA) (by show Value.slice _ s.opn.length cA = .slice _ (atC s.opn).length cA; rw [atC_len]) (i := K) (by rw [atC_len]; omega)
      obtain ⟨vo, ho, y2⟩ := HC.out.rp.readO (g := gO) (cap := cO) (by show Value.slice _ s.opn.length cO = .slice _ (opC s.opn).length cO; rw [opC_len]) (i := K) (by rw [opC_len]; omega)
      have ea : va = .int .i64 (n : Int) := by unfold atC at ha; rw [List.getElem?_map, hxe] at ha; exact (Option.some.inj ha).symm
      have eo : vo = .string (B L) := by unfold opC at ho; rw [List.getElem?_map, hxe] at ho; exact (Option.some.inj ho).symm
      subst ea
      subst eo
      have hns : n < (sureAt keep torn at_ s.sure s.opn K).length := by rw [sureAt_len, HLEN.out.1]; exact hxw.1
      obtain ⟨vs, hs, y3, y4⟩ := HC.out.rp.readS (g := gS) (cap := cS) (by show Value.slice _ s.sure.length cS = .slice _ (strC _).length cS; rw [strC_len, sureAt_len]) (i := n) (by rw [strC_len]; exact hns)
      obtain ⟨M, hM⟩ : ∃ M, M = (sureAt keep torn at_ s.sure s.opn K).getD n [] := ⟨_, rfl⟩
      have es : vs = .string (B M) := by
        unfold strC at hs
        rw [List.getElem?_map, List.getElem?_eq_getElem hns] at hs
        rw [hM, List.getD_eq_getElem?_getD, List.getElem?_eq_getElem hns]
        exact (Option.some.inj hs).symm
      subst es
      have HML := hid (show M.length = 64 by
        rw [hM]
        exact getD_64 (sureAt_64 (s := s) HD.out.secS (fun x hx => by rw [HLEN.out.1]; exact HD.out.wr x hx) K (by omega)) hns)
      have HMM := hid hM
      have r1 : (0 ≤ (K : Int)) = True := eq_true (by omega)
      have r2 : ((K : Int) < (s.opn.length : Int)) = True := eq_true (by omega)
      have r3 : (0 ≤ (n : Int)) = True := eq_true (by omega)
      have r4 : ((n : Int) < (s.sure.length : Int)) = True := eq_true (by rw [HLEN.out.1]; omega)
      obtain ⟨SL, hSL⟩ : ∃ SL, SL = B L := ⟨_, rfl⟩
      obtain ⟨SM, hSM⟩ : ∃ SM, SM = B M := ⟨_, rfl⟩
      rw [← hSL] at y2
      rw [← hSM] at y3
      have HSL := hid hSL
      have HSM := hid hSM
      have HKL := hid hKl
      clear hSL hSM hx hxw hxe ha ho hs hM hns hi hKl
      by_cases ht : (K : Int) = torn
      · have c1 : ((K : Int) == torn) = true := by rw [beq_iff_eq]; exact ht
        by_cases a1 : 64 < at_
        · have HTT := hid (show toOf keep torn at_ K = 64 by unfold toOf; rw [if_pos ht]; omega)
          clear ht
          go_upto_region 12 with (fail)
          obtain ⟨tt, htt⟩ : ∃ tt : Nat, 64 = tt := ⟨64, rfl⟩
          rw [show (64 : Int) = (tt : Int) by omega]
          have HTL := hid (show (tt : Int) ≤ 64 by omega)
          have m1 : 0 ≤ (tt : Int) := by omega
          have m2 : (tt : Int) ≤ 64 := by omega
          rw [htt] at HTT
          clear htt
          have b1 : (tt : Int) ≤ (SL.size : Int) := by rw [HSL.out, B_size, HXW.out.2]; exact HTL.out
          have b2 : (tt : Int) ≤ (SM.size : Int) := by rw [HSM.out, B_size, HML.out]; exact HTL.out
          have b3 : SL.size ≤ 1000000 := by rw [HSL.out, B_size, HXW.out.2]; decide
          have b4 : SM.size ≤ 1000000 := by rw [HSM.out, B_size, HML.out]; decide
          have HTS := hid (show SL.extract 0 tt ++ SM.extract tt SM.size = B (L.take tt ++ M.drop tt) by
            have hts := torn_str L M tt (by rw [HXW.out.2]; have := HTL.out; omega)
            rw [HSL.out, HSM.out, B_size M]; exact hts)
          have HST := hid (HC.out.store HX.out HTT.out rfl HBG.out (HTS.out.trans (by rw [HMM.out])))
          go_wp2_with fail
          have b5 : (9223372036854775807 < SM.size) = False := eq_false (by omega)
          have b6 : (9223372036854775807 < tt + (SM.size - tt)) = False := eq_false (by omega)
          have b7 : tt ≤ SL.size := by omega
          clear kb0 kb1 kb2 k0 d1 d2 c1
          go_still_tail 37, (by kernel_rfl)
          change wpList _ _ _ _ _ wr.drew
          go_wp2_with fail
          go_roundw
          case rel => exact ⟨((K + 1 : Nat) : Int), by go_num, ⟨⟨by omega, by have := HKL.out; omega⟩⟩, ⟨by rw [Int.toNat_natCast]; exact HST.out⟩⟩
          case measure => simp [intOf]; have := HKL.out; omega
        · by_cases a2 : 0 < at_
          · obtain ⟨tt, rfl⟩ : ∃ tt : Nat, at_ = (tt : Int) := ⟨at_.toNat, by omega⟩
            have HTT := hid (show toOf keep torn (tt : Int) K = tt by unfold toOf; rw [if_pos ht]; omega)
            have HTL := hid (show (tt : Int) ≤ 64 by omega)
            have m1 : 0 ≤ (tt : Int) := by omega
            have m2 : (tt : Int) ≤ 64 := by omega
            clear ht
            have b1 : (tt : Int) ≤ (SL.size : Int) := by rw [HSL.out, B_size, HXW.out.2]; exact HTL.out
            have b2 : (tt : Int) ≤ (SM.size : Int) := by rw [HSM.out, B_size, HML.out]; exact HTL.out
            have b3 : SL.size ≤ 1000000 := by rw [HSL.out, B_size, HXW.out.2]; decide
            have b4 : SM.size ≤ 1000000 := by rw [HSM.out, B_size, HML.out]; decide
            have HTS := hid (show SL.extract 0 tt ++ SM.extract tt SM.size = B (L.take tt ++ M.drop tt) by
              have hts := torn_str L M tt (by rw [HXW.out.2]; have := HTL.out; omega)
              rw [HSL.out, HSM.out, B_size M]; exact hts)
            have HST := hid (HC.out.store HX.out HTT.out rfl HBG.out (HTS.out.trans (by rw [HMM.out])))
            go_wp2_with fail
            have b5 : (9223372036854775807 < SM.size) = False := eq_false (by omega)
            have b6 : (9223372036854775807 < tt + (SM.size - tt)) = False := eq_false (by omega)
            have b7 : tt ≤ SL.size := by omega
            clear kb0 kb1 kb2 k0 d1 d2 c1
            go_still_tail 37, (by kernel_rfl)
            change wpList _ _ _ _ _ wr.drew
            go_wp2_with fail
            go_roundw
            case rel => exact ⟨((K + 1 : Nat) : Int), by go_num, ⟨⟨by omega, by have := HKL.out; omega⟩⟩, ⟨by rw [Int.toNat_natCast]; exact HST.out⟩⟩
            case measure => simp [intOf]; have := HKL.out; omega
          · have HZ := hid (HC.out.next (show toOf keep torn at_ K = 0 by unfold toOf; rw [if_pos ht]; omega))
            clear ht
            go_wp2_with fail
            go_roundw
            case rel => exact ⟨((K + 1 : Nat) : Int), by go_num, ⟨⟨by omega, by have := HKL.out; omega⟩⟩, ⟨by rw [Int.toNat_natCast]; exact HZ.out⟩⟩
            case measure => simp [intOf]; have := HKL.out; omega
      · have c1 : ((K : Int) == torn) = false := by rw [beq_eq_false_iff_ne]; exact ht
        by_cases hb : keptB keep K = true
        · have c2 : ((keep / 2 ^ (K % 64)).tmod 2 == 1) = true := by rw [kept_tmod keep HK.out, hb]
          have HTT := hid (show toOf keep torn at_ K = 64 by unfold toOf; rw [if_neg ht, if_pos hb])
          clear ht hb
          go_upto_region 12 with (fail)
          obtain ⟨tt, htt⟩ : ∃ tt : Nat, 64 = tt := ⟨64, rfl⟩
          rw [show (64 : Int) = (tt : Int) by omega]
          have HTL := hid (show (tt : Int) ≤ 64 by omega)
          have m1 : 0 ≤ (tt : Int) := by omega
          have m2 : (tt : Int) ≤ 64 := by omega
          rw [htt] at HTT
          clear htt
          have b1 : (tt : Int) ≤ (SL.size : Int) := by rw [HSL.out, B_size, HXW.out.2]; exact HTL.out
          have b2 : (tt : Int) ≤ (SM.size : Int) := by rw [HSM.out, B_size, HML.out]; exact HTL.out
          have b3 : SL.size ≤ 1000000 := by rw [HSL.out, B_size, HXW.out.2]; decide
          have b4 : SM.size ≤ 1000000 := by rw [HSM.out, B_size, HML.out]; decide
          have HTS := hid (show SL.extract 0 tt ++ SM.extract tt SM.size = B (L.take tt ++ M.drop tt) by
            have hts := torn_str L M tt (by rw [HXW.out.2]; have := HTL.out; omega)
            rw [HSL.out, HSM.out, B_size M]; exact hts)
          have HST := hid (HC.out.store HX.out HTT.out rfl HBG.out (HTS.out.trans (by rw [HMM.out])))
          go_wp2_with fail
          have b5 : (9223372036854775807 < SM.size) = False := eq_false (by omega)
          have b6 : (9223372036854775807 < tt + (SM.size - tt)) = False := eq_false (by omega)
          have b7 : tt ≤ SL.size := by omega
          clear kb0 kb1 kb2 k0 d1 d2 c1
          go_still_tail 37, (by kernel_rfl)
          change wpList _ _ _ _ _ wr.drew
          go_wp2_with fail
          go_roundw
          case rel => exact ⟨((K + 1 : Nat) : Int), by go_num, ⟨⟨by omega, by have := HKL.out; omega⟩⟩, ⟨by rw [Int.toNat_natCast]; exact HST.out⟩⟩
          case measure => simp [intOf]; have := HKL.out; omega
        · have c2 : ((keep / 2 ^ (K % 64)).tmod 2 == 1) = false := by rw [kept_tmod keep HK.out]; simpa using hb
          have HZ := hid (HC.out.next (show toOf keep torn at_ K = 0 by unfold toOf; rw [if_neg ht, if_neg hb]))
          clear ht hb
          go_wp2_with fail
          go_roundw
          case rel => exact ⟨((K + 1 : Nat) : Int), by go_num, ⟨⟨by omega, by have := HKL.out; omega⟩⟩, ⟨by rw [Int.toNat_natCast]; exact HZ.out⟩⟩
          case measure => simp [intOf]; have := HKL.out; omega
    · have d1 : decide (Ki < (s.opn.length : Int)) = false := decide_eq_false hi
      have hk : Ki.toNat = s.opn.length := by have := HI.out; omega
      rw [hk] at HC
      obtain ⟨S, hS⟩ : ∃ S, S = sureAt keep torn at_ s.sure s.opn s.opn.length := ⟨_, rfl⟩
      have hcr : crashS s keep torn at_ = ⟨S, S, [], none⟩ := by unfold crashS; rw [hS]
      have hSl : S.length = s.sure.length := by rw [hS]; exact sureAt_len ..
      obtain ⟨NW, hNW⟩ : ∃ NW, NW = strC s.now := ⟨_, rfl⟩
      obtain ⟨SU, hSU⟩ : ∃ SU, SU = strC S := ⟨_, rfl⟩
      have hrp := HC.out.rp
      rw [← hS, ← hSU, ← hNW] at hrp
      have hSUl : SU.length = s.now.length := by rw [hSU, strC_len, hSl, HLEN.out.1]
      have hNWl : NW.length = SU.length := by rw [hNW, strC_len, hSUl]
      have HSL := hid hNWl
      have HSU := hid hSUl
      have hNb : s.now.length ≤ 4096 := HLEN.out.2.2
      have HSTR := hid (show ∀ v ∈ SU, ∃ x, v = .string x by rw [hSU]; intro v hv; obtain ⟨x, -, rfl⟩ := List.mem_map.1 hv; exact ⟨_, rfl⟩)
      have HR0 := hid hrp
      have HCR := hid (show crashS s keep torn at_ = ⟨S, S, [], none⟩ from hcr)
      have HSE := hid hSU
      clear hrp hS hcr hSl hNW hSU hSUl hNWl hi hk HC kb0 kb1 kb2
      go_wp2_with fail
      clear d1 k0 k1 k2 k3
      obtain ⟨wo, rfl⟩ : ∃ wo : World, wo = wr := ⟨_, rfl⟩
      go_loopw [6] (fun v wr => ∃ i : Nat, v = .int .i64 (i : Int) ∧ Aside0 (i ≤ s.now.length) ∧ Aside0 (Rp base (QV.fp ⟨qQ, .slice (some ⟨gN, 0, none⟩) s.now.length cN, .slice (some ⟨gS, 0, none⟩) s.sure.length cS, .slice AA s.opn.length cA, .slice AO s.opn.length cO⟩ s) w wr ⟨qQ, .slice (some ⟨gN, 0, none⟩) s.now.length cN, .slice (some ⟨gS, 0, none⟩) s.sure.length cS, .slice AA s.opn.length cA, .slice AO s.opn.length cO⟩ (mixC SU NW i) SU (atC s.opn) (opC s.opn) (fzI s.fuse))) (fun v _ => s.now.length - (intOf v).toNat)
      case atStart => exact ⟨0, rfl, ⟨Nat.zero_le _⟩, ⟨by rw [mixC_zero]; exact HR0.out⟩⟩
      case round =>
        obtain ⟨i, rfl, HI2, HR⟩ := hrel
        clear HR0
        obtain ⟨k0, k1, k2, k3, k4, f⟩ := HR.out.cells
        replace k0 : wr.cell? ⟨qQ, 0, none⟩ = some (.slice (some ⟨gN, 0, none⟩) s.now.length cN) := k0
        replace k1 : wr.cell? ⟨qQ, 1, none⟩ = some (.slice (some ⟨gS, 0, none⟩) s.sure.length cS) := k1
        by_cases c1 : i < s.now.length
        · have d1 : decide ((i : Int) < (s.now.length : Int)) = true := decide_eq_true (by omega)
          have d2 : decide (i < s.now.length) = true := decide_eq_true c1
          have hml := mixC_len SU NW HSL.out i (by rw [HSU.out]; omega)
          obtain ⟨v, hv, y0, -⟩ := HR.out.readS (g := gS) (cap := cS) (by show Value.slice _ s.sure.length cS = .slice _ SU.length cS; rw [HSU.out, HLEN.out.1]) (i := i) (by rw [HSU.out]; exact c1)
          obtain ⟨X, rfl⟩ := HSTR.out v (List.mem_of_getElem? hv)
          have HST := hid (HR.out.drew.setN (g := gN) (cap := cN) (by show Value.slice _ s.now.length cN = .slice _ (mixC SU NW i).length cN; rw [hml, HSU.out]) i (.string X))
          have hset := mixC_set SU NW HSL.out i (by rw [HSU.out]; exact c1) (.string X) hv
          rw [hset] at HST
          obtain ⟨z, -, y1, y2⟩ := HR.out.readN (g := gN) (cap := cN) (by show Value.slice _ s.now.length cN = .slice _ (mixC SU NW i).length cN; rw [hml, HSU.out]) (i := i) (by rw [hml, HSU.out]; exact c1)
          have p1 : (0 ≤ (i : Int)) = True := eq_true (by omega)
          have p2 : ((i : Int) < (s.now.length : Int)) = True := eq_true (by omega)
          have p3 : ((i : Int) < (s.sure.length : Int)) = True := eq_true (by rw [HLEN.out.1]; omega)
          have C1 := hid c1
          have hib : (i : Int) ≤ 5000 := by omega
          clear hv c1 hml hset k2 k3 k4 f
          go_wp2_with fail
          go_still_tail 13, (by kernel_rfl)
          change wpList _ _ _ _ _ wr.drew
          go_wp2_with fail
          go_roundw
          case rel => exact ⟨i + 1, by go_num, ⟨by have := C1.out; omega⟩, ⟨HST.out⟩⟩
          case measure => simp [intOf]; have := C1.out; omega
        · have d1 : decide ((i : Int) < (s.now.length : Int)) = false := decide_eq_false (by omega)
          have d2 : decide (i < s.now.length) = false := decide_eq_false c1
          have hin : i = SU.length := by have := HI2.out; rw [HSU.out]; omega
          have hR := HR.out
          rw [hin, mixC_all _ _ HSL.out] at hR
          have hR2 := hR.clear2
          have HR3 := hid (hR2.setF (-1))
          replace k2 : wr.cell? ⟨qQ, 2, none⟩ = some (.slice AA s.opn.length cA) := k2
          replace k3 : wr.cell? ⟨qQ, 3, none⟩ = some (.slice AO s.opn.length cO) := k3
          replace k4 : wr.cell? ⟨qQ, 4, none⟩ = some (.int .i64 (fzI s.fuse)) := k4
          have f2 : wr.frozen? ⟨qQ, 2, none⟩ = false := f 2
          have f3 : wr.frozen? ⟨qQ, 3, none⟩ = false := f 3
          have f4 : wr.frozen? ⟨qQ, 4, none⟩ = false := f 4
          clear hR hR2 hin c1 f
          go_wp2_with fail
          go_end0
          refine ⟨rfl, HD.out.crashd (q' := ⟨qQ, .slice (some ⟨gN, 0, none⟩) s.now.length cN, .slice (some ⟨gS, 0, none⟩) s.sure.length cS, .slice none 0 0, .slice none 0 0⟩) ?_ rfl⟩
          have h3 := HR3.out
          rw [HSE.out] at h3
          rw [HCR.out]
          exact h3
end Go.Proofs.Ytlafanbilodafaa
