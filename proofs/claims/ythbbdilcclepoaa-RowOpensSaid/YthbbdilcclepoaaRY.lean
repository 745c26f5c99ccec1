/- Chapter 05: RowOpens, by walking it. -/
import Derived.Test.YthbbdilcclepoaaRW
set_option maxRecDepth 100000
set_option linter.unusedVariables false
set_option linter.unusedSimpArgs false
namespace Go.Proofs.Ythbbdilcclepoaa
open Go Go.RowKit Go.Proofs.Ythbbdilcclepoaa.Q Go.Proofs.Ythbbdilcclepoaa.Pure Go.Proofs.YthbbdilcclepoaaW.PrintWords Go.Proofs.YthbbdilcclepoaaW.PrintLast Go.Proofs.YthbbdilcclepoaaW.PrintMore
attribute [local go_sem] Oper.semAt_some max2_int min2_int max_two min_two max_three min_three max_four min_four
/-- The drive under way. -/
structure Wrt (w wr : World) (D : Nat) (s : DS) (i : Nat) : Prop where
  dr : Dr w wr [(D, s)] []
  len : s.now.length = 16
  opn : s.opn.length ≤ i
theorem C_at {w : World} {A : Option Addr} {q : List ByteArray} (hr : Kd.C Kd.string w A q.length q) (j : Nat) (hj : j < q.length) : ∃ ad x, A = some ad ∧ q[j]? = some x ∧ w.cell? (ad.add j) = some (.string x) := by
  obtain ⟨ad, cs, e1, -, hK, hcs⟩ := Kd.C_get hr ByteArray.empty (j : Int) (by omega) (by omega)
  rw [Int.toNat_natCast] at hK hcs
  have hx : q[j]? = some q[j] := List.getElem?_eq_getElem hj
  have hK' : cs = [.string q[j]] := by
    have : cs = [.string (q.getD j ByteArray.empty)] := hK
    rw [this, List.getD_eq_getElem?_getD, hx]; rfl
  refine ⟨ad, q[j], e1, hx, ?_⟩
  have h5 := hcs 0 (.string q[j]) (by rw [hK']; rfl)
  rw [show j * Kd.string.sz + 0 = j from by show j * 1 + 0 = j; omega] at h5
  exact h5
set_option maxHeartbeats 4000000 in
theorem opens_calls (w : World) (A : Option Addr) (c : Nat) (ls : List ByteArray) (hr : Kd.C Kd.string w A ls.length ls) (hc : ls.length ≤ c) (a b : Int) :
    Calls Try.prog 3 #[.slice A ls.length c, .int .i64 a, .int .i64 b] w fun e w' => e = .returned (.bool true) ∧ Below w.heap.size w w' := by
  have HR := hid hr
  have HC := hid hc
  clear hr hc
  go_enter Try.func3, Try.ntmps3
  go_wp2_with fail
  go_at_call 6
  refine ((Dr.start w).make 16 (by decide) (by decide)).mono ?_
  rintro e w1 ⟨v, rfl, D, rfl, hd1, -⟩
  replace hd1 : Dr w w1 [(D, newS 16)] [] := hd1
  have HW1 := hid (show Wrt w w1 D (newS 16) 0 from ⟨hd1, by decide, by decide⟩)
  clear hd1
  unfold ptr
  go_wp2_with fail
  go_loopw [9] (fun q wr => ∃ (i : Nat) (s : DS), q = .int .i64 (i : Int) ∧ Aside0 (i ≤ 16) ∧ Aside0 (Wrt w wr D s i)) (fun q _ => 16 - (intOf q).toNat)
  case atStart => exact ⟨0, _, rfl, ⟨by decide⟩, ⟨HW1.out⟩⟩
  case round =>
    obtain ⟨i, s, rfl, HI, HS⟩ := hrel
    clear HW1
    by_cases c1 : i < ls.length ∧ i < 16
    · obtain ⟨c1, c2⟩ := c1
      obtain ⟨ad, x, rfl, hx, hcell⟩ := C_at (Kd.C_below HR.out HS.out.dr.below) i c1
      have d1 : decide ((i : Int) < (ls.length : Int)) = true := decide_eq_true (by omega)
      have d2 : decide (i < ls.length) = true := decide_eq_true c1
      have d3 : decide ((i : Int) < 16) = true := decide_eq_true (by omega)
      have d4 : decide (i < 16) = true := decide_eq_true c2
      have p1 : (0 ≤ (i : Int)) = True := eq_true (by omega)
      have p2 : ((i : Int) < (ls.length : Int)) = True := eq_true (by omega)
      have C1 := hid c1
      have C2 := hid c2
      have HWC := hid (HS.out.dr.new (Only.drewN [] wr 1))
      obtain ⟨M, hM1, hM2⟩ : ∃ M : Nat, (if (64 : Int) < (x.size : Int) then (64 : Int) else (x.size : Int)) = (M : Int) ∧ M ≤ x.size := by
        by_cases c3 : 64 < x.size
        · exact ⟨64, by rw [if_pos (by omega)]; rfl, by omega⟩
        · exact ⟨x.size, by rw [if_neg (by omega)], by omega⟩
      have hM3 : (M : Int) ≤ (x.size : Int) := by omega
      obtain ⟨t, ht⟩ : ∃ t : ByteArray, ∀ W, (Instr.slice 9 (.string x) none (some (.int .i64 (M : Int))) none).run Try.prog W = .ok (.string t) W := ⟨x.extract 0 M, fun W => run_slice_string_h W 9 x Try.underlying9 .i64 (M : Int) (by omega) (by omega)⟩
      have hb16 : i ≤ 16 := by omega
      have hb17 : (i : Int) ≤ 16 := by omega
      have HO := hid (show s.opn.length < 1000000 by have := HS.out.opn; omega)
      clear hx c1 c2 hM2
      go_wp2_with fail
      go_still_tail 13, (by kernel_rfl)
      change wpList _ _ _ _ _ wr.drew
      go_wp2_with fail
      go_at_call 7
      refine (HWC.out.write (i := 0) rfl HO.out (i : Int) t).mono ?_
      rintro e w3 ⟨rfl, hw3, -⟩
      obtain ⟨P, hP⟩ : ∃ P, P = writeR s (i : Int) t := ⟨_, rfl⟩
      rw [← hP] at hw3 ⊢
      have HW3 := hid (show Wrt w w3 D P.1 (i + 1) by
        have h2 := writeR_len s (i : Int) t
        rw [← hP] at h2
        exact ⟨hw3, h2.1.trans HS.out.len, Nat.le_trans h2.2 (Nat.succ_le_succ HS.out.opn)⟩)
      clear hw3 hP
      go_wp2_with fail
      go_roundw
      case rel => exact ⟨i + 1, _, by go_num, ⟨by have := C2.out; omega⟩, ⟨HW3.out⟩⟩
      case measure => simp [intOf]; have := C2.out; omega
    · have hx : (decide ((i : Int) < (ls.length : Int)) = true ∧ decide (i < ls.length) = true ∧ decide ((i : Int) < 16) = false ∧ decide (i < 16) = false) ∨ (decide ((i : Int) < (ls.length : Int)) = false ∧ decide (i < ls.length) = false) := by
        by_cases c2 : i < ls.length
        · exact .inl ⟨decide_eq_true (by omega), decide_eq_true c2, decide_eq_false (by omega), decide_eq_false (by omega)⟩
        · exact .inr ⟨decide_eq_false (by omega), decide_eq_false c2⟩
      clear c1
      have HLEN := hid HS.out.len
      have hno : (a < 0 ∨ b < 1 ∨ (16 : Int) < a ∨ (16 : Int) - a < b) ∨ ¬ (a < 0 ∨ b < 1 ∨ (16 : Int) < a ∨ (16 : Int) - a < b) := Classical.em _
      rcases hno with hno | hno
      · have HOP := hid (Open_no HS.out.dr (i := 0) rfl a b (by rw [HLEN.out]; decide) (by rw [HLEN.out]; exact hno))
        have hy : (decide (a < 0) = true) ∨ (decide (a < 0) = false ∧ decide (b < 1) = true) ∨ (decide (a < 0) = false ∧ decide (b < 1) = false ∧ decide ((16 : Int) < a) = true) ∨ (decide (a < 0) = false ∧ decide (b < 1) = false ∧ decide ((16 : Int) < a) = false ∧ decide ((16 : Int) - a < b) = true ∧ 0 ≤ a ∧ a ≤ 16) := by
          by_cases c1 : a < 0
          · exact .inl (decide_eq_true c1)
          · by_cases c2 : b < 1
            · exact .inr (.inl ⟨decide_eq_false c1, decide_eq_true c2⟩)
            · by_cases c3 : (16 : Int) < a
              · exact .inr (.inr (.inl ⟨decide_eq_false c1, decide_eq_false c2, decide_eq_true c3⟩))
              · exact .inr (.inr (.inr ⟨decide_eq_false c1, decide_eq_false c2, decide_eq_false c3, decide_eq_true (by omega), by omega, by omega⟩))
        clear hno
        unfold ptr at *
        have HD := hid HS.out.dr.below
        rcases hx with ⟨d1, d2, d3, d4⟩ | ⟨d1, d2⟩ <;> rcases hy with d5 | ⟨d5, d6⟩ | ⟨d5, d6, d7⟩ | ⟨d5, d6, d7, d8, d9, d10⟩ <;> (
          go_wp2_with (first | (go_at_call 8; refine HOP.out.mono ?_; rintro e w3 ⟨rfl, rfl⟩) | (go_at_call 9; refine (row_head _).mono ?_; rintro e w4 ⟨rfl, hb⟩; have HB4 := hid hb; clear hb))
          go_ret
          exact ⟨rfl, HD.out.trans (HB4.out.mono HD.out.size)⟩)
      · obtain ⟨fr, rfl⟩ : ∃ fr : Nat, a = (fr : Int) := ⟨a.toNat, by omega⟩
        obtain ⟨mn, rfl⟩ : ∃ mn : Nat, b = (mn : Int) := ⟨b.toNat, by omega⟩
        have h1 : 1 ≤ mn := by omega
        have h2 : fr + mn ≤ 16 := by omega
        have d5 : decide ((fr : Int) < 0) = false := decide_eq_false (by omega)
        have d6 : decide ((mn : Int) < 1) = false := decide_eq_false (by omega)
        have d7 : decide ((16 : Int) < (fr : Int)) = false := decide_eq_false (by omega)
        have d8 : decide ((16 : Int) - (fr : Int) < (mn : Int)) = false := decide_eq_false (by omega)
        have d9 : (fr : Int) ≤ 16 := by omega
        have HOP := hid (Open_ok HS.out.dr (i := 0) rfl fr mn h1 (by rw [HLEN.out]; exact h2) (by rw [HLEN.out]; decide))
        have HH := hid (And.intro h1 h2)
        clear hno h1 h2
        unfold ptr at *
        rcases hx with ⟨e1, e2, e3, e4⟩ | ⟨e1, e2⟩ <;> (
          go_wp2_with fail
          go_at_call 8
          refine HOP.out.mono ?_
          rintro e w3 ⟨R, tv, rfl, ho3, hr3⟩
          have HW3 := hid (show Rw w w3 [(D, s)] (rwFp R tv ++ []) 0 D s R tv (openRS s fr mn) from Rw.opened HS.out.dr rfl ho3 hr3)
          clear ho3 hr3
          go_wp2_with fail
          go_loopw [12, 13] (fun v' q wr => ∃ (v : Value) (j : Nat), v = v' ∧ q = .int .i64 (j : Int) ∧ Aside0 (j ≤ mn) ∧ Aside0 (wr.ownsRow w3.heap.size 9 1 v j (strV (rowSec s fr j))) ∧ Aside0 (Only [] w3 wr)) (fun _ q _ => mn - (intOf q).toNat)
          case atStart => exact ⟨.slice none 0 0, 0, rfl, rfl, ⟨Nat.zero_le _⟩, ⟨World.ownsRow_nil _ _ _ _⟩, ⟨Only.refl _ _⟩⟩
          case round =>
            obtain ⟨v, j, rfl, rfl, HJ, HO, HB⟩ := hrel
            by_cases c : j < mn
            · have x1 : decide ((j : Int) < (mn : Int)) = true := decide_eq_true (by omega)
              have x2 : decide (j < mn) = true := decide_eq_true c
              obtain ⟨tj, htj, hjz, hjs, hjb⟩ := info_three Q.info9
              have HTJ := hid (And.intro htj (And.intro hjz (And.intro hjs hjb)))
              have HR := hid (HW3.out.new HB.out)
              have C1 := hid c
              have e1 : fr + j ≤ 4096 := by have := HH.out.2; omega
              have HE := hid e1
              have hB1 := hid HB.out.size
              clear c htj hjz hjs hjb
              go_wp2_with (first | (go_at_call 10; refine (HR.out.dr.read HR.out.hi _).mono ?_; rintro e w4 ⟨rfl, h4⟩; have h5 := h4.symm; clear h4; subst h5) | (at_builtin; go_loud (refine wpList_append_lies _ rfl (.tmp 95) (.tmp 97) 22 rfl w3.heap.size 9 tj _ 1 16 Try.underlying22 HTJ.out.1 HTJ.out.2.1 HTJ.out.2.2.1 HTJ.out.2.2.2 rfl (by decide) v j _ rfl (HO.out.alloc _) ⟨wr.heap.size, 0, none⟩ 1 1 [.string (readS s ((fr : Int) + (j : Int)))] rfl rfl (World.news_of_block (heap_alloc_new wr _)) (one_str _) (by decide) (by have := HE.out; unfold maxLen; omega) (by have := HE.out; omega) (by have := hB1.out; simp; omega) (wr.heap.size + 1) (by simp) ?_); intro g4 cap4 W4 hown4 hgrow4 hat4 hgl4))
              have hA := HB.out.appended 0 HO.out hgrow4
              have eS := rowSec_succ s fr j
              rw [Int.natCast_add] at eS
              rw [← strV_snoc, ← eS] at hown4
              exact ⟨⟨_, j + 1, rfl, by go_num, ⟨by have := C1.out; omega⟩, ⟨hown4⟩, ⟨hA⟩⟩, by simp [intOf]; have := C1.out; omega⟩
            · have x1 : decide ((j : Int) < (mn : Int)) = false := decide_eq_false (by omega)
              have x2 : decide (j < mn) = false := decide_eq_false c
              have hin : j = mn := by have := HJ.out; omega
              have hown := HO.out
              rw [hin] at hown
              rw [show mn = (rowSec s fr mn).length from (rowSec_len s fr mn).symm] at hown
              rw [rowSec_len s fr mn] at hown
              have hown2 : wr.ownsRow w3.heap.size 9 1 v (rowSec s fr mn).length (strV (rowSec s fr mn)) := by rw [rowSec_len]; exact HO.out |> (fun h => by rw [hin] at h; exact h)
              obtain ⟨Aq, cq, hvq, hcq, hCq⟩ := own_C_str hown2
              rw [rowSec_len] at hvq hcq
              have hIS := is_calls (HW3.out.new HB.out) (Fit.opened s fr mn (by rw [HLEN.out]; exact HH.out.2)) (by show mn ≤ 30; have := HH.out.2; omega) (rowSec s fr mn) rfl Aq cq hCq (by rw [rowSec_len]; exact hcq)
              rw [rowSec_len] at hIS
              have HIS := hid hIS
              unfold ptr at HIS
              subst hvq
              have HDR := hid (HW3.out.new HB.out)
              clear hown hown2 hCq hcq hIS hin c
              go_wp2_with (first | (go_at_call 11; refine HIS.out.mono ?_; rintro e w5 ⟨rfl, ho5⟩; have HB5 := hid ((HDR.out.new ho5).dr.below); clear ho5) | (go_at_call 9; refine (row_head _).mono ?_; rintro e w6 ⟨rfl, hb⟩; have HB6 := hid hb; clear hb))
              go_ret
              exact ⟨rfl, HB5.out.trans (HB6.out.mono HB5.out.size)⟩)
end Go.Proofs.Ythbbdilcclepoaa
