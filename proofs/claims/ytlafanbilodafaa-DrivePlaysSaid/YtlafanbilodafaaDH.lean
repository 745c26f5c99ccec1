/- Chapter 03: the document's Sync. -/
import Derived.Test.YtlafanbilodafaaDG
set_option linter.unusedVariables false
set_option linter.unusedSimpArgs false
namespace Go.Proofs.Ytlafanbilodafaa
open Go Go.RowKit Go.Proofs.YtlafanbilodafaaW.PrintWords Go.Proofs.YtlafanbilodafaaW.PrintLast Go.Proofs.YtlafanbilodafaaW.PrintMore
attribute [local go_sem] Oper.semAt_some max2_int min2_int max_two min_two max_three min_three max_four min_four
/-- What has been copied so far. -/
def mixC (a b : List Value) (i : Nat) : List Value := a.take i ++ b.drop i
theorem mixC_len (a b : List Value) (h : b.length = a.length) (i : Nat) (hi : i ≤ a.length) : (mixC a b i).length = a.length := by
  unfold mixC; rw [List.length_append, List.length_take, List.length_drop]; omega
theorem mixC_set (a b : List Value) (h : b.length = a.length) (i : Nat) (hi : i < a.length) (v : Value) (hv : a[i]? = some v) : (mixC a b i).set i v = mixC a b (i + 1) := by
  have hl : (a.take i).length = i := by rw [List.length_take]; omega
  have hd : b.drop i = b[i]'(by omega) :: b.drop (i + 1) := List.drop_eq_getElem_cons (by omega)
  obtain ⟨_, hv'⟩ := List.getElem?_eq_some_iff.1 hv
  unfold mixC
  rw [List.set_append_right _ _ (by omega), hl, Nat.sub_self, hd, List.set_cons_zero, List.take_succ_eq_append_getElem hi, hv', List.append_assoc]
  rfl
theorem mixC_zero (a b : List Value) : mixC a b 0 = b := by unfold mixC; simp
theorem mixC_all (a b : List Value) (h : b.length = a.length) : mixC a b a.length = a := by unfold mixC; rw [List.take_length, List.drop_of_length_le (by omega), List.append_nil]
theorem Rp.readN {base : Nat} {fp0 : List Nat} {w W : World} {q : QV} {nw su at_ op : List Value} {fz : Int} (h : Rp base fp0 w W q nw su at_ op fz) {g cap : Nat} (hv : q.vN = .slice (some ⟨g, 0, none⟩) nw.length cap) {i : Nat} (hi : i < nw.length) :
    ∃ v, nw[i]? = some v ∧ W.cell? ⟨g, i, none⟩ = some v ∧ W.frozen? ⟨g, i, none⟩ = false := by
  have ho := h.ownN
  rw [hv] at ho
  refine ⟨_, List.getElem?_eq_getElem hi, ?_, World.ownsRow.frozenAt ho i⟩
  rw [World.ownsRow.cellAt ho i (by omega), List.getElem?_eq_getElem hi]
theorem Rp.readS {base : Nat} {fp0 : List Nat} {w W : World} {q : QV} {nw su at_ op : List Value} {fz : Int} (h : Rp base fp0 w W q nw su at_ op fz) {g cap : Nat} (hv : q.vS = .slice (some ⟨g, 0, none⟩) su.length cap) {i : Nat} (hi : i < su.length) :
    ∃ v, su[i]? = some v ∧ W.cell? ⟨g, i, none⟩ = some v ∧ W.frozen? ⟨g, i, none⟩ = false := by
  have ho := h.ownS
  rw [hv] at ho
  refine ⟨_, List.getElem?_eq_getElem hi, ?_, World.ownsRow.frozenAt ho i⟩
  rw [World.ownsRow.cellAt ho i (by omega), List.getElem?_eq_getElem hi]
theorem Rp.formN {base : Nat} {fp0 : List Nat} {w W : World} {q : QV} {nw su at_ op : List Value} {fz : Int} (h : Rp base fp0 w W q nw su at_ op fz) (hn : 0 < nw.length) : ∃ g cap, q.vN = .slice (some ⟨g, 0, none⟩) nw.length cap := by
  obtain ⟨g, cap, e, -⟩ := h.ownN.form hn; exact ⟨g, cap, e⟩
theorem Rp.formS {base : Nat} {fp0 : List Nat} {w W : World} {q : QV} {nw su at_ op : List Value} {fz : Int} (h : Rp base fp0 w W q nw su at_ op fz) (hn : 0 < su.length) : ∃ g cap, q.vS = .slice (some ⟨g, 0, none⟩) su.length cap := by
  obtain ⟨g, cap, e, -⟩ := h.ownS.form hn; exact ⟨g, cap, e⟩
theorem syncR_down {s : DS} (h : s.fuse = some 0) : syncR s = (s, 30) := by unfold syncR; rw [if_pos h]
theorem syncR_good {s : DS} (h : s.fuse ≠ some 0) : syncR s = (syncS (blS s), 0) := by unfold syncR blS; rw [if_neg h, if_neg h]
theorem Rd.syncd {base : Nat} {w W : World} {q q' : QV} {s : DS} (h : Rd base w q s) (hp : Rp base (q.fp s) w W q' (strC s.now) (strC s.now) [] [] (fzI s.fuse)) (hq : q'.Q = q.Q) : RGoes base w W q s (syncS s) :=
  Rp.goes (s' := syncS s) hp hq ⟨rfl, h.len.2⟩ h.secN h.secN (fun x hx => by cases hx) h.fuse
set_option maxRecDepth 100000 in
theorem RSync {base : Nat} {w : World} {q : QV} {s : DS} (h : Rd base w q s) :
    Calls Try.prog 18 #[ptr q.Q] w fun e w' => e = .returned (.int .i64 (syncR s).2) ∧ RGoes base w w' q s (syncR s).1 := by
  have HD := hid h
  clear h
  unfold ptr
  by_cases h3 : s.fuse = some 0
  · have hbl : blS s = s := by unfold blS; rw [if_pos h3]
    have HW := hid (syncR_down h3)
    have HBL := hid hbl
    have HZ := hid (show isZ s.fuse = true by rw [h3]; rfl)
    clear h3 hbl
    go_enter Try.func18, Try.ntmps18
    go_wp2_with (go_at_call 28; refine (blown_calls HD.out).mono ?_; rintro e w1 ⟨rfl, hg⟩; rw [HZ.out]; have HG := hid hg; clear hg)
    go_ret
    rw [HBL.out] at HG
    exact ⟨by rw [HW.out]; rfl, by rw [HW.out]; exact HG.out⟩
  · have HW := hid (syncR_good h3)
    have HZ := hid (isZ_false h3)
    clear h3
    go_enter Try.func18, Try.ntmps18
    go_wp2_with fail
    go_at_call 28
    refine (blown_calls HD.out).mono ?_
    rintro e w1 ⟨rfl, q1, e1, hd1, ho1, hf1⟩
    rw [HZ.out]
    obtain ⟨S, hS⟩ : ∃ S, S = blS s := ⟨_, rfl⟩
    rw [← hS] at hd1 hf1
    have HS := hid hS
    obtain ⟨Q1, vN, vS, vA, vO⟩ := q1
    simp only at e1
    subst e1
    have HHD := hid hd1
    have HO1 := hid ho1
    have HF1 := hid hf1
    have hlen := hd1.len
    obtain ⟨NW, hNW⟩ : ∃ NW, NW = strC S.now := ⟨_, rfl⟩
    obtain ⟨SU, hSU⟩ : ∃ SU, SU = strC S.sure := ⟨_, rfl⟩
    have hNl : NW.length = S.now.length := by rw [hNW, strC_len]
    have hSl : SU.length = NW.length := by rw [hSU, strC_len, hNl, hlen.1]
    have hrp := hd1.rp
    rw [← hNW, ← hSU] at hrp
    obtain ⟨gN, cN, rfl⟩ : ∃ g cap, vN = .slice (some ⟨g, 0, none⟩) NW.length cap := hrp.formN (by omega)
    obtain ⟨gS, cS, rfl⟩ : ∃ g cap, vS = .slice (some ⟨g, 0, none⟩) SU.length cap := hrp.formS (by omega)
    have HSL := hid hSl
    have hNb : NW.length ≤ 4096 := by omega
    have HSTR := hid (show ∀ v ∈ NW, ∃ x, v = .string x by rw [hNW]; intro v hv; obtain ⟨x, -, rfl⟩ := List.mem_map.1 hv; exact ⟨_, rfl⟩)
    have HR0 := hid hrp
    have HNW := hid hNW
    clear hrp hd1 ho1 hf1 hNW hSU hS hSl hNl hlen
    go_wp2_with fail
    go_loopw [3] (fun v wr => ∃ i : Nat, v = .int .i64 (i : Int) ∧ Aside0 (i ≤ NW.length) ∧ Aside0 (Rp base (QV.fp ⟨q.Q, .slice (some ⟨gN, 0, none⟩) NW.length cN, .slice (some ⟨gS, 0, none⟩) SU.length cS, vA, vO⟩ S) w1 wr ⟨q.Q, .slice (some ⟨gN, 0, none⟩) NW.length cN, .slice (some ⟨gS, 0, none⟩) SU.length cS, vA, vO⟩ NW (mixC NW SU i) (atC S.opn) (opC S.opn) (fzI S.fuse))) (fun v _ => NW.length - (intOf v).toNat)
    case atStart => exact ⟨0, rfl, ⟨Nat.zero_le _⟩, ⟨by rw [mixC_zero]; exact HR0.out⟩⟩
    case round =>
      obtain ⟨i, rfl, HI, HR⟩ := hrel
      clear HR0
      obtain ⟨k0, k1, -, -, -, -⟩ := HR.out.cells
      replace k0 : wr.cell? ⟨q.Q, 0, none⟩ = some (.slice (some ⟨gN, 0, none⟩) NW.length cN) := k0
      replace k1 : wr.cell? ⟨q.Q, 1, none⟩ = some (.slice (some ⟨gS, 0, none⟩) SU.length cS) := k1
      by_cases c1 : i < NW.length
      · have d1 : decide ((i : Int) < (NW.length : Int)) = true := decide_eq_true (by omega)
        have hml := mixC_len NW SU HSL.out i (by omega)
        obtain ⟨v, hv, y0, -⟩ := HR.out.readN rfl c1
        obtain ⟨X, rfl⟩ := HSTR.out v (List.mem_of_getElem? hv)
        have HST := hid (HR.out.drew.setS (g := gS) (cap := cS) (by show Value.slice _ SU.length cS = .slice _ (mixC NW SU i).length cS; rw [hml, HSL.out]) i (.string X))
        have hset := mixC_set NW SU HSL.out i c1 (.string X) hv
        rw [hset] at HST
        obtain ⟨z, -, y1, y2⟩ := HR.out.readS (g := gS) (cap := cS) (by show Value.slice _ SU.length cS = .slice _ (mixC NW SU i).length cS; rw [hml, HSL.out]) (i := i) (by omega)
        have p1 : (0 ≤ (i : Int)) = True := eq_true (by omega)
        have p2 : ((i : Int) < (NW.length : Int)) = True := eq_true (by omega)
        have p3 : ((i : Int) < (SU.length : Int)) = True := eq_true (by rw [HSL.out]; omega)
        have C1 := hid c1
        have hib : (i : Int) ≤ 5000 := by omega
        clear hv c1 hml hset
        go_wp2_with fail
        go_still_tail 13, (by kernel_rfl)
        change wpList _ _ _ _ _ wr.drew
        go_wp2_with fail
        go_roundw
        case rel => exact ⟨i + 1, by go_num, ⟨by have := C1.out; omega⟩, ⟨HST.out⟩⟩
        case measure => simp [intOf]; have := C1.out; omega
      · have d1 : decide ((i : Int) < (NW.length : Int)) = false := decide_eq_false (by omega)
        have d2 : decide (i < NW.length) = false := decide_eq_false c1
        have hin : i = NW.length := by have := HI.out; omega
        have hR := HR.out
        rw [hin, mixC_all _ _ HSL.out] at hR
        have HR2 := hid hR.clear2
        obtain ⟨-, -, k2, k3, -, f⟩ := hR.cells
        replace k2 : wr.cell? ⟨q.Q, 2, none⟩ = some vA := k2
        replace k3 : wr.cell? ⟨q.Q, 3, none⟩ = some vO := k3
        have f2 : wr.frozen? ⟨q.Q, 2, none⟩ = false := f 2
        have f3 : wr.frozen? ⟨q.Q, 3, none⟩ = false := f 3
        clear hR hin c1 f
        go_wp2_with fail
        go_ret
        refine ⟨by rw [HW.out]; rfl, ?_⟩
        rw [HW.out, ← HS.out]
        have h2 := HR2.out
        rw [HNW.out] at h2
        exact RGoes.trans (q1 := ⟨q.Q, .slice (some ⟨gN, 0, none⟩) NW.length cN, .slice (some ⟨gS, 0, none⟩) SU.length cS, vA, vO⟩) rfl HO1.out HF1.out (HHD.out.syncd h2 rfl)
end Go.Proofs.Ytlafanbilodafaa
