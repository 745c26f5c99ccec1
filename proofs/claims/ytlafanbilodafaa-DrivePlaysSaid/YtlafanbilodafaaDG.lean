/- Chapter 03: the document's Write. -/
import Derived.Test.YtlafanbilodafaaDF
set_option linter.unusedVariables false
set_option linter.unusedSimpArgs false
namespace Go.Proofs.Ytlafanbilodafaa
open Go Go.RowKit Go.Proofs.YtlafanbilodafaaW.PrintWords Go.Proofs.YtlafanbilodafaaW.PrintLast Go.Proofs.YtlafanbilodafaaW.PrintMore
attribute [local go_sem] Oper.semAt_some max2_int min2_int max_two min_two max_three min_three max_four min_four
theorem RGoes.trans {base : Nat} {w w1 w2 : World} {q q1 : QV} {s S s' : DS} (e : q1.Q = q.Q) (ho : Only (q.fp s) w w1) (hf : ∀ k, k ∈ q1.fp S → k ∈ q.fp s ∨ w.heap.size ≤ k) (h : RGoes base w1 w2 q1 S s') : RGoes base w w2 q s s' := by
  obtain ⟨q', e', hd, ho', hf'⟩ := h
  refine ⟨q', e'.trans e, hd, ho.trans ho' (fun k hk hl => (hf k hk).resolve_right (by omega)), fun k hk => ?_⟩
  rcases hf' k hk with h | h
  · exact hf k h
  · exact .inr (Nat.le_trans ho.size h)
theorem atC_len (l : List (Nat × List UInt8)) : (atC l).length = l.length := by unfold atC; rw [List.length_map]
theorem opC_len (l : List (Nat × List UInt8)) : (opC l).length = l.length := by unfold opC; rw [List.length_map]
theorem one_str (x : ByteArray) : ∀ u ∈ [Value.string x], u.oneCell' = true := by intro u hu; rw [List.mem_singleton.1 hu]; rfl
theorem one_int (x : Int) : ∀ u ∈ [Value.int .i64 x], u.oneCell' = true := by intro u hu; rw [List.mem_singleton.1 hu]; rfl
/-- Behind an append to a row the struct is as it was. -/
theorem Rp.mid {base : Nat} {fp0 : List Nat} {w W W' : World} {q : QV} {nw su at_ op : List Value} {fz : Int} (h : Rp base fp0 w W q nw su at_ op fz) {ob : Obj} {v : Value} (hv : v = q.vN ∨ v = q.vS ∨ v = q.vA ∨ v = q.vO) (hg : (W.alloc ob).grownBy W' v.ownBlock) :
    (∀ j, W'.cell? ⟨q.Q, j, none⟩ = W.cell? ⟨q.Q, j, none⟩) ∧ ∀ j, W'.frozen? ⟨q.Q, j, none⟩ = false := by
  have hl : q.Q < W.heap.size := (h.ob.fp_lt q.Q (by simp [obFp])).2
  have hn : some q.Q ≠ v.ownBlock := fun e => h.ob.nd_rows.1 (by
    unfold QV.rows RowV.fp
    rcases hv with rfl | rfl | rfl | rfl <;> simp [← e])
  have hb : W'.heap[q.Q]? = W.heap[q.Q]? := (hg.block q.Q (by simp; omega) hn).trans (heap_alloc_old W _ hl)
  exact ⟨fun j => World.cell?_of_block (a := ⟨q.Q, j, none⟩) hb, fun j => (World.frozen?_of_block (a := ⟨q.Q, j, none⟩) hb).trans (h.ob.free j)⟩
theorem Rd.written {base : Nat} {w W : World} {q q' : QV} {s : DS} (h : Rd base w q s) {m : Nat} (hm : m < s.now.length) {L : List UInt8} (hL : L.length = 64)
    (hp : Rp base (q.fp s) w W q' ((strC s.now).set m (.string (B L))) (strC s.sure) (atC s.opn ++ [.int .i64 (m : Int)]) (opC s.opn ++ [.string (B L)]) (fzI s.fuse)) (hq : q'.Q = q.Q) : RGoes base w W q s (writeS s m L) := by
  have e1 : (strC s.now).set m (.string (B L)) = strC (s.now.set m L) := by unfold strC; rw [List.map_set]
  have e2 : atC s.opn ++ [.int .i64 (m : Int)] = atC (s.opn ++ [(m, L)]) := by unfold atC; rw [List.map_append]; rfl
  have e3 : opC s.opn ++ [.string (B L)] = opC (s.opn ++ [(m, L)]) := by unfold opC; rw [List.map_append]; rfl
  rw [e1, e2, e3] at hp
  have hlen : (s.now.set m L).length = s.now.length := List.length_set
  refine Rp.goes (s' := writeS s m L) hp hq ?_ (fun x hx => ?_) h.secS (fun x hx => ?_) h.fuse
  · show s.sure.length = (s.now.set m L).length ∧ _ ∧ (s.now.set m L).length ≤ 4096
    rw [hlen]
    exact ⟨h.len.1, by show 8 ≤ (s.now.set m L).length; rw [hlen]; exact h.len.2.1, h.len.2.2⟩
  · rcases List.mem_or_eq_of_mem_set hx with h' | h'
    · exact h.secN x h'
    · rw [h']; exact hL
  · show x.1 < (s.now.set m L).length ∧ _
    rw [hlen]
    rcases List.mem_append.1 hx with hx | hx
    · exact h.wr x hx
    · rw [List.mem_singleton.1 hx]; exact ⟨hm, hL⟩
set_option maxRecDepth 100000 in
theorem RWrite {base : Nat} {w : World} {q : QV} {s : DS} (h : Rd base w q s) (hm : s.opn.length < 1000000) (n : Int) (t : ByteArray) (hts : t.size ≤ maxLen) :
    Calls Try.prog 17 #[ptr q.Q, .int .i64 n, .string t] w fun e w' => e = .returned (.int .i64 (writeR s n t).2) ∧ RGoes base w w' q s (writeR s n t).1 := by
  have HD := hid h
  obtain ⟨c0, -, -, -, -, f⟩ := h.cells
  obtain ⟨A, cp, hv⟩ := own_cases (h.ob.own (q.rN s) (by simp))
  replace hv : q.vN = .slice A s.now.length cp := hv
  rw [hv] at c0
  have HV := hid hv
  have hts2 : (t.size : Int) ≤ 9223372036854775807 := by unfold maxLen at hts; omega
  unfold ptr
  clear f h hv hts
  by_cases h1 : 0 ≤ n ∧ n < (s.now.length : Int)
  · have d1 : decide (n < 0) = false := decide_eq_false (by omega)
    have d2 : decide ((s.now.length : Int) ≤ n) = false := decide_eq_false (by omega)
    by_cases h2 : t.size ≤ 64
    · have d3 : decide (64 < (t.size : Int)) = false := decide_eq_false (by omega)
      by_cases h3 : s.fuse = some 0
      · have hw := writeR_down s n t h1 h2 h3
        have hbl : blS s = s := by unfold blS; rw [if_pos h3]
        have HW := hid hw
        have HBL := hid hbl
        have HZ := hid (show isZ s.fuse = true by rw [h3]; rfl)
        clear h1 h2 h3 hw hbl
        go_enter Try.func17, Try.ntmps17
        go_wp2_with (go_at_call 28; refine (blown_calls HD.out).mono ?_; rintro e w1 ⟨rfl, hg⟩; rw [HZ.out]; have HG := hid hg; clear hg)
        go_ret
        rw [HBL.out] at HG
        exact ⟨by rw [HW.out]; rfl, by rw [HW.out]; exact HG.out⟩
      · have hw := writeR_good s n t h1 h2 h3
        have HW := hid hw
        have HZ := hid (isZ_false h3)
        have HP := hid (pad_str t h2)
        have H1 := hid h1
        have H2 := hid h2
        clear hw h3
        go_enter Try.func17, Try.ntmps17
        go_wp2_with fail
        go_at_call 28
        refine (blown_calls HD.out).mono ?_
        rintro e w1 ⟨rfl, q1, e1, hd1, ho1, hf1⟩
        rw [HZ.out]
        obtain ⟨S, hS⟩ : ∃ S, S = blS s := ⟨_, rfl⟩
        rw [← hS] at hd1 hf1
        have HS := hid hS
        have eb : S.now.length = s.now.length := by rw [hS]; unfold blS; split <;> rfl
        have hso : S.opn.length = s.opn.length := by rw [hS]; unfold blS; split <;> rfl
        have HM := hid (show (atC S.opn).length < 1000000 by rw [atC_len]; omega)
        have HMO := hid (show (opC S.opn).length < 1000000 by rw [opC_len]; omega)
        obtain ⟨Q1, vN, vS, vA, vO⟩ := q1
        simp only at e1
        subst e1
        have hrp := hd1.rp
        obtain ⟨gN, cN, rfl, hbN, hgN⟩ := hrp.ownN.form (by rw [strC_len]; have := H1.out; omega)
        obtain ⟨m, rfl⟩ : ∃ m : Nat, n = (m : Int) := ⟨n.toNat, by have := H1.out; omega⟩
        have hml : m < (strC S.now).length := by rw [strC_len]; have := H1.out; omega
        have x0 : (w1.cell? ⟨gN, m, none⟩).isSome = true := by
          rw [World.ownsRow.cellAt hrp.ownN m (by omega), List.getElem?_eq_getElem hml]; rfl
        obtain ⟨y0, x0⟩ := Option.isSome_iff_exists.1 x0
        have x1 : w1.frozen? ⟨gN, m, none⟩ = false := World.ownsRow.frozenAt hrp.ownN m
        have p1 : (0 ≤ (m : Int)) = True := eq_true (by omega)
        have p2 : ((m : Int) < ((strC S.now).length : Int)) = True := eq_true (by omega)
        obtain ⟨c0, -, -, -, -, -⟩ := hrp.cells
        have HST := hid (hrp.setN rfl m (.string (B (padS t))))
        have HHD := hid hd1
        have HML := hid (show m < S.now.length by rw [strC_len] at hml; exact hml)
        have HO1 := hid ho1
        have HF1 := hid hf1
        have hz : (B z64).size = 64 := by rw [B_size]; rfl
        have h2' : (t.size : Int) ≤ 64 := by have := H2.out; omega
        clear hrp hbN hgN hd1 ho1 hf1 h1 h2 eb hml hS hso
        go_upto_region 8 with (go_at_call 27; refine (zero_calls w1).mono ?_; rintro e w2 ⟨rfl, rfl⟩)
        have hp : t ++ (B z64).extract t.size 64 = B (padS t) := by rw [← hz]; exact HP.out
        rw [hp]
        clear hp hz
        go_upto_region 9 with (fail)
        obtain ⟨W3, hW3⟩ : ∃ W3, W3 = w2.setCell ⟨gN, m, none⟩ (.string (B (padS t))) := ⟨_, rfl⟩
        rw [← hW3] at HST ⊢
        obtain ⟨-, -, k2, -, -, f2⟩ := HST.out.cells
        obtain ⟨ti, hti, htz, hts, htb⟩ := info_three info3
        have HTI := hid (And.intro hti (And.intro htz (And.intro hts htb)))
        clear x0 x1 c0 hW3 hti htz hts htb
        go_upto_region 10 with (at_builtin; refine wpList_append_lies _ rfl (.tmp 40) (.tmp 42) 52 rfl base 3 ti _ 1 8 Try.underlying52 HTI.out.1 HTI.out.2.1 HTI.out.2.2.1 HTI.out.2.2.2 rfl (by decide) vA (atC S.opn).length _ rfl (HST.out.ownA.alloc _) ⟨W3.heap.size, 0, none⟩ 1 1 [.int .i64 (m : Int)] rfl rfl (World.news_of_block (heap_alloc_new W3 _)) (one_int _) (by decide) (by have := HM.out; unfold maxLen; omega) (by have := HM.out; omega) (by have := HST.out.baseW; simp; omega) (W3.heap.size + 1) (by simp) ?_; intro g4 cap4 W4 hown4 hgrow4 hat4 hgl4; have HST4 := hid (HST.out.appA hown4 hgrow4 hat4); have k4 := ((HST.out.mid (v := vA) (by simp) hgrow4).1 2).trans k2; have f4 := (HST.out.mid (v := vA) (by simp) hgrow4).2 2; clear hown4 hgrow4 hat4 hgl4)
        obtain ⟨W5, hW5⟩ : ∃ W5, W5 = W4.setCell ⟨q.Q, 2, none⟩ (.slice (some ⟨g4, 0, none⟩) ((atC S.opn).length + 1) cap4) := ⟨_, rfl⟩
        rw [← hW5] at HST4 ⊢
        obtain ⟨-, -, -, k3, -, f3⟩ := HST4.out.cells
        replace k3 : W5.cell? ⟨q.Q, 3, none⟩ = some vO := k3
        replace f3 : ∀ j, W5.frozen? ⟨q.Q, j, none⟩ = false := f3
        have f33 := f3 3
        obtain ⟨tj, htj, hjz, hjs, hjb⟩ := info_three info9
        have HTJ := hid (And.intro htj (And.intro hjz (And.intro hjs hjb)))
        clear k4 f4 k2 f2 hW5 htj hjz hjs hjb f3
        go_wp2_with (at_builtin; refine wpList_append_lies _ rfl (.tmp 50) (.tmp 52) 51 rfl base 9 tj _ 1 16 Try.underlying51 HTJ.out.1 HTJ.out.2.1 HTJ.out.2.2.1 HTJ.out.2.2.2 rfl (by decide) vO (opC S.opn).length _ rfl (HST4.out.ownO.alloc _) ⟨W5.heap.size, 0, none⟩ 1 1 [.string (B (padS t))] rfl rfl (World.news_of_block (heap_alloc_new W5 _)) (one_str _) (by decide) (by have := HMO.out; unfold maxLen; omega) (by have := HMO.out; omega) (by have := HST4.out.baseW; simp; omega) (W5.heap.size + 1) (by simp) ?_; intro g6 cap6 W6 hown6 hgrow6 hat6 hgl6; have HST6 := hid (HST4.out.appO hown6 hgrow6 hat6); have k6 := ((HST4.out.mid (v := vO) (by simp) hgrow6).1 3).trans k3; have f6 := (HST4.out.mid (v := vO) (by simp) hgrow6).2 3; clear hown6 hgrow6 hat6 hgl6)
        go_ret
        refine ⟨by rw [HW.out]; rfl, ?_⟩
        rw [HW.out, ← HS.out]
        exact RGoes.trans (q1 := ⟨q.Q, .slice (some ⟨gN, 0, none⟩) (strC S.now).length cN, vS, vA, vO⟩) rfl HO1.out HF1.out (HHD.out.written HML.out (padS_length t) HST6.out rfl)
    · have d3 : decide (64 < (t.size : Int)) = true := decide_eq_true (by omega)
      have HW := hid (writeR_long s n t h1 h2)
      clear h1 h2
      go_enter Try.func17, Try.ntmps17
      go_wp2
      go_ret
      exact ⟨by rw [HW.out]; rfl, by rw [HW.out]; exact RGoes.refl HD.out⟩
  · have HW := hid (writeR_bad s n t h1)
    by_cases h2 : n < 0
    · have d1 : decide (n < 0) = true := decide_eq_true h2
      clear h1 h2
      go_enter Try.func17, Try.ntmps17
      go_wp2
      go_ret
      exact ⟨by rw [HW.out]; rfl, by rw [HW.out]; exact RGoes.refl HD.out⟩
    · have d1 : decide (n < 0) = false := decide_eq_false h2
      have d2 : decide ((s.now.length : Int) ≤ n) = true := decide_eq_true (by omega)
      clear h1 h2
      go_enter Try.func17, Try.ntmps17
      go_wp2
      go_ret
      exact ⟨by rw [HW.out]; rfl, by rw [HW.out]; exact RGoes.refl HD.out⟩
end Go.Proofs.Ytlafanbilodafaa
