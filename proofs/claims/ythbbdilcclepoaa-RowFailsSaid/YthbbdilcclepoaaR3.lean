/- A row is opened. -/
import Derived.Test.YthbbdilcclepoaaR2
import Derived.Test.YthbbdilcclepoaaRQ
import Derived.Test.YthbbdilcclepoaaQ2
import Derived.Deep.LoopGhost
set_option maxRecDepth 100000
set_option linter.unusedVariables false
set_option linter.unusedSimpArgs false
namespace Go.Proofs.Ythbbdilcclepoaa
open Go Go.RowKit Go.Proofs.Ythbbdilcclepoaa.Q Go.Proofs.Ythbbdilcclepoaa.Pure Go.Proofs.YthbbdilcclepoaaW.PrintWords Go.Proofs.YthbbdilcclepoaaW.PrintLast Go.Proofs.YthbbdilcclepoaaW.PrintMore
attribute [local go_sem] Oper.semAt_some max2_int min2_int max_two min_two max_three min_three max_four min_four
/-- The row of some sectors. -/
def openRS (s : DS) (fr mn : Nat) : RS := ⟨fr, mn, (rowT (rowSec s fr mn)).texts, (rowT (rowSec s fr mn)).first, topL (rowSec s fr mn) 0, (rowT (rowSec s fr mn)).en, false⟩
/-- Under way: the row's struct with its texts, and the sectors. -/
structure Opg (w w' : World) (R D : Nat) (lv : Value) (L : List ByteArray) (fr mn top : Nat) (st : TS) (tv : Value) : Prop where
  ob : Ob w.heap.size w' R 75 (RS.cs ⟨fr, mn, st.texts, st.first, top, st.en, false⟩ D tv) [⟨tv, 9, 1, st.texts.length, strV st.texts⟩, ⟨lv, 9, 1, L.length, strV L⟩]
  only : Only [] w w'
theorem Opg.cells {w w' : World} {R D : Nat} {lv : Value} {L : List ByteArray} {fr mn top : Nat} {st : TS} {tv : Value} (h : Opg w w' R D lv L fr mn top st tv) :
    w'.cell? ⟨R, 3, none⟩ = some tv ∧ w'.cell? ⟨R, 4, none⟩ = some (.int .u64 (st.first : Int)) ∧ w'.cell? ⟨R, 6, none⟩ = some (.int .i64 (st.en : Int)) ∧ ∀ j, w'.frozen? ⟨R, j, none⟩ = false :=
  ⟨h.ob.cell 3, h.ob.cell 4, h.ob.cell 6, h.ob.free⟩
theorem Only.on {w w1 w2 : World} {fp : List Nat} (h : Only [] w w1) (h2 : Only fp w1 w2) (hf : ∀ k ∈ fp, w.heap.size ≤ k) : Only [] w w2 := h.trans h2 (fun k hk hl => by have := hf k hk; omega)
theorem Opg.new {w w' w2 : World} {R D : Nat} {lv : Value} {L : List ByteArray} {fr mn top : Nat} {st : TS} {tv : Value} (h : Opg w w' R D lv L fr mn top st tv) (ho : Only [] w' w2) : Opg w w2 R D lv L fr mn top st tv := ⟨h.ob.new ho, h.only.trans ho (fun _ h _ => h)⟩
theorem openRS_eq (s : DS) (fr mn : Nat) (L : List ByteArray) (st : TS) (hL : L = rowSec s fr mn) (hf : rowT L = st) : openRS s fr mn = ⟨fr, mn, st.texts, st.first, topL L 0, st.en, false⟩ := by unfold openRS; rw [← hL, hf]
theorem Opg.fp_ge {w w' : World} {R D : Nat} {lv : Value} {L : List ByteArray} {fr mn top : Nat} {st : TS} {tv : Value} (h : Opg w w' R D lv L fr mn top st tv) : ∀ k ∈ obFp R [⟨tv, 9, 1, st.texts.length, strV st.texts⟩, ⟨lv, 9, 1, L.length, strV L⟩], w.heap.size ≤ k := fun k hk => (h.ob.fp_lt k hk).1
def boxO (D fr mn : Nat) : Obj := .cells #[ptr D, .int .i64 (fr : Int), .int .i64 (mn : Int), .slice none 0 0, .int .u64 0, .int .u64 0, .int .i64 0, .bool false] 75
theorem boxO_free {w : World} {R D fr mn : Nat} (h : w.heap[R]? = some (boxO D fr mn)) (j : Nat) : w.frozen? ⟨R, j, none⟩ = false := frozen_of_row w _ _ _ _ h
theorem boxO_c5 {w : World} {R D fr mn : Nat} (h : w.heap[R]? = some (boxO D fr mn)) : w.cell? ⟨R, 5, none⟩ = some (.int .u64 0) := cell_of_row w _ _ _ _ _ h
theorem Rw.boxed {w0 w : World} {l : List (Nat × DS)} {F : List Nat} {i D : Nat} {s : DS} (h : Dr w0 w l F) (hi : l[i]? = some (D, s)) (fr mn : Nat) (hb : fr + mn ≤ 4096) :
    Rw w0 (w.alloc (boxO D fr mn)) l (w.heap.size :: F) i D s w.heap.size (.slice none 0 0) ⟨fr, mn, [], 0, 0, 0, false⟩ := by
  have hsz : (w.alloc (boxO D fr mn)).heap.size = w.heap.size + 1 := by simp
  refine ⟨h.grow [] _ (Only.alloc _ _ _) (by simp) (fun k hk => ?_), hi, ⟨⟨h.below.size, heap_alloc_new w _, fun r hr => ?_, by simp [obFp, RS.rows, RowV.fp, Value.ownBlock]⟩, ⟨hb, Nat.zero_le _, Nat.le_refl _⟩, (by show 0 < 18446744073709551616; decide), (by show 0 < 18446744073709551616; decide)⟩, fun k hk => ?_⟩
  · rcases List.mem_cons.1 hk with rfl | hk
    · exact .inr ⟨Nat.le_refl _, by rw [hsz]; omega⟩
    · exact .inl hk
  · simp only [RS.rows, List.mem_singleton] at hr
    rw [hr]
    exact World.ownsRow_nil _ _ _ _
  · simp only [rwFp, Value.ownBlock, Option.toList_none, List.mem_singleton] at hk
    rw [hk]; simp
theorem ownsRow_weaken {W : World} {b b' : Nat} {e : TypeId} {size : Nat} {v : Value} {n : Nat} {xs : List Value} (hw : W.ownsRow b e size v n xs) (hb : b' ≤ b) : W.ownsRow b' e size v n xs := by
  refine ⟨hw.1, ?_⟩
  rcases hw.2 with h1 | ⟨g, cap, cur, h1, h2, h3⟩
  · exact .inl h1
  · exact .inr ⟨g, cap, cur, h1, Nat.le_trans hb h2, h3⟩
theorem opt_nodup (o : Option Nat) : o.toList.Nodup := by cases o <;> simp
theorem Opg.start {w w3 w4 : World} {D fr mn top : Nat} {L : List ByteArray} {v : Value} (ho : Only [] (w.alloc (boxO D fr mn)) w3) (hr : w3.ownsRow (w.alloc (boxO D fr mn)).heap.size 9 1 v L.length (strV L)) (ho4 : Only [] w3 w4) :
    Opg w (w4.setCell ⟨w.heap.size, 5, none⟩ (.int .u64 (top : Int))) w.heap.size D v L fr mn top st0 (.slice none 0 0) := by
  have hsz : (w.alloc (boxO D fr mn)).heap.size = w.heap.size + 1 := by simp
  have hb3 : w3.heap[w.heap.size]? = some (boxO D fr mn) := (ho.block _ (by rw [hsz]; omega) (by simp)).trans (heap_alloc_new w _)
  have hb4 : w4.heap[w.heap.size]? = some (boxO D fr mn) := (ho4.block _ (by have := ho.size; omega) (by simp)).trans hb3
  have ob4 : Ob w.heap.size w4 w.heap.size 75 (RS.cs ⟨fr, mn, [], 0, 0, 0, false⟩ D (.slice none 0 0)) [⟨.slice none 0 0, 9, 1, 0, []⟩, ⟨v, 9, 1, L.length, strV L⟩] := by
    refine ⟨Nat.le_refl _, hb4, fun r hr' => ?_, ?_⟩
    · rcases List.mem_cons.1 hr' with rfl | hr'
      · exact World.ownsRow_nil _ _ _ _
      · rw [List.mem_singleton.1 hr']
        exact ownsRow_kept (ownsRow_weaken hr (by rw [hsz]; omega)) ho4 (by simp)
    · simp only [obFp, List.flatMap_cons, List.flatMap_nil, RowV.fp, Value.ownBlock, Option.toList_none, List.nil_append, List.append_nil]
      refine List.nodup_cons.2 ⟨fun hk => ?_, opt_nodup _⟩
      have := (ownsRow_lt hr hk).1
      omega
  have h5 := ob4.set 5 (.int .u64 (top : Int))
  refine ⟨h5.1, ?_⟩
  exact ((Only.alloc [] w (boxO D fr mn)).trans (ho.trans ho4 (fun _ h _ => h)) (fun _ h _ => h)).on h5.2 (fun k hk => by rw [List.mem_singleton.1 hk]; exact Nat.le_refl _)
theorem Mid.app {w W1 W4 : World} {R : Nat} {cs : Array Value} {tv u : Value} {n g cap : Nat} {xs : List Value} {lvr : RowV} {ob : Obj} (h1 : Ob w.heap.size W1 R 75 cs [⟨tv, 9, 1, n, xs⟩, lvr]) (ho : Only [] w W1)
    (hown : W4.ownsRow w.heap.size 9 1 (.slice (some ⟨g, 0, none⟩) (n + 1) cap) (n + 1) (xs ++ [u])) (hg : (W1.alloc ob).grownBy W4 tv.ownBlock) (hat : tv.ownBlock = some g ∨ g = W1.heap.size + 1) :
    Ob w.heap.size W4 R 75 cs [⟨.slice (some ⟨g, 0, none⟩) (n + 1) cap, 9, 1, n + 1, xs ++ [u]⟩, lvr] ∧ Only [] w W4 := by
  have a := Ob.appended (a := []) (b := [lvr]) h1 hown hg hat
  exact ⟨a.1, ho.on a.2.1 (fun k hk => (h1.fp_lt k hk).1)⟩
theorem Opg.first {w w' : World} {R D : Nat} {lv : Value} {L : List ByteArray} {fr mn top : Nat} {st : TS} {tv : Value} (h : Opg w w' R D lv L fr mn top st tv) (n : Nat) (h0 : st.last = 0) :
    Ob w.heap.size (w'.setCell ⟨R, 4, none⟩ (.int .u64 (n : Int))) R 75 (RS.cs ⟨fr, mn, st.texts, if st.last = 0 then n else st.first, top, st.en, false⟩ D tv) [⟨tv, 9, 1, st.texts.length, strV st.texts⟩, ⟨lv, 9, 1, L.length, strV L⟩] ∧ Only [] w (w'.setCell ⟨R, 4, none⟩ (.int .u64 (n : Int))) := by
  have h2 := h.ob.set 4 (.int .u64 (n : Int))
  rw [if_pos h0]
  exact ⟨h2.1, h.only.on h2.2 (fun k hk => by rw [List.mem_singleton.1 hk]; exact h.ob.hO)⟩
theorem Opg.fin {w W4 : World} {R D g cap : Nat} {lv : Value} {L : List ByteArray} {fr mn top n : Nat} {S : List UInt8} {st : TS} {tv : Value}
    (h : Ob w.heap.size W4 R 75 (RS.cs ⟨fr, mn, st.texts, if st.last = 0 then n else st.first, top, st.en, false⟩ D tv) [⟨.slice (some ⟨g, 0, none⟩) (st.texts.length + 1) cap, 9, 1, st.texts.length + 1, strV st.texts ++ [.string (B S)]⟩, ⟨lv, 9, 1, L.length, strV L⟩]) (ho : Only [] w W4) :
    Opg w ((W4.setCell ⟨R, 3, none⟩ (.slice (some ⟨g, 0, none⟩) (st.texts.length + 1) cap)).setCell ⟨R, 6, none⟩ (.int .i64 ((st.en + nP (txt S) : Nat) : Int))) R D lv L fr mn top (st.add n S) (.slice (some ⟨g, 0, none⟩) (st.texts.length + 1) cap) := by
  have h2 := h.set 3 (.slice (some ⟨g, 0, none⟩) (st.texts.length + 1) cap)
  have h3 := h2.1.set 6 (.int .i64 ((st.en + nP (txt S) : Nat) : Int))
  refine ⟨?_, (ho.on h2.2 (fun k hk => by rw [List.mem_singleton.1 hk]; exact h.hO)).on h3.2 (fun k hk => by rw [List.mem_singleton.1 hk]; exact h.hO)⟩
  have e1 : (st.add n S).texts.length = st.texts.length + 1 := by show (st.texts ++ [B S]).length = _; rw [List.length_append, List.length_singleton]
  have e2 : strV (st.add n S).texts = strV st.texts ++ [.string (B S)] := strV_snoc _ _
  rw [e1, e2]
  exact h3.1
theorem Opg.done {w w' : World} {R D : Nat} {lv : Value} {L : List ByteArray} {fr mn : Nat} {st : TS} {tv : Value} (h : Opg w w' R D lv L fr mn (topL L 0) st tv) (hk : TSok L st) (hm : L.length = mn) (hb : fr + mn ≤ 4096) :
    Only [] w w' ∧ RowAt w.heap.size w' R D tv ⟨fr, mn, st.texts, st.first, topL L 0, st.en, false⟩ := by
  refine ⟨h.only, ⟨h.ob.hO, h.ob.obj, fun r hr => ?_, ?_⟩, ⟨hb, by rw [← hm]; exact hk.en, hk.texts⟩, hk.first, topL_lt L 0 (by decide)⟩
  · simp only [RS.rows, List.mem_singleton] at hr
    rw [hr]
    exact h.ob.own _ (by simp)
  · have hn := h.ob.nd
    simp only [obFp, RS.rows, List.flatMap_cons, List.flatMap_nil, List.append_nil] at hn ⊢
    rw [← List.cons_append] at hn
    exact (List.nodup_append.1 hn).1
set_option maxHeartbeats 1000000 in
theorem Open_ok {w0 w : World} {l : List (Nat × DS)} {F : List Nat} {i D : Nat} {s : DS} (h : Dr w0 w l F) (hi : l[i]? = some (D, s)) (fr mn : Nat) (h1 : 1 ≤ mn) (h2 : fr + mn ≤ s.now.length) (h3 : s.now.length ≤ 4096) :
    Calls Try.prog 8 #[ptr D, .int .i64 (fr : Int), .int .i64 (mn : Int)] w fun e w' => ∃ R tv, e = .returned (.tuple #[ptr R, .int .i64 0]) ∧ Only [] w w' ∧ RowAt w.heap.size w' R D tv (openRS s fr mn) := by
  have HS := hid (h.size hi)
  have HDR := hid (And.intro h hi)
  have c0 : ((s.now.length : Int) == 0) = false := by rw [beq_eq_false_iff_ne]; omega
  have c1 : decide ((fr : Int) < 0) = false := decide_eq_false (by omega)
  have c2 : decide ((mn : Int) < 1) = false := decide_eq_false (by omega)
  have c3 : decide ((s.now.length : Int) < (fr : Int)) = false := decide_eq_false (by omega)
  have c4 : decide ((s.now.length : Int) - (fr : Int) < (mn : Int)) = false := decide_eq_false (by omega)
  obtain ⟨L, hL⟩ : ∃ L, L = rowSec s fr mn := ⟨_, rfl⟩
  have hLl : L.length = mn := by rw [hL, rowSec_len]
  have HL := hid hL
  have HLL := hid hLl
  have HB := hid (And.intro h1 (And.intro h2 h3))
  have hb4 : fr + mn ≤ 4096 := by omega
  unfold ptr at *
  clear h hi hL hLl
  go_enter Try.func8, Try.ntmps8
  go_wp2_with (go_at_call 21; refine HS.out.mono ?_; rintro e w' ⟨rfl, rfl⟩)
  go_step3
  go_wp2_with (go_at_call 21; refine HS.out.mono ?_; rintro e w' ⟨rfl, rfl⟩)
  refine (Row_sectors (Rw.boxed HDR.out.1 HDR.out.2 fr mn hb4)).mono ?_
  rintro e w3 ⟨v, rfl, hown, hob⟩
  rw [show rowSec s (RS.fr ⟨fr, mn, [], 0, 0, 0, false⟩) (RS.mn ⟨fr, mn, [], 0, 0, 0, false⟩) = L from HL.out.symm, show (RS.mn ⟨fr, mn, [], 0, 0, 0, false⟩) = L.length from HLL.out.symm] at hown
  obtain ⟨A, c, rfl, hc, hC⟩ := own_C_str hown
  have HO3 := hid hown
  have HB3 := hid hob
  have HC3 := hid hC
  have HCC := hid hc
  have hT := Top_f (L.length + 1) L (by have := HLL.out; omega) (by omega)
  have HT := hid hT
  have hR3 := (hob.block w'.heap.size (by simp) (by simp)).trans (heap_alloc_new w' _)
  clear hown hob hC hc hT
  go_wp2_with (go_at_call 33; refine (sheaf_Top.calls (L.length + 1) A c L _ w3 HC3.out HCC.out HT.out).mono ?_; rintro e w4 ⟨rfl, hb4'⟩; have HB4 := hid (Only.of_below (fp := []) hb4'); have hR4 := (hb4'.block _ (Array.getElem?_eq_some_iff.1 hR3).1).trans hR3; have f5 := boxO_free hR4 5; have k5 := boxO_c5 hR4; clear hb4')
  have HG0 := hid (Opg.start (top := topL L 0) HB3.out HO3.out HB4.out)
  clear hR3 hR4 HB3 HO3 HC3 HT f5 k5 HB4 c0 c1 c2 c3 c4
  go_step3
  go_wp2_with fail
  go_loopg [10] mn (fun kq v10 wr => ∃ (st : TS) (tv : Value), v10 = .int .u64 (st.last : Int) ∧ Aside0 (openL L st = rowT L) ∧ Aside0 (TSok L st) ∧ Aside0 (kq + st.en = mn) ∧ Aside0 (Opg w' wr w'.heap.size D (.slice A L.length c) L fr mn (topL L 0) st tv))
  case atStart => exact ⟨st0, .slice none 0 0, rfl, ⟨rfl⟩, ⟨st0_ok L⟩, ⟨rfl⟩, ⟨HG0.out⟩⟩
  case round =>
    obtain ⟨st, tv, rfl, HE, HK, HQ, HG⟩ := hrel
    clear HG0
    obtain ⟨k3, k4, k6, f⟩ := HG.out.cells
    have f3 := f 3
    have f4 := f 4
    have f6 := f 6
    have hlv := HG.out.ob.own ⟨.slice A L.length c, 9, 1, L.length, strV L⟩ (by simp)
    obtain ⟨A2, c2, hAc, hcc2, hCr⟩ := own_C_str hlv
    injection hAc with q1 q2 q3
    subst q1 q3
    obtain ⟨i06, hi06, _, hsz6, _⟩ := info_parts info9
    have hen : (st.en : Int) ≤ (L.length : Int) := by have := HK.out.en; omega
    obtain ⟨A6, hcut6, hA6, hC6⟩ := print_drop_of (P := Try.prog) Value.string (⟨#[]⟩ : ByteArray) 22 9 .i64 Try.underlying22 hi06 hsz6 A c L (st.en : Int) (by omega) hen HCC.out
    have HR6 := hid (Kd.C_of_reads (h1 := fun _ => rfl) (hA6 _ (Kd.reads_of_C hCr)))
    have HC6 := hid hC6
    rw [Int.toNat_natCast] at HR6 HC6 hcut6
    clear f hA6 hC6 hi06 hsz6 hlv hcc2 hCr hen
    rcases getP_cases (L.drop st.en) with ⟨n, S, hn0, hn, hS, hp, hget, hgp⟩ | ⟨hget, hgp⟩
    · have HGET := hid hget
      have HCALL : Calls Try.prog 34 #[.slice A6 (L.length - st.en) (c - st.en)] wr fun e w' => e = .returned (.tuple #[.int .u64 (n : Int), .string (B S), .int .i64 ((nP (txt S) : Nat) : Int), .bool true]) ∧ Only [] wr w' := by
        have := sheaf_Get.calls A6 _ (L.drop st.en) _ _ _ _ wr HR6.out HC6.out HGET.out
        rw [List.length_drop] at this
        exact this.mono fun e w' ⟨he, hb⟩ => ⟨he, Only.of_below hb⟩
      have HGP := hid hgp
      have hs := openL_some hgp
      have HGL := hid (getP_len hgp)
      have HOK2 := hid (HK.out.add hgp)
      clear hget hgp hp hS hn
      by_cases hc : st.last < n
      · have d1 : decide ((n : Int) ≤ (st.last : Int)) = false := decide_eq_false (by omega)
        have d2 : decide (n ≤ st.last) = false := decide_eq_false (by omega)
        rw [if_pos hc, HE.out] at hs
        have HE2 := hid hs.symm
        clear hc hs
        by_cases h0 : st.last = 0
        · have e0 : ((st.last : Int) == 0) = true := by rw [beq_iff_eq]; omega
          have e1 : (st.last == 0) = true := by rw [beq_iff_eq]; omega
          have HL0 := hid h0
          clear h0
          go_wp2_with fail
          refine HCALL.mono ?_
          rintro e w6 ⟨rfl, ho5⟩
          have HG5 := hid (HG.out.new ho5)
          obtain ⟨k3, k4, k6, f⟩ := HG5.out.cells
          have f4 := f 4
          clear ho5 f HG k3 k6 f3 f6
          go_upto_region 13 with (fail)
          obtain ⟨w5, hw5⟩ : ∃ w5, w5 = w6.setCell ⟨w'.heap.size, 4, none⟩ (.int .u64 (n : Int)) := ⟨_, rfl⟩
          have hOB := HG5.out.first n HL0.out
          rw [← hw5] at hOB ⊢
          have HOB := hid hOB.1
          have HO5 := hid hOB.2
          have k3 := HOB.out.cell 3
          have k6 := HOB.out.cell 6
          replace k3 : w5.cell? ⟨w'.heap.size, 3, none⟩ = some tv := k3
          replace k6 : w5.cell? ⟨w'.heap.size, 6, none⟩ = some (.int .i64 (st.en : Int)) := k6
          have f3 := HOB.out.free 3
          have f6 := HOB.out.free 6
          clear hw5 hOB k4 f4
          have HTX := hid (HOB.out.own ⟨tv, 9, 1, st.texts.length, strV st.texts⟩ (by simp))
          have HTB := hid (show st.texts.length ≤ 4096 by have := HK.out.texts; have := HK.out.en; have := HLL.out; omega)
          obtain ⟨tj, htj, hjz, hjs, hjb⟩ := info_three Q.info9
          have HTJ := hid (And.intro htj (And.intro hjz (And.intro hjs hjb)))
          have hb6 : st.en + nP (txt S) ≤ 4096 := by have h := HGL.out.2; rw [List.length_drop] at h; have := HK.out.en; have := HLL.out; omega
          clear htj hjz hjs hjb
          go_wp2_with (at_builtin; refine wpList_append_lies _ rfl (.tmp 84) (.tmp 86) 22 rfl w'.heap.size 9 tj _ 1 16 Try.underlying22 HTJ.out.1 HTJ.out.2.1 HTJ.out.2.2.1 HTJ.out.2.2.2 rfl (by decide) tv st.texts.length (strV st.texts) rfl (HTX.out.alloc _) ⟨w5.heap.size, 0, none⟩ 1 1 [.string (B S)] rfl rfl (World.news_of_block (heap_alloc_new w5 _)) (one_str _) (by decide) (by have := HTB.out; unfold maxLen; omega) (by have := HTB.out; omega) (by have := HO5.out.size; simp; omega) (w5.heap.size + 1) (by simp) ?_; intro g cap W4 hown hgrow hat hgl; have HM := hid (Mid.app HOB.out HO5.out hown hgrow hat); have k3 := HM.out.1.cell 3; have f3 := HM.out.1.free 3; have k6 := HM.out.1.cell 6; have f6 := HM.out.1.free 6; replace k3 : W4.cell? ⟨w'.heap.size, 3, none⟩ = some tv := k3; replace k6 : W4.cell? ⟨w'.heap.size, 6, none⟩ = some (.int .i64 (st.en : Int)) := k6; clear hown hgrow hat hgl)
          have HFIN := hid (Opg.fin HM.out.1 HM.out.2)
          go_roundg (gk - nP (txt S))
          case measure => have := HGL.out.1; have := HQ.out; have h := HGL.out.2; rw [List.length_drop] at h; have := HLL.out; omega
          case rel => exact ⟨_, _, rfl, ⟨HE2.out⟩, ⟨HOK2.out⟩, ⟨by show gk - nP (txt S) + (st.en + nP (txt S)) = mn; have := HQ.out; have h := HGL.out.2; rw [List.length_drop] at h; have := HLL.out; omega⟩, ⟨HFIN.out⟩⟩
        · have e0 : ((st.last : Int) == 0) = false := by rw [beq_eq_false_iff_ne]; omega
          have e1 : (st.last == 0) = false := by rw [beq_eq_false_iff_ne]; omega
          have HL0 := hid h0
          clear h0
          go_wp2_with fail
          refine HCALL.mono ?_
          rintro e w5 ⟨rfl, ho5⟩
          have HG5 := hid (HG.out.new ho5)
          have HO5 := hid HG5.out.only
          obtain ⟨k3, k4, k6, f⟩ := HG5.out.cells
          have f3 := f 3
          have f6 := f 6
          have HOB := hid (show Ob w'.heap.size w5 w'.heap.size 75 (RS.cs ⟨fr, mn, st.texts, if st.last = 0 then n else st.first, topL L 0, st.en, false⟩ D tv) [⟨tv, 9, 1, st.texts.length, strV st.texts⟩, ⟨.slice A L.length c, 9, 1, L.length, strV L⟩] by rw [if_neg HL0.out]; exact HG5.out.ob)
          clear ho5 f HG
          have HTX := hid (HOB.out.own ⟨tv, 9, 1, st.texts.length, strV st.texts⟩ (by simp))
          have HTB := hid (show st.texts.length ≤ 4096 by have := HK.out.texts; have := HK.out.en; have := HLL.out; omega)
          obtain ⟨tj, htj, hjz, hjs, hjb⟩ := info_three Q.info9
          have HTJ := hid (And.intro htj (And.intro hjz (And.intro hjs hjb)))
          have hb6 : st.en + nP (txt S) ≤ 4096 := by have h := HGL.out.2; rw [List.length_drop] at h; have := HK.out.en; have := HLL.out; omega
          clear htj hjz hjs hjb
          go_wp2_with (at_builtin; refine wpList_append_lies _ rfl (.tmp 84) (.tmp 86) 22 rfl w'.heap.size 9 tj _ 1 16 Try.underlying22 HTJ.out.1 HTJ.out.2.1 HTJ.out.2.2.1 HTJ.out.2.2.2 rfl (by decide) tv st.texts.length (strV st.texts) rfl (HTX.out.alloc _) ⟨w5.heap.size, 0, none⟩ 1 1 [.string (B S)] rfl rfl (World.news_of_block (heap_alloc_new w5 _)) (one_str _) (by decide) (by have := HTB.out; unfold maxLen; omega) (by have := HTB.out; omega) (by have := HO5.out.size; simp; omega) (w5.heap.size + 1) (by simp) ?_; intro g cap W4 hown hgrow hat hgl; have HM := hid (Mid.app HOB.out HO5.out hown hgrow hat); have k3 := HM.out.1.cell 3; have f3 := HM.out.1.free 3; have k6 := HM.out.1.cell 6; have f6 := HM.out.1.free 6; replace k3 : W4.cell? ⟨w'.heap.size, 3, none⟩ = some tv := k3; replace k6 : W4.cell? ⟨w'.heap.size, 6, none⟩ = some (.int .i64 (st.en : Int)) := k6; clear hown hgrow hat hgl)
          have HFIN := hid (Opg.fin HM.out.1 HM.out.2)
          go_roundg (gk - nP (txt S))
          case measure => have := HGL.out.1; have := HQ.out; have h := HGL.out.2; rw [List.length_drop] at h; have := HLL.out; omega
          case rel => exact ⟨_, _, rfl, ⟨HE2.out⟩, ⟨HOK2.out⟩, ⟨by show gk - nP (txt S) + (st.en + nP (txt S)) = mn; have := HQ.out; have h := HGL.out.2; rw [List.length_drop] at h; have := HLL.out; omega⟩, ⟨HFIN.out⟩⟩
      · have d1 : decide ((n : Int) ≤ (st.last : Int)) = true := decide_eq_true (by omega)
        have d2 : decide (n ≤ st.last) = true := decide_eq_true (by omega)
        rw [if_neg hc] at hs
        have HF := hid (show rowT L = st by rw [← HE.out]; exact hs)
        clear hs hc
        go_wp2_with fail
        refine HCALL.mono ?_
        rintro e w5 ⟨rfl, ho5⟩
        have HG5 := hid (HG.out.new ho5)
        clear ho5
        go_wp2_with fail
        try rw [Exit.noGoto_ret]
        go_ret2
        refine ⟨w'.heap.size, tv, rfl, ?_⟩
        rw [openRS_eq s fr mn L st HL.out HF.out]
        exact HG5.out.done HK.out HLL.out hb4
    · have HGET := hid hget
      have hfin : rowT L = st := by rw [← HE.out, openL_none hgp]
      have HF := hid hfin
      clear hget hgp hfin
      have HCALL : Calls Try.prog 34 #[.slice A6 (L.length - st.en) (c - st.en)] wr fun e w' => e = .returned (.tuple #[.int .u64 0, .string (B []), .int .i64 0, .bool false]) ∧ Only [] wr w' := by
        have := sheaf_Get.calls A6 _ (L.drop st.en) _ _ _ _ wr HR6.out HC6.out HGET.out
        rw [List.length_drop] at this
        exact this.mono fun e w' ⟨he, hb⟩ => ⟨he, Only.of_below hb⟩
      go_wp2_with fail
      refine HCALL.mono ?_
      rintro e w5 ⟨rfl, ho5⟩
      have HG5 := hid (HG.out.new ho5)
      clear ho5
      go_wp2_with fail
      try rw [Exit.noGoto_ret]
      go_ret2
      refine ⟨w'.heap.size, tv, rfl, ?_⟩
      rw [openRS_eq s fr mn L st HL.out HF.out]
      exact HG5.out.done HK.out HLL.out hb4
end Go.Proofs.Ythbbdilcclepoaa
