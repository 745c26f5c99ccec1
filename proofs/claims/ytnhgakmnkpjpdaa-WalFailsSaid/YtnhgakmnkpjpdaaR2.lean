import Derived.Test.YtnhgakmnkpjpdaaDA
import Derived.Test.YtnhgakmnkpjpdaaG4
import Derived.BigQuiet
import Derived.StillTailTactics
import Derived.Test.YtnhgakmnkpjpdaaRQ
import Derived.Test.YtnhgakmnkpjpdaaQ2
import Derived.Deep.LoopGhost
/- A row in memory: a struct with texts of its own, beside a drive. -/
set_option linter.unusedVariables false
set_option linter.unusedSimpArgs false
namespace Go.Proofs.Ytnhgakmnkpjpdaa
open Go Go.RowKit Go.Proofs.YtnhgakmnkpjpdaaW.PrintWords Go.Proofs.YtnhgakmnkpjpdaaW.PrintLast Go.Proofs.YtnhgakmnkpjpdaaW.PrintMore
def strV (l : List ByteArray) : List Value := l.map .string
theorem strV_len (l : List ByteArray) : (strV l).length = l.length := by unfold strV; rw [List.length_map]
theorem str_reps (xs : List ByteArray) : Reps (fun x cs => cs = [Value.string x]) 1 xs (strV xs) := by
  refine ⟨by rw [strV_len, Nat.mul_one], fun j p hj => ?_⟩
  have hlt := (List.getElem?_eq_some_iff.1 hj).1
  have e : (strV xs)[j]? = some (.string p) := by unfold strV; rw [List.getElem?_map, hj]; rfl
  rw [Nat.mul_one]
  have h2 := List.drop_eq_getElem_cons (l := strV xs) (i := j) (by rw [strV_len]; exact hlt)
  rw [h2, List.take_succ_cons, List.take_zero]
  rw [List.getElem?_eq_getElem (by rw [strV_len]; exact hlt)] at e
  rw [Option.some.inj e]
theorem reps_str {xs : List ByteArray} {cs : List Value} (h : Reps (fun x cs => cs = [Value.string x]) 1 xs cs) : cs = strV xs := by
  refine List.ext_getElem? fun j => ?_
  by_cases hj : j < xs.length
  · have h1 := h.2 j _ (List.getElem?_eq_getElem hj)
    have hl : j < cs.length := by rw [h.1]; omega
    rw [Nat.mul_one, List.drop_eq_getElem_cons hl, List.take_succ_cons, List.take_zero] at h1
    rw [List.getElem?_eq_getElem hl]
    unfold strV
    rw [List.getElem?_map, List.getElem?_eq_getElem hj]
    simpa using h1
  · rw [List.getElem?_eq_none (by rw [h.1]; omega), List.getElem?_eq_none (by rw [strV_len]; omega)]
theorem R_own_str {w : World} {base : Nat} {ok : Nat → Prop} {v : Value} {xs : List ByteArray} (h : Kd.R Kd.string 9 w base ok v xs) : w.ownsRow base 9 1 v xs.length (strV xs) := by
  obtain ⟨-, inner, ho, hr⟩ := h
  rw [← reps_str hr]; exact ho
theorem own_R_str {w : World} {base : Nat} {v : Value} {xs : List ByteArray} (h : w.ownsRow base 9 1 v xs.length (strV xs)) : Kd.R Kd.string 9 w base (fun k => v.ownBlock = some k) v xs :=
  ⟨fun k hk => hk, _, h, str_reps xs⟩
theorem own_C_str {w : World} {base : Nat} {v : Value} {xs : List ByteArray} (h : w.ownsRow base 9 1 v xs.length (strV xs)) : ∃ A c, v = .slice A xs.length c ∧ xs.length ≤ c ∧ Kd.C Kd.string w A xs.length xs := Kd.R_reads (own_R_str h)
/-- A row's state: where it lies, its texts, its numbers. -/
structure RS where
  fr : Nat
  mn : Nat
  texts : List ByteArray
  first : Nat
  top : Nat
  en : Nat
  down : Bool
def RS.cs (r : RS) (D : Nat) (tv : Value) : Array Value := #[ptr D, .int .i64 (r.fr : Int), .int .i64 (r.mn : Int), tv, .int .u64 (r.first : Int), .int .u64 (r.top : Int), .int .i64 (r.en : Int), .bool r.down]
def RS.rows (r : RS) (tv : Value) : List RowV := [⟨tv, 9, 1, r.texts.length, strV r.texts⟩]
structure RowAt (base : Nat) (W : World) (R D : Nat) (tv : Value) (r : RS) : Prop where
  ob : Ob base W R 97 (r.cs D tv) (r.rows tv)
  lay : r.fr + r.mn ≤ 4096 ∧ r.en ≤ r.mn ∧ r.texts.length ≤ r.en
  num : r.first < 18446744073709551616 ∧ r.top < 18446744073709551616
def rwFp (R : Nat) (tv : Value) : List Nat := R :: tv.ownBlock.toList
theorem rwFp_eq (r : RS) (R : Nat) (tv : Value) : obFp R (r.rows tv) = rwFp R tv := by simp [obFp, RS.rows, RowV.fp, rwFp]
section
variable {base : Nat} {w w' : World} {R D : Nat} {tv : Value} {r : RS}
theorem RowAt.cells (h : RowAt base w R D tv r) :
    w.cell? ⟨R, 0, none⟩ = some (ptr D) ∧ w.cell? ⟨R, 1, none⟩ = some (.int .i64 (r.fr : Int)) ∧ w.cell? ⟨R, 2, none⟩ = some (.int .i64 (r.mn : Int)) ∧ w.cell? ⟨R, 3, none⟩ = some tv ∧
    w.cell? ⟨R, 4, none⟩ = some (.int .u64 (r.first : Int)) ∧ w.cell? ⟨R, 5, none⟩ = some (.int .u64 (r.top : Int)) ∧ w.cell? ⟨R, 6, none⟩ = some (.int .i64 (r.en : Int)) ∧ w.cell? ⟨R, 7, none⟩ = some (.bool r.down) ∧
    ∀ j, w.frozen? ⟨R, j, none⟩ = false :=
  ⟨h.ob.cell 0, h.ob.cell 1, h.ob.cell 2, h.ob.cell 3, h.ob.cell 4, h.ob.cell 5, h.ob.cell 6, h.ob.cell 7, h.ob.free⟩
theorem RowAt.fp_lt (h : RowAt base w R D tv r) : ∀ k ∈ rwFp R tv, base ≤ k ∧ k < w.heap.size := by
  intro k hk
  rw [← rwFp_eq r] at hk
  exact h.ob.fp_lt k hk
theorem RowAt.texts (h : RowAt base w R D tv r) : w.ownsRow base 9 1 tv r.texts.length (strV r.texts) := h.ob.own ⟨tv, 9, 1, r.texts.length, strV r.texts⟩ (by simp [RS.rows])
theorem RowAt.kept (h : RowAt base w R D tv r) {fp : List Nat} (ho : Only fp w w') (hd : ∀ k ∈ rwFp R tv, k ∉ fp) : RowAt base w' R D tv r := ⟨h.ob.kept ho (by rw [rwFp_eq]; exact hd), h.lay, h.num⟩
theorem RowAt.new (h : RowAt base w R D tv r) (ho : Only [] w w') : RowAt base w' R D tv r := h.kept ho (by simp)
theorem RowAt.same (h : RowAt base w R D tv r) (hs : ∀ k ∈ rwFp R tv, w'.heap[k]? = w.heap[k]?) : RowAt base w' R D tv r := ⟨h.ob.same (by rw [rwFp_eq]; exact hs), h.lay, h.num⟩
end
/-- Drives, and a row on one of them. -/
structure Rw (w0 w : World) (l : List (Nat × DS)) (F : List Nat) (i D : Nat) (s : DS) (R : Nat) (tv : Value) (r : RS) : Prop where
  dr : Dr w0 w l F
  hi : l[i]? = some (D, s)
  row : RowAt w0.heap.size w R D tv r
  fp : ∀ k ∈ rwFp R tv, k ∈ F
theorem Rw.new {w0 w w' : World} {l : List (Nat × DS)} {F : List Nat} {i D : Nat} {s : DS} {R : Nat} {tv : Value} {r : RS} (h : Rw w0 w l F i D s R tv r) (ho : Only [] w w') : Rw w0 w' l F i D s R tv r :=
  ⟨h.dr.new ho, h.hi, h.row.new ho, h.fp⟩
theorem Only.drewN (fp : List Nat) (w : World) (n : Nat) : Only fp w (w.drewN n) := ⟨rfl, rfl, rfl, Nat.le_refl _, fun _ _ _ => rfl⟩
theorem Rw.read {w0 w : World} {l : List (Nat × DS)} {F : List Nat} {i D : Nat} {s : DS} {R : Nat} {tv : Value} {r : RS} (h : Rw w0 w l F i D s R tv r) (n : Nat) (m : Int) :
    Calls Try.prog 10 #[.pointer (some ⟨D, 0, none⟩), .int .i64 m] (w.drewN n) fun e w' => e = .returned (.tuple #[.string (readS s m), .int .i64 (hasE s.now.length m)]) ∧ w' = w.drewN n :=
  (h.new (Only.drewN [] w n)).dr.read h.hi m
/-- Something is appended to a row that is new since w. -/
theorem Only.appended {w wr W : World} {e : TypeId} {sz n : Nat} {v : Value} {xs : List Value} {ob : Obj} (m : Nat) (h : Only [] w wr) (ho : wr.ownsRow w.heap.size e sz v n xs) (hg : ((wr.drewN m).alloc ob).grownBy W v.ownBlock) : Only [] w W := by
  have h2 : Only v.ownBlock.toList wr W := ((Only.drewN _ wr m).trans (Only.alloc _ _ ob) (fun _ h _ => h)).trans (Only.of_grown hg (fun k hk => by rw [hk]; simp)) (fun _ h _ => h)
  exact h.trans h2 (fun k hk hl => by have := (ownsRow_lt ho hk).1; omega)
/-- A row's sectors. -/
def rowSec (s : DS) (fr mn : Nat) : List ByteArray := (List.range mn).map fun j => readS s ((fr + j : Nat) : Int)
theorem rowSec_len (s : DS) (fr mn : Nat) : (rowSec s fr mn).length = mn := by unfold rowSec; rw [List.length_map, List.length_range]
theorem rowSec_succ (s : DS) (fr mn : Nat) : rowSec s fr (mn + 1) = rowSec s fr mn ++ [readS s ((fr + mn : Nat) : Int)] := by unfold rowSec; rw [List.range_succ, List.map_append]; rfl
theorem strV_snoc (l : List ByteArray) (x : ByteArray) : strV (l ++ [x]) = strV l ++ [.string x] := by unfold strV; rw [List.map_append]; rfl
theorem one_str (s : ByteArray) : ∀ u ∈ [Value.string s], u.oneCell' = true := by intro u hu; rw [List.mem_singleton.1 hu]; rfl
end Go.Proofs.Ytnhgakmnkpjpdaa

/- A row: the calls that only look: none, First, Top, End, Room; Size of no drive. -/
set_option maxRecDepth 100000
set_option linter.unusedVariables false
set_option linter.unusedSimpArgs false
namespace Go.Proofs.Ytnhgakmnkpjpdaa
open Go Go.RowKit Go.Proofs.YtnhgakmnkpjpdaaW.PrintWords Go.Proofs.YtnhgakmnkpjpdaaW.PrintLast Go.Proofs.YtnhgakmnkpjpdaaW.PrintMore
attribute [local go_sem] Oper.semAt_some max2_int min2_int max_two min_two max_three min_three max_four min_four
theorem Size_nil (w : World) : Calls Try.prog 32 #[.pointer none] w fun e w' => e = .returned (.int .i64 0) ∧ w' = w := by
  go_enter Try.func32, Try.ntmps32
  go_wp2
  go_ret
  exact ⟨rfl, rfl⟩
section
variable {base : Nat} {w : World} {R D : Nat} {tv : Value} {r : RS}
theorem Row_none (h : RowAt base w R D tv r) : Calls Try.prog 56 #[ptr R] w fun e w' => e = .returned (.bool false) ∧ w' = w := by
  obtain ⟨h0, -, -, -, -, -, -, -, f⟩ := h.cells
  have f0 := f 0
  unfold ptr at *
  clear h f
  go_enter Try.func56, Try.ntmps56
  go_wp2
  go_ret
  exact ⟨rfl, rfl⟩
theorem Row_First (h : RowAt base w R D tv r) : Calls Try.prog 34 #[ptr R] w fun e w' => e = .returned (.int .u64 (r.first : Int)) ∧ w' = w := by
  obtain ⟨h0, h1, h2, h3, h4, h5, h6, h7, f⟩ := h.cells
  have f4 := f 4
  have f5 := f 5
  have f6 := f 6
  have f2 := f 2
  have HD := hid h
  have HL := h.lay
  unfold ptr at *
  clear h f h0 h1 h3 h7
  go_enter Try.func34, Try.ntmps34
  go_wp2_with (go_at_call 56; refine (Row_none HD.out).mono ?_; rintro e w' ⟨rfl, rfl⟩)
  go_ret
  exact ⟨by first | rfl | go_num, rfl⟩
theorem Row_Top (h : RowAt base w R D tv r) : Calls Try.prog 69 #[ptr R] w fun e w' => e = .returned (.int .u64 (r.top : Int)) ∧ w' = w := by
  obtain ⟨h0, h1, h2, h3, h4, h5, h6, h7, f⟩ := h.cells
  have f4 := f 4
  have f5 := f 5
  have f6 := f 6
  have f2 := f 2
  have HD := hid h
  have HL := h.lay
  unfold ptr at *
  clear h f h0 h1 h3 h7
  go_enter Try.func69, Try.ntmps69
  go_wp2_with (go_at_call 56; refine (Row_none HD.out).mono ?_; rintro e w' ⟨rfl, rfl⟩)
  go_ret
  exact ⟨by first | rfl | go_num, rfl⟩
theorem Row_End (h : RowAt base w R D tv r) : Calls Try.prog 72 #[ptr R] w fun e w' => e = .returned (.int .i64 (r.en : Int)) ∧ w' = w := by
  obtain ⟨h0, h1, h2, h3, h4, h5, h6, h7, f⟩ := h.cells
  have f4 := f 4
  have f5 := f 5
  have f6 := f 6
  have f2 := f 2
  have HD := hid h
  have HL := h.lay
  unfold ptr at *
  clear h f h0 h1 h3 h7
  go_enter Try.func72, Try.ntmps72
  go_wp2_with (go_at_call 56; refine (Row_none HD.out).mono ?_; rintro e w' ⟨rfl, rfl⟩)
  go_ret
  exact ⟨by first | rfl | go_num, rfl⟩
theorem Row_Room (h : RowAt base w R D tv r) : Calls Try.prog 44 #[ptr R] w fun e w' => e = .returned (.int .i64 ((r.mn - r.en : Nat) : Int)) ∧ Only [] w w' := by
  obtain ⟨h0, h1, h2, h3, h4, h5, h6, h7, f⟩ := h.cells
  have f6 := f 6
  have f2 := f 2
  have HD := hid h
  have HL := h.lay
  have e1 : ((r.mn : Nat) : Int) - (r.en : Int) = ((r.mn - r.en : Nat) : Int) := by omega
  unfold ptr at *
  clear h f h0 h1 h3 h7 h4 h5
  go_enter Try.func44, Try.ntmps44
  go_wp2_with (go_at_call 56; refine (Row_none HD.out).mono ?_; rintro e w' ⟨rfl, rfl⟩)
  go_quiet (fail)
  go_wp2
  go_ret
  exact ⟨by go_num, Only.of_below (by apply pw_below_drewN; exact Below.refl _ _)⟩
end
end Go.Proofs.Ytnhgakmnkpjpdaa

/- A row: its sectors. -/
set_option maxRecDepth 100000
set_option linter.unusedVariables false
set_option linter.unusedSimpArgs false
namespace Go.Proofs.Ytnhgakmnkpjpdaa
open Go Go.RowKit Go.Proofs.YtnhgakmnkpjpdaaW.PrintWords Go.Proofs.YtnhgakmnkpjpdaaW.PrintLast Go.Proofs.YtnhgakmnkpjpdaaW.PrintMore
attribute [local go_sem] Oper.semAt_some max2_int min2_int max_two min_two max_three min_three max_four min_four
theorem Row_sectors {w0 w : World} {l : List (Nat × DS)} {F : List Nat} {i D : Nat} {s : DS} {R : Nat} {tv : Value} {r : RS} (h : Rw w0 w l F i D s R tv r) :
    Calls Try.prog 53 #[ptr R] w fun e w' => ∃ v, e = .returned v ∧ w'.ownsRow w.heap.size 9 1 v r.mn (strV (rowSec s r.fr r.mn)) ∧ Only [] w w' := by
  have HW := hid h
  have HL := hid h.row.lay
  have HC := hid (fun w' (ho : Only [] w w') => (h.new ho).row.cells)
  obtain ⟨h0, h1, h2, h3, h4, h5, h6, h7, f⟩ := h.row.cells
  have f2 := f 2
  unfold ptr at *
  clear h f h0 h1 h3 h4 h5 h6 h7
  go_enter Try.func53, Try.ntmps53
  go_wp2
  go_loopw [3, 11] (fun v' q wr => ∃ (v : Value) (j : Nat), v = v' ∧ q = .int .i64 (j : Int) ∧ Aside0 (j ≤ r.mn) ∧ Aside0 (wr.ownsRow w.heap.size 9 1 v j (strV (rowSec s r.fr j))) ∧ Aside0 (Only [] w wr)) (fun _ q _ => r.mn - (intOf q).toNat)
  case atStart => exact ⟨.slice none 0 0, 0, rfl, rfl, ⟨Nat.zero_le _⟩, ⟨World.ownsRow_nil _ _ _ _⟩, ⟨Only.refl _ _⟩⟩
  case round =>
    obtain ⟨v, j, rfl, rfl, HJ, HO, HB⟩ := hrel
    by_cases c : j < r.mn
    · have d1 : decide ((j : Int) < (r.mn : Int)) = true := decide_eq_true (by omega)
      have d2 : decide (j < r.mn) = true := decide_eq_true c
      obtain ⟨k0, k1, -, -, -, -, -, -, f⟩ := HC.out wr HB.out
      have f0 := f 0
      have f1 := f 1
      obtain ⟨tj, htj, hjz, hjs, hjb⟩ := info_three Q.info9
      have HTJ := hid (And.intro htj (And.intro hjz (And.intro hjs hjb)))
      have HR := hid (HW.out.new HB.out)
      have C1 := hid c
      have HB4 := hid (show r.fr + r.mn ≤ 4096 from HL.out.1)
      have e1 : r.fr + j ≤ 4096 := by have := HL.out.1; omega
      have HE := hid e1
      have hB1 := hid HB.out.size
      clear c htj hjz hjs hjb f
      go_wp2
      go_quiet ((go_at_call 10; exact Calls.quiet_of_same (HR.out.read _ _)))
      go_wp2_with (at_builtin; refine wpList_append_lies _ rfl (.tmp 28) (.tmp 30) 22 rfl w.heap.size 9 tj _ 1 16 Try.underlying22 HTJ.out.1 HTJ.out.2.1 HTJ.out.2.2.1 HTJ.out.2.2.2 rfl (by decide) v j _ rfl (HO.out.alloc _) ⟨wr.heap.size, 0, none⟩ 1 1 [.string (readS s ((r.fr : Int) + (j : Int)))] rfl rfl (World.news_of_block (heap_alloc_new wr _)) (one_str _) (by decide) (by have := HE.out; unfold maxLen; omega) (by have := HE.out; omega) (by have := hB1.out; simp; omega) (wr.heap.size + 1) (by simp) ?_; intro g4 cap4 W4 hown4 hgrow4 hat4 hgl4)
      have hA := HB.out.appended nq HO.out hgrow4
      have eS := rowSec_succ s r.fr j
      rw [Int.natCast_add] at eS
      rw [← strV_snoc, ← eS] at hown4
      exact ⟨⟨_, j + 1, rfl, by go_num, ⟨by have := C1.out; omega⟩, ⟨hown4⟩, ⟨hA⟩⟩, by simp [intOf]; have := C1.out; omega⟩
    · have d1 : decide ((j : Int) < (r.mn : Int)) = false := decide_eq_false (by omega)
      have d2 : decide (j < r.mn) = false := decide_eq_false c
      have hin : j = r.mn := by have := HJ.out; omega
      have hR := HO.out
      rw [hin] at hR
      have HRR := hid hR
      clear hR hin c
      go_wp2_with fail
      go_ret
      exact ⟨_, rfl, HRR.out, HB.out⟩
end Go.Proofs.Ytnhgakmnkpjpdaa

/- A row is opened. -/
set_option maxRecDepth 100000
set_option linter.unusedVariables false
set_option linter.unusedSimpArgs false
namespace Go.Proofs.Ytnhgakmnkpjpdaa
open Go Go.RowKit Go.Proofs.Ytnhgakmnkpjpdaa.Q Go.Proofs.Ytnhgakmnkpjpdaa.Pure Go.Proofs.YtnhgakmnkpjpdaaW.PrintWords Go.Proofs.YtnhgakmnkpjpdaaW.PrintLast Go.Proofs.YtnhgakmnkpjpdaaW.PrintMore
attribute [local go_sem] Oper.semAt_some max2_int min2_int max_two min_two max_three min_three max_four min_four
/-- The row of some sectors. -/
def openRS (s : DS) (fr mn : Nat) : RS := ⟨fr, mn, (rowT (rowSec s fr mn)).texts, (rowT (rowSec s fr mn)).first, topL (rowSec s fr mn) 0, (rowT (rowSec s fr mn)).en, false⟩
/-- Under way: the row's struct with its texts, and the sectors. -/
structure Opg (w w' : World) (R D : Nat) (lv : Value) (L : List ByteArray) (fr mn top : Nat) (st : TS) (tv : Value) : Prop where
  ob : Ob w.heap.size w' R 97 (RS.cs ⟨fr, mn, st.texts, st.first, top, st.en, false⟩ D tv) [⟨tv, 9, 1, st.texts.length, strV st.texts⟩, ⟨lv, 9, 1, L.length, strV L⟩]
  only : Only [] w w'
theorem Opg.cells {w w' : World} {R D : Nat} {lv : Value} {L : List ByteArray} {fr mn top : Nat} {st : TS} {tv : Value} (h : Opg w w' R D lv L fr mn top st tv) :
    w'.cell? ⟨R, 3, none⟩ = some tv ∧ w'.cell? ⟨R, 4, none⟩ = some (.int .u64 (st.first : Int)) ∧ w'.cell? ⟨R, 6, none⟩ = some (.int .i64 (st.en : Int)) ∧ ∀ j, w'.frozen? ⟨R, j, none⟩ = false :=
  ⟨h.ob.cell 3, h.ob.cell 4, h.ob.cell 6, h.ob.free⟩
theorem Only.on {w w1 w2 : World} {fp : List Nat} (h : Only [] w w1) (h2 : Only fp w1 w2) (hf : ∀ k ∈ fp, w.heap.size ≤ k) : Only [] w w2 := h.trans h2 (fun k hk hl => by have := hf k hk; omega)
theorem Opg.new {w w' w2 : World} {R D : Nat} {lv : Value} {L : List ByteArray} {fr mn top : Nat} {st : TS} {tv : Value} (h : Opg w w' R D lv L fr mn top st tv) (ho : Only [] w' w2) : Opg w w2 R D lv L fr mn top st tv := ⟨h.ob.new ho, h.only.trans ho (fun _ h _ => h)⟩
theorem openRS_eq (s : DS) (fr mn : Nat) (L : List ByteArray) (st : TS) (hL : L = rowSec s fr mn) (hf : rowT L = st) : openRS s fr mn = ⟨fr, mn, st.texts, st.first, topL L 0, st.en, false⟩ := by unfold openRS; rw [← hL, hf]
def boxO (D fr mn : Nat) : Obj := .cells #[ptr D, .int .i64 (fr : Int), .int .i64 (mn : Int), .slice none 0 0, .int .u64 0, .int .u64 0, .int .i64 0, .bool false] 97
theorem boxO_free {w : World} {R D fr mn : Nat} (h : w.heap[R]? = some (boxO D fr mn)) (j : Nat) : w.frozen? ⟨R, j, none⟩ = false := frozen_of_row w _ _ _ _ h
theorem boxO_c5 {w : World} {R D fr mn : Nat} (h : w.heap[R]? = some (boxO D fr mn)) : w.cell? ⟨R, 5, none⟩ = some (.int .u64 0) := cell_of_row w _ _ _ _ _ h
theorem Rw.boxed {w0 w : World} {l : List (Nat × DS)} {F : List Nat} {i D : Nat} {s : DS} (h : Dr w0 w l F) (hi : l[i]? = some (D, s)) (fr mn : Nat) (hb : fr + mn ≤ 4096) :
    Rw w0 (w.alloc (boxO D fr mn)) l (w.heap.size :: F) i D s w.heap.size (.slice none 0 0) ⟨fr, mn, [], 0, 0, 0, false⟩ := by
  have hsz : (w.alloc (boxO D fr mn)).heap.size = w.heap.size + 1 := by simp
  refine ⟨h.grow [] _ (Only.alloc _ _ _) (by simp) (fun k hk => ?_), hi, ⟨⟨h.below.size, heap_alloc_new w _, fun r hr => ?_, by simp [obFp, RS.rows, RowV.fp, Value.ownBlock]⟩, ⟨hb, Nat.zero_le _, Nat.le_refl _⟩, (by show 0 < 18446744073709551616; decide), (by show 0 < 18446744073709551616; decide)⟩, fun k hk => ?_⟩
  · rcases List.mem_cons.1 hk with rfl | hk
    · exact .inr ⟨Nat.le_refl _, by rw [hsz]; omega⟩
    · exact .inl hk
  · simp only [RS.rows, List.mem_singleton] at hr
    rw [hr]
    exact World.ownsRow_nil _ _ _ _
  · simp only [rwFp, Value.ownBlock, Option.toList_none, List.mem_singleton] at hk
    rw [hk]; simp
theorem ownsRow_weaken {W : World} {b b' : Nat} {e : TypeId} {size : Nat} {v : Value} {n : Nat} {xs : List Value} (hw : W.ownsRow b e size v n xs) (hb : b' ≤ b) : W.ownsRow b' e size v n xs := by
  refine ⟨hw.1, ?_⟩
  rcases hw.2 with h1 | ⟨g, cap, cur, h1, h2, h3⟩
  · exact .inl h1
  · exact .inr ⟨g, cap, cur, h1, Nat.le_trans hb h2, h3⟩
theorem opt_nodup (o : Option Nat) : o.toList.Nodup := by cases o <;> simp
theorem Opg.start {w w3 w4 : World} {D fr mn top : Nat} {L : List ByteArray} {v : Value} (ho : Only [] (w.alloc (boxO D fr mn)) w3) (hr : w3.ownsRow (w.alloc (boxO D fr mn)).heap.size 9 1 v L.length (strV L)) (ho4 : Only [] w3 w4) :
    Opg w (w4.setCell ⟨w.heap.size, 5, none⟩ (.int .u64 (top : Int))) w.heap.size D v L fr mn top st0 (.slice none 0 0) := by
  have hsz : (w.alloc (boxO D fr mn)).heap.size = w.heap.size + 1 := by simp
  have hb3 : w3.heap[w.heap.size]? = some (boxO D fr mn) := (ho.block _ (by rw [hsz]; omega) (by simp)).trans (heap_alloc_new w _)
  have hb4 : w4.heap[w.heap.size]? = some (boxO D fr mn) := (ho4.block _ (by have := ho.size; omega) (by simp)).trans hb3
  have ob4 : Ob w.heap.size w4 w.heap.size 97 (RS.cs ⟨fr, mn, [], 0, 0, 0, false⟩ D (.slice none 0 0)) [⟨.slice none 0 0, 9, 1, 0, []⟩, ⟨v, 9, 1, L.length, strV L⟩] := by
    refine ⟨Nat.le_refl _, hb4, fun r hr' => ?_, ?_⟩
    · rcases List.mem_cons.1 hr' with rfl | hr'
      · exact World.ownsRow_nil _ _ _ _
      · rw [List.mem_singleton.1 hr']
        exact ownsRow_kept (ownsRow_weaken hr (by rw [hsz]; omega)) ho4 (by simp)
    · simp only [obFp, List.flatMap_cons, List.flatMap_nil, RowV.fp, Value.ownBlock, Option.toList_none, List.nil_append, List.append_nil]
      refine List.nodup_cons.2 ⟨fun hk => ?_, opt_nodup _⟩
      have := (ownsRow_lt hr hk).1
      omega
  have h5 := ob4.set 5 (.int .u64 (top : Int))
  refine ⟨h5.1, ?_⟩
  exact ((Only.alloc [] w (boxO D fr mn)).trans (ho.trans ho4 (fun _ h _ => h)) (fun _ h _ => h)).on h5.2 (fun k hk => by rw [List.mem_singleton.1 hk]; exact Nat.le_refl _)
theorem Mid.app {w W1 W4 : World} {R : Nat} {cs : Array Value} {tv u : Value} {n g cap : Nat} {xs : List Value} {lvr : RowV} {ob : Obj} (h1 : Ob w.heap.size W1 R 97 cs [⟨tv, 9, 1, n, xs⟩, lvr]) (ho : Only [] w W1)
    (hown : W4.ownsRow w.heap.size 9 1 (.slice (some ⟨g, 0, none⟩) (n + 1) cap) (n + 1) (xs ++ [u])) (hg : (W1.alloc ob).grownBy W4 tv.ownBlock) (hat : tv.ownBlock = some g ∨ g = W1.heap.size + 1) :
    Ob w.heap.size W4 R 97 cs [⟨.slice (some ⟨g, 0, none⟩) (n + 1) cap, 9, 1, n + 1, xs ++ [u]⟩, lvr] ∧ Only [] w W4 := by
  have a := Ob.appended (a := []) (b := [lvr]) h1 hown hg hat
  exact ⟨a.1, ho.on a.2.1 (fun k hk => (h1.fp_lt k hk).1)⟩
theorem Opg.first {w w' : World} {R D : Nat} {lv : Value} {L : List ByteArray} {fr mn top : Nat} {st : TS} {tv : Value} (h : Opg w w' R D lv L fr mn top st tv) (n : Nat) (h0 : st.last = 0) :
    Ob w.heap.size (w'.setCell ⟨R, 4, none⟩ (.int .u64 (n : Int))) R 97 (RS.cs ⟨fr, mn, st.texts, if st.last = 0 then n else st.first, top, st.en, false⟩ D tv) [⟨tv, 9, 1, st.texts.length, strV st.texts⟩, ⟨lv, 9, 1, L.length, strV L⟩] ∧ Only [] w (w'.setCell ⟨R, 4, none⟩ (.int .u64 (n : Int))) := by
  have h2 := h.ob.set 4 (.int .u64 (n : Int))
  rw [if_pos h0]
  exact ⟨h2.1, h.only.on h2.2 (fun k hk => by rw [List.mem_singleton.1 hk]; exact h.ob.hO)⟩
theorem Opg.fin {w W4 : World} {R D g cap : Nat} {lv : Value} {L : List ByteArray} {fr mn top n : Nat} {S : List UInt8} {st : TS} {tv : Value}
    (h : Ob w.heap.size W4 R 97 (RS.cs ⟨fr, mn, st.texts, if st.last = 0 then n else st.first, top, st.en, false⟩ D tv) [⟨.slice (some ⟨g, 0, none⟩) (st.texts.length + 1) cap, 9, 1, st.texts.length + 1, strV st.texts ++ [.string (B S)]⟩, ⟨lv, 9, 1, L.length, strV L⟩]) (ho : Only [] w W4) :
    Opg w ((W4.setCell ⟨R, 3, none⟩ (.slice (some ⟨g, 0, none⟩) (st.texts.length + 1) cap)).setCell ⟨R, 6, none⟩ (.int .i64 ((st.en + nP (txt S) : Nat) : Int))) R D lv L fr mn top (st.add n S) (.slice (some ⟨g, 0, none⟩) (st.texts.length + 1) cap) := by
  have h2 := h.set 3 (.slice (some ⟨g, 0, none⟩) (st.texts.length + 1) cap)
  have h3 := h2.1.set 6 (.int .i64 ((st.en + nP (txt S) : Nat) : Int))
  refine ⟨?_, (ho.on h2.2 (fun k hk => by rw [List.mem_singleton.1 hk]; exact h.hO)).on h3.2 (fun k hk => by rw [List.mem_singleton.1 hk]; exact h.hO)⟩
  have e1 : (st.add n S).texts.length = st.texts.length + 1 := by show (st.texts ++ [B S]).length = _; rw [List.length_append, List.length_singleton]
  have e2 : strV (st.add n S).texts = strV st.texts ++ [.string (B S)] := strV_snoc _ _
  rw [e1, e2]
  exact h3.1
theorem Opg.done {w w' : World} {R D : Nat} {lv : Value} {L : List ByteArray} {fr mn : Nat} {st : TS} {tv : Value} (h : Opg w w' R D lv L fr mn (topL L 0) st tv) (hk : TSok L st) (hm : L.length = mn) (hb : fr + mn ≤ 4096) :
    Only [] w w' ∧ RowAt w.heap.size w' R D tv ⟨fr, mn, st.texts, st.first, topL L 0, st.en, false⟩ := by
  refine ⟨h.only, ⟨h.ob.hO, h.ob.obj, fun r hr => ?_, ?_⟩, ⟨hb, by rw [← hm]; exact hk.en, hk.texts⟩, hk.first, topL_lt L 0 (by decide)⟩
  · simp only [RS.rows, List.mem_singleton] at hr
    rw [hr]
    exact h.ob.own _ (by simp)
  · have hn := h.ob.nd
    simp only [obFp, RS.rows, List.flatMap_cons, List.flatMap_nil, List.append_nil] at hn ⊢
    rw [← List.cons_append] at hn
    exact (List.nodup_append.1 hn).1
set_option maxHeartbeats 1000000 in
theorem Open_ok {w0 w : World} {l : List (Nat × DS)} {F : List Nat} {i D : Nat} {s : DS} (h : Dr w0 w l F) (hi : l[i]? = some (D, s)) (fr mn : Nat) (h1 : 1 ≤ mn) (h2 : fr + mn ≤ s.now.length) (h3 : s.now.length ≤ 4096) :
    Calls Try.prog 33 #[ptr D, .int .i64 (fr : Int), .int .i64 (mn : Int)] w fun e w' => ∃ R tv, e = .returned (.tuple #[ptr R, .int .i64 0]) ∧ Only [] w w' ∧ RowAt w.heap.size w' R D tv (openRS s fr mn) := by
  have HS := hid (h.size hi)
  have HDR := hid (And.intro h hi)
  have c0 : ((s.now.length : Int) == 0) = false := by rw [beq_eq_false_iff_ne]; omega
  have c1 : decide ((fr : Int) < 0) = false := decide_eq_false (by omega)
  have c2 : decide ((mn : Int) < 1) = false := decide_eq_false (by omega)
  have c3 : decide ((s.now.length : Int) < (fr : Int)) = false := decide_eq_false (by omega)
  have c4 : decide ((s.now.length : Int) - (fr : Int) < (mn : Int)) = false := decide_eq_false (by omega)
  obtain ⟨L, hL⟩ : ∃ L, L = rowSec s fr mn := ⟨_, rfl⟩
  have hLl : L.length = mn := by rw [hL, rowSec_len]
  have HL := hid hL
  have HLL := hid hLl
  have HB := hid (And.intro h1 (And.intro h2 h3))
  have hb4 : fr + mn ≤ 4096 := by omega
  unfold ptr at *
  clear h hi hL hLl
  go_enter Try.func33, Try.ntmps33
  go_wp2_with (go_at_call 32; refine HS.out.mono ?_; rintro e w' ⟨rfl, rfl⟩)
  go_step3
  go_wp2_with (go_at_call 32; refine HS.out.mono ?_; rintro e w' ⟨rfl, rfl⟩)
  refine (Row_sectors (Rw.boxed HDR.out.1 HDR.out.2 fr mn hb4)).mono ?_
  rintro e w3 ⟨v, rfl, hown, hob⟩
  rw [show rowSec s (RS.fr ⟨fr, mn, [], 0, 0, 0, false⟩) (RS.mn ⟨fr, mn, [], 0, 0, 0, false⟩) = L from HL.out.symm, show (RS.mn ⟨fr, mn, [], 0, 0, 0, false⟩) = L.length from HLL.out.symm] at hown
  obtain ⟨A, c, rfl, hc, hC⟩ := own_C_str hown
  have HO3 := hid hown
  have HB3 := hid hob
  have HC3 := hid hC
  have HCC := hid hc
  have hT := Top_f (L.length + 1) L (by have := HLL.out; omega) (by omega)
  have HT := hid hT
  have hR3 := (hob.block w'.heap.size (by simp) (by simp)).trans (heap_alloc_new w' _)
  clear hown hob hC hc hT
  go_wp2_with (go_at_call 54; refine (sheaf_Top.calls (L.length + 1) A c L _ w3 HC3.out HCC.out HT.out).mono ?_; rintro e w4 ⟨rfl, hb4'⟩; have HB4 := hid (Only.of_below (fp := []) hb4'); have hR4 := (hb4'.block _ (Array.getElem?_eq_some_iff.1 hR3).1).trans hR3; have f5 := boxO_free hR4 5; have k5 := boxO_c5 hR4; clear hb4')
  have HG0 := hid (Opg.start (top := topL L 0) HB3.out HO3.out HB4.out)
  clear hR3 hR4 HB3 HO3 HC3 HT f5 k5 HB4 c0 c1 c2 c3 c4
  go_step3
  go_wp2_with fail
  go_loopg [10] mn (fun kq v10 wr => ∃ (st : TS) (tv : Value), v10 = .int .u64 (st.last : Int) ∧ Aside0 (openL L st = rowT L) ∧ Aside0 (TSok L st) ∧ Aside0 (kq + st.en = mn) ∧ Aside0 (Opg w' wr w'.heap.size D (.slice A L.length c) L fr mn (topL L 0) st tv))
  case atStart => exact ⟨st0, .slice none 0 0, rfl, ⟨rfl⟩, ⟨st0_ok L⟩, ⟨rfl⟩, ⟨HG0.out⟩⟩
  case round =>
    obtain ⟨st, tv, rfl, HE, HK, HQ, HG⟩ := hrel
    clear HG0
    obtain ⟨k3, k4, k6, f⟩ := HG.out.cells
    have f3 := f 3
    have f4 := f 4
    have f6 := f 6
    have hlv := HG.out.ob.own ⟨.slice A L.length c, 9, 1, L.length, strV L⟩ (by simp)
    obtain ⟨A2, c2, hAc, hcc2, hCr⟩ := own_C_str hlv
    injection hAc with q1 q2 q3
    subst q1 q3
    obtain ⟨i06, hi06, _, hsz6, _⟩ := info_parts info9
    have hen : (st.en : Int) ≤ (L.length : Int) := by have := HK.out.en; omega
    obtain ⟨A6, hcut6, hA6, hC6⟩ := print_drop_of (P := Try.prog) Value.string (⟨#[]⟩ : ByteArray) 22 9 .i64 Try.underlying22 hi06 hsz6 A c L (st.en : Int) (by omega) hen HCC.out
    have HR6 := hid (Kd.C_of_reads (h1 := fun _ => rfl) (hA6 _ (Kd.reads_of_C hCr)))
    have HC6 := hid hC6
    rw [Int.toNat_natCast] at HR6 HC6 hcut6
    clear f hA6 hC6 hi06 hsz6 hlv hcc2 hCr hen
    rcases getP_cases (L.drop st.en) with ⟨n, S, hn0, hn, hS, hp, hget, hgp⟩ | ⟨hget, hgp⟩
    · have HGET := hid hget
      have HCALL : Calls Try.prog 55 #[.slice A6 (L.length - st.en) (c - st.en)] wr fun e w' => e = .returned (.tuple #[.int .u64 (n : Int), .string (B S), .int .i64 ((nP (txt S) : Nat) : Int), .bool true]) ∧ Only [] wr w' := by
        have := sheaf_Get.calls A6 _ (L.drop st.en) _ _ _ _ wr HR6.out HC6.out HGET.out
        rw [List.length_drop] at this
        exact this.mono fun e w' ⟨he, hb⟩ => ⟨he, Only.of_below hb⟩
      have HGP := hid hgp
      have hs := openL_some hgp
      have HGL := hid (getP_len hgp)
      have HOK2 := hid (HK.out.add hgp)
      clear hget hgp hp hS hn
      by_cases hc : st.last < n
      · have d1 : decide ((n : Int) ≤ (st.last : Int)) = false := decide_eq_false (by omega)
        have d2 : decide (n ≤ st.last) = false := decide_eq_false (by omega)
        rw [if_pos hc, HE.out] at hs
        have HE2 := hid hs.symm
        clear hc hs
        by_cases h0 : st.last = 0
        · have e0 : ((st.last : Int) == 0) = true := by rw [beq_iff_eq]; omega
          have e1 : (st.last == 0) = true := by rw [beq_iff_eq]; omega
          have HL0 := hid h0
          clear h0
          go_wp2_with fail
          refine HCALL.mono ?_
          rintro e w6 ⟨rfl, ho5⟩
          have HG5 := hid (HG.out.new ho5)
          obtain ⟨k3, k4, k6, f⟩ := HG5.out.cells
          have f4 := f 4
          clear ho5 f HG k3 k6 f3 f6
          go_upto_region 13 with (fail)
          obtain ⟨w5, hw5⟩ : ∃ w5, w5 = w6.setCell ⟨w'.heap.size, 4, none⟩ (.int .u64 (n : Int)) := ⟨_, rfl⟩
          have hOB := HG5.out.first n HL0.out
          rw [← hw5] at hOB ⊢
          have HOB := hid hOB.1
          have HO5 := hid hOB.2
          have k3 := HOB.out.cell 3
          have k6 := HOB.out.cell 6
          replace k3 : w5.cell? ⟨w'.heap.size, 3, none⟩ = some tv := k3
          replace k6 : w5.cell? ⟨w'.heap.size, 6, none⟩ = some (.int .i64 (st.en : Int)) := k6
          have f3 := HOB.out.free 3
          have f6 := HOB.out.free 6
          clear hw5 hOB k4 f4
          have HTX := hid (HOB.out.own ⟨tv, 9, 1, st.texts.length, strV st.texts⟩ (by simp))
          have HTB := hid (show st.texts.length ≤ 4096 by have := HK.out.texts; have := HK.out.en; have := HLL.out; omega)
          obtain ⟨tj, htj, hjz, hjs, hjb⟩ := info_three Q.info9
          have HTJ := hid (And.intro htj (And.intro hjz (And.intro hjs hjb)))
          have hb6 : st.en + nP (txt S) ≤ 4096 := by have h := HGL.out.2; rw [List.length_drop] at h; have := HK.out.en; have := HLL.out; omega
          clear htj hjz hjs hjb
          go_wp2_with (at_builtin; refine wpList_append_lies _ rfl (.tmp 84) (.tmp 86) 22 rfl w'.heap.size 9 tj _ 1 16 Try.underlying22 HTJ.out.1 HTJ.out.2.1 HTJ.out.2.2.1 HTJ.out.2.2.2 rfl (by decide) tv st.texts.length (strV st.texts) rfl (HTX.out.alloc _) ⟨w5.heap.size, 0, none⟩ 1 1 [.string (B S)] rfl rfl (World.news_of_block (heap_alloc_new w5 _)) (one_str _) (by decide) (by have := HTB.out; unfold maxLen; omega) (by have := HTB.out; omega) (by have := HO5.out.size; simp; omega) (w5.heap.size + 1) (by simp) ?_; intro g cap W4 hown hgrow hat hgl; have HM := hid (Mid.app HOB.out HO5.out hown hgrow hat); have k3 := HM.out.1.cell 3; have f3 := HM.out.1.free 3; have k6 := HM.out.1.cell 6; have f6 := HM.out.1.free 6; replace k3 : W4.cell? ⟨w'.heap.size, 3, none⟩ = some tv := k3; replace k6 : W4.cell? ⟨w'.heap.size, 6, none⟩ = some (.int .i64 (st.en : Int)) := k6; clear hown hgrow hat hgl)
          have HFIN := hid (Opg.fin HM.out.1 HM.out.2)
          go_roundg (gk - nP (txt S))
          case measure => have := HGL.out.1; have := HQ.out; have h := HGL.out.2; rw [List.length_drop] at h; have := HLL.out; omega
          case rel => exact ⟨_, _, rfl, ⟨HE2.out⟩, ⟨HOK2.out⟩, ⟨by show gk - nP (txt S) + (st.en + nP (txt S)) = mn; have := HQ.out; have h := HGL.out.2; rw [List.length_drop] at h; have := HLL.out; omega⟩, ⟨HFIN.out⟩⟩
        · have e0 : ((st.last : Int) == 0) = false := by rw [beq_eq_false_iff_ne]; omega
          have e1 : (st.last == 0) = false := by rw [beq_eq_false_iff_ne]; omega
          have HL0 := hid h0
          clear h0
          go_wp2_with fail
          refine HCALL.mono ?_
          rintro e w5 ⟨rfl, ho5⟩
          have HG5 := hid (HG.out.new ho5)
          have HO5 := hid HG5.out.only
          obtain ⟨k3, k4, k6, f⟩ := HG5.out.cells
          have f3 := f 3
          have f6 := f 6
          have HOB := hid (show Ob w'.heap.size w5 w'.heap.size 97 (RS.cs ⟨fr, mn, st.texts, if st.last = 0 then n else st.first, topL L 0, st.en, false⟩ D tv) [⟨tv, 9, 1, st.texts.length, strV st.texts⟩, ⟨.slice A L.length c, 9, 1, L.length, strV L⟩] by rw [if_neg HL0.out]; exact HG5.out.ob)
          clear ho5 f HG
          have HTX := hid (HOB.out.own ⟨tv, 9, 1, st.texts.length, strV st.texts⟩ (by simp))
          have HTB := hid (show st.texts.length ≤ 4096 by have := HK.out.texts; have := HK.out.en; have := HLL.out; omega)
          obtain ⟨tj, htj, hjz, hjs, hjb⟩ := info_three Q.info9
          have HTJ := hid (And.intro htj (And.intro hjz (And.intro hjs hjb)))
          have hb6 : st.en + nP (txt S) ≤ 4096 := by have h := HGL.out.2; rw [List.length_drop] at h; have := HK.out.en; have := HLL.out; omega
          clear htj hjz hjs hjb
          go_wp2_with (at_builtin; refine wpList_append_lies _ rfl (.tmp 84) (.tmp 86) 22 rfl w'.heap.size 9 tj _ 1 16 Try.underlying22 HTJ.out.1 HTJ.out.2.1 HTJ.out.2.2.1 HTJ.out.2.2.2 rfl (by decide) tv st.texts.length (strV st.texts) rfl (HTX.out.alloc _) ⟨w5.heap.size, 0, none⟩ 1 1 [.string (B S)] rfl rfl (World.news_of_block (heap_alloc_new w5 _)) (one_str _) (by decide) (by have := HTB.out; unfold maxLen; omega) (by have := HTB.out; omega) (by have := HO5.out.size; simp; omega) (w5.heap.size + 1) (by simp) ?_; intro g cap W4 hown hgrow hat hgl; have HM := hid (Mid.app HOB.out HO5.out hown hgrow hat); have k3 := HM.out.1.cell 3; have f3 := HM.out.1.free 3; have k6 := HM.out.1.cell 6; have f6 := HM.out.1.free 6; replace k3 : W4.cell? ⟨w'.heap.size, 3, none⟩ = some tv := k3; replace k6 : W4.cell? ⟨w'.heap.size, 6, none⟩ = some (.int .i64 (st.en : Int)) := k6; clear hown hgrow hat hgl)
          have HFIN := hid (Opg.fin HM.out.1 HM.out.2)
          go_roundg (gk - nP (txt S))
          case measure => have := HGL.out.1; have := HQ.out; have h := HGL.out.2; rw [List.length_drop] at h; have := HLL.out; omega
          case rel => exact ⟨_, _, rfl, ⟨HE2.out⟩, ⟨HOK2.out⟩, ⟨by show gk - nP (txt S) + (st.en + nP (txt S)) = mn; have := HQ.out; have h := HGL.out.2; rw [List.length_drop] at h; have := HLL.out; omega⟩, ⟨HFIN.out⟩⟩
      · have d1 : decide ((n : Int) ≤ (st.last : Int)) = true := decide_eq_true (by omega)
        have d2 : decide (n ≤ st.last) = true := decide_eq_true (by omega)
        rw [if_neg hc] at hs
        have HF := hid (show rowT L = st by rw [← HE.out]; exact hs)
        clear hs hc
        go_wp2_with fail
        refine HCALL.mono ?_
        rintro e w5 ⟨rfl, ho5⟩
        have HG5 := hid (HG.out.new ho5)
        clear ho5
        go_wp2_with fail
        try rw [Exit.noGoto_ret]
        go_ret2
        refine ⟨w'.heap.size, tv, rfl, ?_⟩
        rw [openRS_eq s fr mn L st HL.out HF.out]
        exact HG5.out.done HK.out HLL.out hb4
    · have HGET := hid hget
      have hfin : rowT L = st := by rw [← HE.out, openL_none hgp]
      have HF := hid hfin
      clear hget hgp hfin
      have HCALL : Calls Try.prog 55 #[.slice A6 (L.length - st.en) (c - st.en)] wr fun e w' => e = .returned (.tuple #[.int .u64 0, .string (B []), .int .i64 0, .bool false]) ∧ Only [] wr w' := by
        have := sheaf_Get.calls A6 _ (L.drop st.en) _ _ _ _ wr HR6.out HC6.out HGET.out
        rw [List.length_drop] at this
        exact this.mono fun e w' ⟨he, hb⟩ => ⟨he, Only.of_below hb⟩
      go_wp2_with fail
      refine HCALL.mono ?_
      rintro e w5 ⟨rfl, ho5⟩
      have HG5 := hid (HG.out.new ho5)
      clear ho5
      go_wp2_with fail
      try rw [Exit.noGoto_ret]
      go_ret2
      refine ⟨w'.heap.size, tv, rfl, ?_⟩
      rw [openRS_eq s fr mn L st HL.out HF.out]
      exact HG5.out.done HK.out HLL.out hb4
end Go.Proofs.Ytnhgakmnkpjpdaa
