import Derived.Test.YthbbdilcclepoaaDA
import Derived.Test.YthbbdilcclepoaaG5
import Derived.BigQuiet
import Derived.StillTailTactics
/- A row in memory: a struct with texts of its own, beside a drive. -/
set_option linter.unusedVariables false
set_option linter.unusedSimpArgs false
namespace Go.Proofs.Ythbbdilcclepoaa
open Go Go.RowKit Go.Proofs.YthbbdilcclepoaaW.PrintWords Go.Proofs.YthbbdilcclepoaaW.PrintLast Go.Proofs.YthbbdilcclepoaaW.PrintMore
def strV (l : List ByteArray) : List Value := l.map .string
theorem strV_len (l : List ByteArray) : (strV l).length = l.length := by unfold strV; rw [List.length_map]
theorem str_reps (xs : List ByteArray) : Reps (fun x cs => cs = [Value.string x]) 1 xs (strV xs) := by
  refine ⟨by rw [strV_len, Nat.mul_one], fun j p hj => ?_⟩
  have hlt := (List.getElem?_eq_some_iff.1 hj).1
  have e : (strV xs)[j]? = some (.string p) := by unfold strV; rw [List.getElem?_map, hj]; rfl
  rw [Nat.mul_one]
  have h2 := List.drop_eq_getElem_cons (l := strV xs) (i := j) (by rw [strV_len]; exact hlt)
  rw [h2, List.take_succ_cons, List.take_zero]
  rw [List.getElem?_eq_getElem (by rw [strV_len]; exact hlt)] at e
  rw [Option.some.inj e]
theorem reps_str {xs : List ByteArray} {cs : List Value} (h : Reps (fun x cs => cs = [Value.string x]) 1 xs cs) : cs = strV xs := by
  refine List.ext_getElem? fun j => ?_
  by_cases hj : j < xs.length
  · have h1 := h.2 j _ (List.getElem?_eq_getElem hj)
    have hl : j < cs.length := by rw [h.1]; omega
    rw [Nat.mul_one, List.drop_eq_getElem_cons hl, List.take_succ_cons, List.take_zero] at h1
    rw [List.getElem?_eq_getElem hl]
    unfold strV
    rw [List.getElem?_map, List.getElem?_eq_getElem hj]
    simpa using h1
  · rw [List.getElem?_eq_none (by rw [h.1]; omega), List.getElem?_eq_none (by rw [strV_len]; omega)]
theorem R_own_str {w : World} {base : Nat} {ok : Nat → Prop} {v : Value} {xs : List ByteArray} (h : Kd.R Kd.string 9 w base ok v xs) : w.ownsRow base 9 1 v xs.length (strV xs) := by
  obtain ⟨-, inner, ho, hr⟩ := h
  rw [← reps_str hr]; exact ho
theorem own_R_str {w : World} {base : Nat} {v : Value} {xs : List ByteArray} (h : w.ownsRow base 9 1 v xs.length (strV xs)) : Kd.R Kd.string 9 w base (fun k => v.ownBlock = some k) v xs :=
  ⟨fun k hk => hk, _, h, str_reps xs⟩
theorem own_C_str {w : World} {base : Nat} {v : Value} {xs : List ByteArray} (h : w.ownsRow base 9 1 v xs.length (strV xs)) : ∃ A c, v = .slice A xs.length c ∧ xs.length ≤ c ∧ Kd.C Kd.string w A xs.length xs := Kd.R_reads (own_R_str h)
/-- A row's state: where it lies, its texts, its numbers. -/
structure RS where
  fr : Nat
  mn : Nat
  texts : List ByteArray
  first : Nat
  top : Nat
  en : Nat
  down : Bool
def RS.cs (r : RS) (D : Nat) (tv : Value) : Array Value := #[ptr D, .int .i64 (r.fr : Int), .int .i64 (r.mn : Int), tv, .int .u64 (r.first : Int), .int .u64 (r.top : Int), .int .i64 (r.en : Int), .bool r.down]
def RS.rows (r : RS) (tv : Value) : List RowV := [⟨tv, 9, 1, r.texts.length, strV r.texts⟩]
structure RowAt (base : Nat) (W : World) (R D : Nat) (tv : Value) (r : RS) : Prop where
  ob : Ob base W R 75 (r.cs D tv) (r.rows tv)
  lay : r.fr + r.mn ≤ 4096 ∧ r.en ≤ r.mn ∧ r.texts.length ≤ r.en
  num : r.first < 18446744073709551616 ∧ r.top < 18446744073709551616
def rwFp (R : Nat) (tv : Value) : List Nat := R :: tv.ownBlock.toList
theorem rwFp_eq (r : RS) (R : Nat) (tv : Value) : obFp R (r.rows tv) = rwFp R tv := by simp [obFp, RS.rows, RowV.fp, rwFp]
section
variable {base : Nat} {w w' : World} {R D : Nat} {tv : Value} {r : RS}
theorem RowAt.cells (h : RowAt base w R D tv r) :
    w.cell? ⟨R, 0, none⟩ = some (ptr D) ∧ w.cell? ⟨R, 1, none⟩ = some (.int .i64 (r.fr : Int)) ∧ w.cell? ⟨R, 2, none⟩ = some (.int .i64 (r.mn : Int)) ∧ w.cell? ⟨R, 3, none⟩ = some tv ∧
    w.cell? ⟨R, 4, none⟩ = some (.int .u64 (r.first : Int)) ∧ w.cell? ⟨R, 5, none⟩ = some (.int .u64 (r.top : Int)) ∧ w.cell? ⟨R, 6, none⟩ = some (.int .i64 (r.en : Int)) ∧ w.cell? ⟨R, 7, none⟩ = some (.bool r.down) ∧
    ∀ j, w.frozen? ⟨R, j, none⟩ = false :=
  ⟨h.ob.cell 0, h.ob.cell 1, h.ob.cell 2, h.ob.cell 3, h.ob.cell 4, h.ob.cell 5, h.ob.cell 6, h.ob.cell 7, h.ob.free⟩
theorem RowAt.fp_lt (h : RowAt base w R D tv r) : ∀ k ∈ rwFp R tv, base ≤ k ∧ k < w.heap.size := by
  intro k hk
  rw [← rwFp_eq r] at hk
  exact h.ob.fp_lt k hk
theorem RowAt.texts (h : RowAt base w R D tv r) : w.ownsRow base 9 1 tv r.texts.length (strV r.texts) := h.ob.own ⟨tv, 9, 1, r.texts.length, strV r.texts⟩ (by simp [RS.rows])
theorem RowAt.kept (h : RowAt base w R D tv r) {fp : List Nat} (ho : Only fp w w') (hd : ∀ k ∈ rwFp R tv, k ∉ fp) : RowAt base w' R D tv r := ⟨h.ob.kept ho (by rw [rwFp_eq]; exact hd), h.lay, h.num⟩
theorem RowAt.new (h : RowAt base w R D tv r) (ho : Only [] w w') : RowAt base w' R D tv r := h.kept ho (by simp)
theorem RowAt.same (h : RowAt base w R D tv r) (hs : ∀ k ∈ rwFp R tv, w'.heap[k]? = w.heap[k]?) : RowAt base w' R D tv r := ⟨h.ob.same (by rw [rwFp_eq]; exact hs), h.lay, h.num⟩
end
/-- Drives, and a row on one of them. -/
structure Rw (w0 w : World) (l : List (Nat × DS)) (F : List Nat) (i D : Nat) (s : DS) (R : Nat) (tv : Value) (r : RS) : Prop where
  dr : Dr w0 w l F
  hi : l[i]? = some (D, s)
  row : RowAt w0.heap.size w R D tv r
  fp : ∀ k ∈ rwFp R tv, k ∈ F
theorem Rw.new {w0 w w' : World} {l : List (Nat × DS)} {F : List Nat} {i D : Nat} {s : DS} {R : Nat} {tv : Value} {r : RS} (h : Rw w0 w l F i D s R tv r) (ho : Only [] w w') : Rw w0 w' l F i D s R tv r :=
  ⟨h.dr.new ho, h.hi, h.row.new ho, h.fp⟩
theorem Only.drewN (fp : List Nat) (w : World) (n : Nat) : Only fp w (w.drewN n) := ⟨rfl, rfl, rfl, Nat.le_refl _, fun _ _ _ => rfl⟩
theorem Rw.read {w0 w : World} {l : List (Nat × DS)} {F : List Nat} {i D : Nat} {s : DS} {R : Nat} {tv : Value} {r : RS} (h : Rw w0 w l F i D s R tv r) (n : Nat) (m : Int) :
    Calls Try.prog 10 #[.pointer (some ⟨D, 0, none⟩), .int .i64 m] (w.drewN n) fun e w' => e = .returned (.tuple #[.string (readS s m), .int .i64 (hasE s.now.length m)]) ∧ w' = w.drewN n :=
  (h.new (Only.drewN [] w n)).dr.read h.hi m
/-- Something is appended to a row that is new since w. -/
theorem Only.appended {w wr W : World} {e : TypeId} {sz n : Nat} {v : Value} {xs : List Value} {ob : Obj} (m : Nat) (h : Only [] w wr) (ho : wr.ownsRow w.heap.size e sz v n xs) (hg : ((wr.drewN m).alloc ob).grownBy W v.ownBlock) : Only [] w W := by
  have h2 : Only v.ownBlock.toList wr W := ((Only.drewN _ wr m).trans (Only.alloc _ _ ob) (fun _ h _ => h)).trans (Only.of_grown hg (fun k hk => by rw [hk]; simp)) (fun _ h _ => h)
  exact h.trans h2 (fun k hk hl => by have := (ownsRow_lt ho hk).1; omega)
/-- A row's sectors. -/
def rowSec (s : DS) (fr mn : Nat) : List ByteArray := (List.range mn).map fun j => readS s ((fr + j : Nat) : Int)
theorem rowSec_len (s : DS) (fr mn : Nat) : (rowSec s fr mn).length = mn := by unfold rowSec; rw [List.length_map, List.length_range]
theorem rowSec_succ (s : DS) (fr mn : Nat) : rowSec s fr (mn + 1) = rowSec s fr mn ++ [readS s ((fr + mn : Nat) : Int)] := by unfold rowSec; rw [List.range_succ, List.map_append]; rfl
theorem strV_snoc (l : List ByteArray) (x : ByteArray) : strV (l ++ [x]) = strV l ++ [.string x] := by unfold strV; rw [List.map_append]; rfl
theorem one_str (s : ByteArray) : ∀ u ∈ [Value.string s], u.oneCell' = true := by intro u hu; rw [List.mem_singleton.1 hu]; rfl
end Go.Proofs.Ythbbdilcclepoaa

/- A row: the calls that only look: none, First, Top, End, Room; Size of no drive. -/
set_option maxRecDepth 100000
set_option linter.unusedVariables false
set_option linter.unusedSimpArgs false
namespace Go.Proofs.Ythbbdilcclepoaa
open Go Go.RowKit Go.Proofs.YthbbdilcclepoaaW.PrintWords Go.Proofs.YthbbdilcclepoaaW.PrintLast Go.Proofs.YthbbdilcclepoaaW.PrintMore
attribute [local go_sem] Oper.semAt_some max2_int min2_int max_two min_two max_three min_three max_four min_four
theorem Size_nil (w : World) : Calls Try.prog 21 #[.pointer none] w fun e w' => e = .returned (.int .i64 0) ∧ w' = w := by
  go_enter Try.func21, Try.ntmps21
  go_wp2
  go_ret
  exact ⟨rfl, rfl⟩
section
variable {base : Nat} {w : World} {R D : Nat} {tv : Value} {r : RS}
theorem Row_none (h : RowAt base w R D tv r) : Calls Try.prog 43 #[ptr R] w fun e w' => e = .returned (.bool false) ∧ w' = w := by
  obtain ⟨h0, -, -, -, -, -, -, -, f⟩ := h.cells
  have f0 := f 0
  unfold ptr at *
  clear h f
  go_enter Try.func43, Try.ntmps43
  go_wp2
  go_ret
  exact ⟨rfl, rfl⟩
theorem Row_First (h : RowAt base w R D tv r) : Calls Try.prog 27 #[ptr R] w fun e w' => e = .returned (.int .u64 (r.first : Int)) ∧ w' = w := by
  obtain ⟨h0, h1, h2, h3, h4, h5, h6, h7, f⟩ := h.cells
  have f4 := f 4
  have f5 := f 5
  have f6 := f 6
  have f2 := f 2
  have HD := hid h
  have HL := h.lay
  unfold ptr at *
  clear h f h0 h1 h3 h7
  go_enter Try.func27, Try.ntmps27
  go_wp2_with (go_at_call 43; refine (Row_none HD.out).mono ?_; rintro e w' ⟨rfl, rfl⟩)
  go_ret
  exact ⟨by first | rfl | go_num, rfl⟩
theorem Row_Top (h : RowAt base w R D tv r) : Calls Try.prog 23 #[ptr R] w fun e w' => e = .returned (.int .u64 (r.top : Int)) ∧ w' = w := by
  obtain ⟨h0, h1, h2, h3, h4, h5, h6, h7, f⟩ := h.cells
  have f4 := f 4
  have f5 := f 5
  have f6 := f 6
  have f2 := f 2
  have HD := hid h
  have HL := h.lay
  unfold ptr at *
  clear h f h0 h1 h3 h7
  go_enter Try.func23, Try.ntmps23
  go_wp2_with (go_at_call 43; refine (Row_none HD.out).mono ?_; rintro e w' ⟨rfl, rfl⟩)
  go_ret
  exact ⟨by first | rfl | go_num, rfl⟩
theorem Row_End (h : RowAt base w R D tv r) : Calls Try.prog 35 #[ptr R] w fun e w' => e = .returned (.int .i64 (r.en : Int)) ∧ w' = w := by
  obtain ⟨h0, h1, h2, h3, h4, h5, h6, h7, f⟩ := h.cells
  have f4 := f 4
  have f5 := f 5
  have f6 := f 6
  have f2 := f 2
  have HD := hid h
  have HL := h.lay
  unfold ptr at *
  clear h f h0 h1 h3 h7
  go_enter Try.func35, Try.ntmps35
  go_wp2_with (go_at_call 43; refine (Row_none HD.out).mono ?_; rintro e w' ⟨rfl, rfl⟩)
  go_ret
  exact ⟨by first | rfl | go_num, rfl⟩
theorem Row_Room (h : RowAt base w R D tv r) : Calls Try.prog 36 #[ptr R] w fun e w' => e = .returned (.int .i64 ((r.mn - r.en : Nat) : Int)) ∧ Only [] w w' := by
  obtain ⟨h0, h1, h2, h3, h4, h5, h6, h7, f⟩ := h.cells
  have f6 := f 6
  have f2 := f 2
  have HD := hid h
  have HL := h.lay
  have e1 : ((r.mn : Nat) : Int) - (r.en : Int) = ((r.mn - r.en : Nat) : Int) := by omega
  unfold ptr at *
  clear h f h0 h1 h3 h7 h4 h5
  go_enter Try.func36, Try.ntmps36
  go_wp2_with (go_at_call 43; refine (Row_none HD.out).mono ?_; rintro e w' ⟨rfl, rfl⟩)
  go_quiet (fail)
  go_wp2
  go_ret
  exact ⟨by go_num, Only.of_below (by apply pw_below_drewN; exact Below.refl _ _)⟩
end
end Go.Proofs.Ythbbdilcclepoaa

/- A row: its sectors. -/
set_option maxRecDepth 100000
set_option linter.unusedVariables false
set_option linter.unusedSimpArgs false
namespace Go.Proofs.Ythbbdilcclepoaa
open Go Go.RowKit Go.Proofs.YthbbdilcclepoaaW.PrintWords Go.Proofs.YthbbdilcclepoaaW.PrintLast Go.Proofs.YthbbdilcclepoaaW.PrintMore
attribute [local go_sem] Oper.semAt_some max2_int min2_int max_two min_two max_three min_three max_four min_four
theorem Row_sectors {w0 w : World} {l : List (Nat × DS)} {F : List Nat} {i D : Nat} {s : DS} {R : Nat} {tv : Value} {r : RS} (h : Rw w0 w l F i D s R tv r) :
    Calls Try.prog 32 #[ptr R] w fun e w' => ∃ v, e = .returned v ∧ w'.ownsRow w.heap.size 9 1 v r.mn (strV (rowSec s r.fr r.mn)) ∧ Only [] w w' := by
  have HW := hid h
  have HL := hid h.row.lay
  have HC := hid (fun w' (ho : Only [] w w') => (h.new ho).row.cells)
  obtain ⟨h0, h1, h2, h3, h4, h5, h6, h7, f⟩ := h.row.cells
  have f2 := f 2
  unfold ptr at *
  clear h f h0 h1 h3 h4 h5 h6 h7
  go_enter Try.func32, Try.ntmps32
  go_wp2
  go_loopw [3, 11] (fun v' q wr => ∃ (v : Value) (j : Nat), v = v' ∧ q = .int .i64 (j : Int) ∧ Aside0 (j ≤ r.mn) ∧ Aside0 (wr.ownsRow w.heap.size 9 1 v j (strV (rowSec s r.fr j))) ∧ Aside0 (Only [] w wr)) (fun _ q _ => r.mn - (intOf q).toNat)
  case atStart => exact ⟨.slice none 0 0, 0, rfl, rfl, ⟨Nat.zero_le _⟩, ⟨World.ownsRow_nil _ _ _ _⟩, ⟨Only.refl _ _⟩⟩
  case round =>
    obtain ⟨v, j, rfl, rfl, HJ, HO, HB⟩ := hrel
    by_cases c : j < r.mn
    · have d1 : decide ((j : Int) < (r.mn : Int)) = true := decide_eq_true (by omega)
      have d2 : decide (j < r.mn) = true := decide_eq_true c
      obtain ⟨k0, k1, -, -, -, -, -, -, f⟩ := HC.out wr HB.out
      have f0 := f 0
      have f1 := f 1
      obtain ⟨tj, htj, hjz, hjs, hjb⟩ := info_three Q.info9
      have HTJ := hid (And.intro htj (And.intro hjz (And.intro hjs hjb)))
      have HR := hid (HW.out.new HB.out)
      have C1 := hid c
      have HB4 := hid (show r.fr + r.mn ≤ 4096 from HL.out.1)
      have e1 : r.fr + j ≤ 4096 := by have := HL.out.1; omega
      have HE := hid e1
      have hB1 := hid HB.out.size
      clear c htj hjz hjs hjb f
      go_wp2
      go_quiet ((go_at_call 10; exact Calls.quiet_of_same (HR.out.read _ _)))
      go_wp2_with (at_builtin; refine wpList_append_lies _ rfl (.tmp 28) (.tmp 30) 22 rfl w.heap.size 9 tj _ 1 16 Try.underlying22 HTJ.out.1 HTJ.out.2.1 HTJ.out.2.2.1 HTJ.out.2.2.2 rfl (by decide) v j _ rfl (HO.out.alloc _) ⟨wr.heap.size, 0, none⟩ 1 1 [.string (readS s ((r.fr : Int) + (j : Int)))] rfl rfl (World.news_of_block (heap_alloc_new wr _)) (one_str _) (by decide) (by have := HE.out; unfold maxLen; omega) (by have := HE.out; omega) (by have := hB1.out; simp; omega) (wr.heap.size + 1) (by simp) ?_; intro g4 cap4 W4 hown4 hgrow4 hat4 hgl4)
      have hA := HB.out.appended nq HO.out hgrow4
      have eS := rowSec_succ s r.fr j
      rw [Int.natCast_add] at eS
      rw [← strV_snoc, ← eS] at hown4
      exact ⟨⟨_, j + 1, rfl, by go_num, ⟨by have := C1.out; omega⟩, ⟨hown4⟩, ⟨hA⟩⟩, by simp [intOf]; have := C1.out; omega⟩
    · have d1 : decide ((j : Int) < (r.mn : Int)) = false := decide_eq_false (by omega)
      have d2 : decide (j < r.mn) = false := decide_eq_false c
      have hin : j = r.mn := by have := HJ.out; omega
      have hR := HO.out
      rw [hin] at hR
      have HRR := hid hR
      clear hR hin c
      go_wp2_with fail
      go_ret
      exact ⟨_, rfl, HRR.out, HB.out⟩
end Go.Proofs.Ythbbdilcclepoaa
