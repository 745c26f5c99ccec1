import Derived.Test.YtnhgakmnkpjpdaaR2
import Derived.StillTailTactics
import Derived.Deep.RegionLaw
import Derived.Deep.RegionHeld3
import Derived.Lib.LazyBuf
/- A row: put, plain; a row whose struct is stored to. -/
set_option maxRecDepth 100000
set_option linter.unusedVariables false
set_option linter.unusedSimpArgs false
namespace Go.Proofs.Ytnhgakmnkpjpdaa
open Go Go.RowKit Go.Proofs.Ytnhgakmnkpjpdaa.Q Go.Proofs.Ytnhgakmnkpjpdaa.Pure Go.Proofs.YtnhgakmnkpjpdaaW.PrintWords Go.Proofs.YtnhgakmnkpjpdaaW.PrintLast Go.Proofs.YtnhgakmnkpjpdaaW.PrintMore
attribute [local go_sem] Oper.semAt_some max2_int min2_int max_two min_two max_three min_three max_four min_four
theorem B_self (S : ByteArray) : B S.data.toList = S := by simp [B]
/-- Some leaves are written, till a write fails. -/
def wl (s : DS) (n : Nat) : List ByteArray → DS × Int
  | [] => (s, 0)
  | b :: l => if (writeR s n b).2 = 0 then wl (writeR s n b).1 (n + 1) l else writeR s n b
theorem wl_snoc (l : List ByteArray) (b : ByteArray) : ∀ (s : DS) (n : Nat), wl s n (l ++ [b]) = if (wl s n l).2 = 0 then writeR (wl s n l).1 ((n + l.length : Nat) : Int) b else wl s n l := by
  induction l with
  | nil =>
    intro s n
    show (if (writeR s n b).2 = 0 then _ else _) = if (0 : Int) = 0 then writeR s ((n + 0 : Nat) : Int) b else _
    rw [if_pos rfl, Nat.add_zero]
    split
    · rename_i h
      show ((writeR s n b).1, (0 : Int)) = writeR s n b
      rw [← h]
    · rfl
  | cons a l ih =>
    intro s n
    show (if (writeR s n a).2 = 0 then wl (writeR s n a).1 (n + 1) (l ++ [b]) else writeR s n a) = if (if (writeR s n a).2 = 0 then wl (writeR s n a).1 (n + 1) l else writeR s n a).2 = 0 then writeR (if (writeR s n a).2 = 0 then wl (writeR s n a).1 (n + 1) l else writeR s n a).1 _ b else (if (writeR s n a).2 = 0 then wl (writeR s n a).1 (n + 1) l else writeR s n a)
    split
    · rw [ih, show n + 1 + l.length = n + (a :: l).length by rw [List.length_cons]; omega]
    · rfl
theorem wl_stop (l' : List ByteArray) : ∀ (l : List ByteArray) (s : DS) (n : Nat) (h : (wl s n l).2 ≠ 0), wl s n (l ++ l') = wl s n l := by
  induction l' with
  | nil => intro l s n h; rw [List.append_nil]
  | cons b l' ih =>
    intro l s n h
    have e : wl s n (l ++ [b]) = wl s n l := by rw [wl_snoc, if_neg h]
    rw [show l ++ b :: l' = (l ++ [b]) ++ l' by simp, ih (l ++ [b]) s n (by rw [e]; exact h), e]
theorem writeR_len (s : DS) (n : Int) (t : ByteArray) : (writeR s n t).1.now.length = s.now.length ∧ (writeR s n t).1.opn.length ≤ s.opn.length + 1 := by
  unfold writeR wrR
  split
  · split
    · split
      · exact ⟨rfl, by simp⟩
      · simp [writeS]
    · exact ⟨rfl, by simp⟩
  · exact ⟨rfl, by simp⟩
theorem wl_len (l : List ByteArray) : ∀ (s : DS) (n : Nat), (wl s n l).1.now.length = s.now.length ∧ (wl s n l).1.opn.length ≤ s.opn.length + l.length := by
  induction l with
  | nil => intro s n; exact ⟨rfl, by simp [wl]⟩
  | cons b l ih =>
    intro s n
    have h1 := writeR_len s n b
    rw [List.length_cons, wl]
    split
    · have h2 := ih (writeR s n b).1 (n + 1)
      exact ⟨h2.1.trans h1.1, by omega⟩
    · exact ⟨h1.1, by omega⟩
/-- What put does: the drive, the row, how many sectors, the error. -/
structure PutR where
  s : DS
  r : RS
  n : Nat
  e : Int
def putR (s : DS) (r : RS) (a st : Nat) (S : ByteArray) : PutR :=
  if r.down = true then ⟨s, r, 0, 30⟩ else if st ≤ r.top then ⟨s, r, 0, 2⟩ else if 98304 < S.size then ⟨s, r, 0, 3⟩ else
  if r.mn - a < nP (txt S.data.toList) then ⟨s, r, 0, 6⟩ else
  if (wl s (r.fr + a) (sheafL st S.data.toList)).2 = 0 then ⟨(wl s (r.fr + a) (sheafL st S.data.toList)).1, { r with top := st }, nP (txt S.data.toList), 0⟩
  else ⟨(wl s (r.fr + a) (sheafL st S.data.toList)).1, { r with down := (wl s (r.fr + a) (sheafL st S.data.toList)).2 == 30 }, 0, (wl s (r.fr + a) (sheafL st S.data.toList)).2⟩
/-! A row's struct is stored to -/
section
variable {w0 w w' : World} {l : List (Nat × DS)} {F : List Nat} {i D : Nat} {s s' : DS} {R : Nat} {tv : Value} {r r' : RS}
theorem Rw.set (h : Rw w0 w l F i D s R tv r) (j : Nat) (x : Value) (hc : r'.cs D tv = (r.cs D tv).setIfInBounds j x) (ht : r'.texts = r.texts) (hl : r'.fr + r'.mn ≤ 4096 ∧ r'.en ≤ r'.mn ∧ r'.texts.length ≤ r'.en) (hn : r'.first < 18446744073709551616 ∧ r'.top < 18446744073709551616) :
    Rw w0 (w.setCell ⟨R, j, none⟩ x) l F i D s R tv r' ∧ Only [R] w (w.setCell ⟨R, j, none⟩ x) := by
  have h2 := h.row.ob.set j x
  rw [← hc] at h2
  refine ⟨⟨h.dr.grow [R] F h2.2 (fun k hk => ?_) (fun k hk => .inl hk), h.hi, ⟨?_, hl, hn⟩, h.fp⟩, h2.2⟩
  · rw [List.mem_singleton.1 hk]
    exact ⟨h.fp R (by simp [rwFp]), h.row.ob.hO⟩
  · have e : r'.rows tv = r.rows tv := by unfold RS.rows; rw [ht]
    rw [e]; exact h2.1
theorem Rw.went (h : Rw w0 w l F i D s R tv r) (hd : Dr w0 w' (l.set i (D, s')) F) (hs : Same F w w') : Rw w0 w' (l.set i (D, s')) F i D s' R tv r := by
  have hil : i < l.length := (List.getElem?_eq_some_iff.1 h.hi).1
  exact ⟨hd, by rw [List.getElem?_set, if_pos rfl, if_pos hil], h.row.same (fun k hk => hs k (h.fp k hk)), h.fp⟩
theorem Rw.write (h : Rw w0 w l F i D s R tv r) (hm : s.opn.length < 1000000) (n : Int) (t : ByteArray) :
    Calls Try.prog 8 #[.pointer (some ⟨D, 0, none⟩), .int .i64 n, .string t] w fun e w' => e = .returned (.int .i64 (writeR s n t).2) ∧ Rw w0 w' (l.set i (D, (writeR s n t).1)) F i D (writeR s n t).1 R tv r ∧ Same F w w' :=
  (h.dr.write h.hi hm n t).mono fun e w' ⟨he, hd, hs⟩ => ⟨he, h.went hd hs, hs⟩
end
end Go.Proofs.Ytnhgakmnkpjpdaa

/- A row: put. -/
set_option maxRecDepth 100000
set_option linter.unusedVariables false
set_option linter.unusedSimpArgs false
namespace Go.Proofs.Ytnhgakmnkpjpdaa
open Go Go.RowKit Go.Proofs.Ytnhgakmnkpjpdaa.Q Go.Proofs.Ytnhgakmnkpjpdaa.Pure Go.Proofs.YtnhgakmnkpjpdaaW.PrintWords Go.Proofs.YtnhgakmnkpjpdaaW.PrintLast Go.Proofs.YtnhgakmnkpjpdaaW.PrintMore
attribute [local go_sem] Oper.semAt_some max2_int min2_int max_two min_two max_three min_three max_four min_four
/-- What put leaves: the drive and the row have gone on; what else there was is as it was. -/
structure PutAt (w0 w w' : World) (l : List (Nat × DS)) (F : List Nat) (i D : Nat) (s' : DS) (R : Nat) (tv : Value) (r' : RS) : Prop where
  rw : Rw w0 w' (l.set i (D, s')) F i D s' R tv r'
  same : ∀ k ∈ F, k ∉ rwFp R tv → w'.heap[k]? = w.heap[k]?
theorem set_self {α : Type} {l : List α} {i : Nat} {x : α} (h : l[i]? = some x) : l.set i x = l := by
  obtain ⟨hi, e⟩ := List.getElem?_eq_some_iff.1 h
  rw [← e]; exact List.set_getElem_self hi
theorem Rw.stay {w0 w w' : World} {l : List (Nat × DS)} {F : List Nat} {i D : Nat} {s : DS} {R : Nat} {tv : Value} {r : RS} (h : Rw w0 w l F i D s R tv r) (ho : Only [] w w') : PutAt w0 w w' l F i D s R tv r :=
  ⟨by rw [set_self h.hi]; exact h.new ho, fun k hk _ => ho.block k (h.dr.lt k hk) (by simp)⟩
section
variable {w0 w : World} {l : List (Nat × DS)} {F : List Nat} {i D : Nat} {s : DS} {R : Nat} {tv : Value} {r : RS}
theorem put_down (h : Rw w0 w l F i D s R tv r) (a st : Nat) (S : ByteArray) (hd : r.down = true) :
    Calls Try.prog 71 #[ptr R, .int .i64 (a : Int), .int .u64 (st : Int), .string S] w fun e w' => e = .returned (.tuple #[.int .i64 0, .int .i64 30]) ∧ w' = w := by
  obtain ⟨h0, h1, h2, h3, h4, h5, h6, h7, f⟩ := h.row.cells
  have f7 := f 7
  have HD := hid h.row
  rw [hd] at h7
  unfold ptr at *
  clear h f hd
  go_enter Try.func71, Try.ntmps71
  go_wp2_with (go_at_call 56; refine (Row_none HD.out).mono ?_; rintro e w' ⟨rfl, rfl⟩)
  go_ret2
  exact ⟨rfl, rfl⟩
theorem put_top (h : Rw w0 w l F i D s R tv r) (a st : Nat) (S : ByteArray) (hd : r.down = false) (ht : st ≤ r.top) :
    Calls Try.prog 71 #[ptr R, .int .i64 (a : Int), .int .u64 (st : Int), .string S] w fun e w' => e = .returned (.tuple #[.int .i64 0, .int .i64 2]) ∧ w' = w := by
  obtain ⟨h0, h1, h2, h3, h4, h5, h6, h7, f⟩ := h.row.cells
  have f7 := f 7
  have f5 := f 5
  have HD := hid h.row
  rw [hd] at h7
  have d1 : decide ((st : Int) ≤ (r.top : Int)) = true := decide_eq_true (by omega)
  have d2 : decide (st ≤ r.top) = true := decide_eq_true ht
  unfold ptr at *
  clear h f hd ht
  go_enter Try.func71, Try.ntmps71
  go_wp2_with (go_at_call 56; refine (Row_none HD.out).mono ?_; rintro e w' ⟨rfl, rfl⟩)
  go_ret2
  exact ⟨rfl, rfl⟩
theorem put_long (h : Rw w0 w l F i D s R tv r) (a st : Nat) (S : ByteArray) (hd : r.down = false) (ht : ¬ st ≤ r.top) (hS : 98304 < S.size) :
    Calls Try.prog 71 #[ptr R, .int .i64 (a : Int), .int .u64 (st : Int), .string S] w fun e w' => e = .returned (.tuple #[.int .i64 0, .int .i64 3]) ∧ Only [] w w' := by
  obtain ⟨h0, h1, h2, h3, h4, h5, h6, h7, f⟩ := h.row.cells
  have f7 := f 7
  have f5 := f 5
  have HD := hid h.row
  rw [hd] at h7
  have d1 : decide ((st : Int) ≤ (r.top : Int)) = false := decide_eq_false (by omega)
  have d2 : decide (st ≤ r.top) = false := decide_eq_false ht
  have HP := hid (Put_long (st : Int) S (by omega) hS)
  unfold ptr at *
  clear h f hd ht hS
  go_enter Try.func71, Try.ntmps71
  go_wp2_with (first | (go_at_call 56; refine (Row_none HD.out).mono ?_; rintro e w' ⟨rfl, rfl⟩) | (go_at_call 77; refine (sheaf_Put.calls _ _ _ _ _ HP.out).mono ?_; rintro e w4 ⟨v0, rfl, hR, hb⟩; obtain ⟨A, c, rfl⟩ : ∃ A c, v0 = Value.slice A 0 c := (by obtain ⟨A, c, e, -, -⟩ := Kd.R_reads hR; exact ⟨A, c, e⟩); have HB := hid (Only.of_below (fp := []) hb); clear hb hR h0 h1 h2 h3 h4 h5 h6 h7))
  go_loopw [11, 50] (fun v q wr => v = .int .i64 3 ∧ q = .int .i64 0 ∧ wr = w4) (fun _ _ _ => 0)
  case atStart => exact ⟨rfl, rfl, rfl⟩
  case round =>
    obtain ⟨rfl, rfl, rfl⟩ := hrel
    go_wp2_with fail
    go_ret2
    exact ⟨rfl, HB.out⟩
theorem put_full (h : Rw w0 w l F i D s R tv r) (a st : Nat) (S : ByteArray) (hst : st < 18446744073709551616) (ha : a ≤ r.mn) (hd : r.down = false) (ht : ¬ st ≤ r.top) (hS : ¬ 98304 < S.size) (hf : r.mn - a < nP (txt S.data.toList)) :
    Calls Try.prog 71 #[ptr R, .int .i64 (a : Int), .int .u64 (st : Int), .string S] w fun e w' => e = .returned (.tuple #[.int .i64 0, .int .i64 6]) ∧ Only [] w w' := by
  obtain ⟨h0, h1, h2, h3, h4, h5, h6, h7, f⟩ := h.row.cells
  have f7 := f 7
  have f5 := f 5
  have HD := hid h.row
  have HC := hid (fun w' (ho : Only [] w w') => (h.new ho).row.cells)
  rw [hd] at h7
  have d1 : decide ((st : Int) ≤ (r.top : Int)) = false := decide_eq_false (by omega)
  have d2 : decide (st ≤ r.top) = false := decide_eq_false ht
  have hSS : B S.data.toList = S := B_self S
  have hp := Put_f st S.data.toList (by omega) hst (by rw [Array.length_toList]; show S.size ≤ 98304; omega)
  rw [hSS] at hp
  obtain ⟨L, hL⟩ : ∃ L, L = sheafL st S.data.toList := ⟨_, rfl⟩
  rw [← hL] at hp
  have hll : L.length = nP (txt S.data.toList) := by rw [hL, sheafL_len]
  rw [← hll] at hf
  have HP := hid hp
  have hmn : r.mn ≤ 4096 := by have := h.row.lay; omega
  have e1 : (r.mn : Int) - (a : Int) = ((r.mn - a : Nat) : Int) := by omega
  have d3 : decide ((r.mn : Int) - (a : Int) < (L.length : Int)) = true := decide_eq_true (by omega)
  have d4 : decide (r.mn - a < L.length) = true := decide_eq_true hf
  have hpos : 0 < L.length := by omega
  have d5 : decide (0 < (L.length : Int)) = true := decide_eq_true (by omega)
  have d6 : decide (0 < L.length) = true := decide_eq_true hpos
  unfold ptr at *
  clear h f hd ht hS hSS hp hL hll hf
  go_enter Try.func71, Try.ntmps71
  go_wp2_with (first | (go_at_call 56; refine (Row_none HD.out).mono ?_; rintro e w' ⟨rfl, rfl⟩) | (go_at_call 77; refine (sheaf_Put.calls _ _ _ _ _ HP.out).mono ?_; rintro e w4 ⟨v0, rfl, hR, hb⟩; obtain ⟨g, c, cur, rfl, -, hg, hnc, hcm, hcs, hcur⟩ := ownsRow_slice (R_own_str hR) hpos; have HB := hid (Only.of_below (fp := []) hb); have HRR := hid (R_own_str hR); obtain ⟨-, -, k2, -⟩ := HC.out w4 HB.out; clear hb hR h0 h1 h2 h3 h4 h5 h6 h7 hg hcur))
  go_loopw [11, 50] (fun v q wr => v = .int .i64 6 ∧ q = .int .i64 0 ∧ wr = w4) (fun _ _ _ => 0)
  case atStart => exact ⟨rfl, rfl, rfl⟩
  case round =>
    obtain ⟨rfl, rfl, rfl⟩ := hrel
    obtain ⟨x, hx⟩ : ∃ x, (strV L)[0]? = some (.string x) := by
      rw [strV, List.getElem?_map]
      exact ⟨L[0], by rw [List.getElem?_eq_getElem hpos]; rfl⟩
    have x0 : wr.cell? ⟨g, 0, none⟩ = some (.string x) := HRR.out.cells (g := g) rfl 0 _ hx
    have x1 : wr.frozen? ⟨g, 0, none⟩ = false := World.ownsRow.frozenAt HRR.out 0
    go_wp2_with fail
    go_ret2
    exact ⟨rfl, HB.out⟩
end
end Go.Proofs.Ytnhgakmnkpjpdaa

/- A row: put writes. -/
set_option maxRecDepth 100000
set_option linter.unusedVariables false
set_option linter.unusedSimpArgs false
namespace Go.Proofs.Ytnhgakmnkpjpdaa
open Go Go.RowKit Go.Proofs.Ytnhgakmnkpjpdaa.Q Go.Proofs.Ytnhgakmnkpjpdaa.Pure Go.Proofs.YtnhgakmnkpjpdaaW.PrintWords Go.Proofs.YtnhgakmnkpjpdaaW.PrintLast Go.Proofs.YtnhgakmnkpjpdaaW.PrintMore
attribute [local go_sem] Oper.semAt_some max2_int min2_int max_two min_two max_three min_three max_four min_four
section
variable {w0 w : World} {l : List (Nat × DS)} {F : List Nat} {i D : Nat} {s : DS} {R : Nat} {tv : Value} {r : RS}
/-- Under way: so many leaves have been written. -/
structure PutGo (w0 w wr : World) (l : List (Nat × DS)) (F : List Nat) (i D : Nat) (R : Nat) (tv : Value) (r : RS) (g c : Nat) (L : List ByteArray) (P : DS × Int) : Prop where
  rw : Rw w0 wr (l.set i (D, P.1)) (g :: F) i D P.1 R tv { r with down := P.2 == 30 }
  own : wr.ownsRow w.heap.size 9 1 (.slice (some ⟨g, 0, none⟩) L.length c) L.length (strV L)
  same : ∀ k ∈ F, k ∉ rwFp R tv → wr.heap[k]? = w.heap[k]?
theorem PutGo.start (h : Rw w0 w l F i D s R tv r) (hd : r.down = false) {w4 : World} {g c : Nat} {L : List ByteArray} (ho : Only [] w w4) (hr : w4.ownsRow w.heap.size 9 1 (.slice (some ⟨g, 0, none⟩) L.length c) L.length (strV L)) : PutGo w0 w w4 l F i D R tv r g c L (s, 0) := by
  have hg := ownsRow_lt hr (k := g) (by simp [Value.ownBlock])
  refine ⟨⟨?_, ?_, ?_, fun k hk => List.mem_cons_of_mem _ (h.fp k hk)⟩, hr, fun k hk _ => ho.block k (h.dr.lt k hk) (by simp)⟩
  · rw [set_self h.hi]
    exact h.dr.grow [] _ ho (by simp) (fun k hk => (List.mem_cons.1 hk).elim (fun e => .inr (e ▸ hg)) .inl)
  · rw [set_self h.hi]; exact h.hi
  · have e : ({ r with down := ((0 : Int) == 30) } : RS) = r := by cases r; simp only at hd; subst hd; rfl
    show RowAt _ _ _ _ _ { r with down := ((0 : Int) == 30) }
    rw [e]; exact h.row.new ho
theorem PutGo.drawn {wr : World} {g c : Nat} {L : List ByteArray} {P : DS × Int} (h : PutGo w0 w wr l F i D R tv r g c L P) : PutGo w0 w wr.drew l F i D R tv r g c L P :=
  ⟨h.rw.new (Only.drew _ _), h.own, h.same⟩
/-- One more. -/
theorem PutGo.next {wr w3 : World} {g c : Nat} {L : List ByteArray} {P P' : DS × Int} (h : PutGo w0 w wr l F i D R tv r g c L P) (hw : Rw w0 w3 ((l.set i (D, P.1)).set i (D, P'.1)) (g :: F) i D P'.1 R tv { r with down := P.2 == 30 }) (hs : Same (g :: F) wr w3) :
    PutGo w0 w (w3.setCell ⟨R, 7, none⟩ (.bool (P'.2 == 30))) l F i D R tv r g c L P' := by
  rw [List.set_set] at hw
  have h2 := hw.set 7 (.bool (P'.2 == 30)) (r' := { r with down := P'.2 == 30 }) rfl rfl hw.row.lay hw.row.num
  have hg : g ≠ R := fun e => by
    have h3 := h.own
    have h4 := h.rw.row.ob.obj
    rcases h3.2 with ⟨hv, -⟩ | ⟨g', c', cur, hv, -, hgg, -⟩
    · cases hv
    injection hv with hv
    injection hv with hv
    injection hv with hv
    rw [← hv] at hgg
    rw [e, h4] at hgg
    injection hgg with hgg
    injection hgg with _ hgg
    exact absurd hgg (by decide)
  refine ⟨h2.1, ?_, fun k hk hn => ?_⟩
  · refine ownsRow_at h.own (fun k hk => ?_)
    have e : k = g := by simpa [Value.ownBlock, eq_comm] using hk
    subst e
    exact (heap_setCell_other _ _ _ _ (by simpa using hg)).trans (hs _ (by simp))
  · have hkR : k ≠ R := fun e => hn (by simp [rwFp, e])
    exact ((heap_setCell_other _ _ _ _ (by simpa using hkR)).trans (hs k (List.mem_cons_of_mem _ hk))).trans (h.same k hk hn)
theorem PutGo.done {wr : World} {g c : Nat} {L : List ByteArray} {P : DS × Int} (h : PutGo w0 w wr l F i D R tv r g c L P) (hfp : ∀ k ∈ rwFp R tv, k ∈ F) : PutAt w0 w wr l F i D P.1 R tv { r with down := P.2 == 30 } :=
  ⟨⟨h.rw.dr.less F (fun k hk => List.mem_cons_of_mem _ hk), h.rw.hi, h.rw.row, hfp⟩, h.same⟩
theorem PutGo.top {wr : World} {g c : Nat} {L : List ByteArray} {P : DS × Int} (h : PutGo w0 w wr l F i D R tv r g c L P) (hfp : ∀ k ∈ rwFp R tv, k ∈ F) (h0 : P.2 = 0) (hd : r.down = false) (st : Nat) (hst : st < 18446744073709551616) :
    PutAt w0 w (wr.setCell ⟨R, 5, none⟩ (.int .u64 (st : Int))) l F i D P.1 R tv { r with top := st } := by
  have hp := h.done hfp
  have e : ({ r with down := P.2 == 30 } : RS) = r := by rw [h0]; cases r; simp only at hd; subst hd; rfl
  rw [e] at hp
  have h2 := hp.rw.set 5 (.int .u64 (st : Int)) (r' := { r with top := st }) rfl rfl hp.rw.row.lay ⟨hp.rw.row.num.1, hst⟩
  refine ⟨h2.1, fun k hk hn => ?_⟩
  · have hkR : k ≠ R := fun e => hn (by simp [rwFp, e])
    exact (heap_setCell_other _ _ _ _ (by simpa using hkR)).trans (hp.same k hk hn)
end
end Go.Proofs.Ytnhgakmnkpjpdaa

/- A row: put, its walk where it writes; all of put. -/
set_option maxRecDepth 100000
set_option linter.unusedVariables false
set_option linter.unusedSimpArgs false
namespace Go.Proofs.Ytnhgakmnkpjpdaa
open Go Go.RowKit Go.Proofs.Ytnhgakmnkpjpdaa.Q Go.Proofs.Ytnhgakmnkpjpdaa.Pure Go.Proofs.YtnhgakmnkpjpdaaW.PrintWords Go.Proofs.YtnhgakmnkpjpdaaW.PrintLast Go.Proofs.YtnhgakmnkpjpdaaW.PrintMore
attribute [local go_sem] Oper.semAt_some max2_int min2_int max_two min_two max_three min_three max_four min_four
section
variable {w0 w : World} {l : List (Nat × DS)} {F : List Nat} {i D : Nat} {s : DS} {R : Nat} {tv : Value} {r : RS}
set_option maxHeartbeats 1000000 in
theorem put_main (h : Rw w0 w l F i D s R tv r) (a st : Nat) (S : ByteArray) (hst : st < 18446744073709551616) (ha : a ≤ r.mn) (hm : s.opn.length < 900000) (hd : r.down = false) (ht : ¬ st ≤ r.top) (hS : ¬ 98304 < S.size) (hf : ¬ r.mn - a < nP (txt S.data.toList)) (L : List ByteArray) (hL : L = sheafL st S.data.toList) :
    Calls Try.prog 71 #[ptr R, .int .i64 (a : Int), .int .u64 (st : Int), .string S] w fun e w' => ((wl s (r.fr + a) L).2 = 0 ∧ e = .returned (.tuple #[.int .i64 (L.length : Int), .int .i64 0]) ∧ PutAt w0 w w' l F i D (wl s (r.fr + a) L).1 R tv { r with top := st }) ∨
      ((wl s (r.fr + a) L).2 ≠ 0 ∧ e = .returned (.tuple #[.int .i64 0, .int .i64 (wl s (r.fr + a) L).2]) ∧ PutAt w0 w w' l F i D (wl s (r.fr + a) L).1 R tv { r with down := (wl s (r.fr + a) L).2 == 30 }) := by
  obtain ⟨h0, h1, h2, h3, h4, h5, h6, h7, f⟩ := h.row.cells
  have f7 := f 7
  have f5 := f 5
  have HD := hid h.row
  have HC := hid (fun w' (ho : Only [] w w') => (h.new ho).row.cells)
  have HRW := hid h
  have HFP := hid h.fp
  have HDN := hid hd
  have HST := hid hst
  rw [hd] at h7
  have d1 : decide ((st : Int) ≤ (r.top : Int)) = false := decide_eq_false (by omega)
  have d2 : decide (st ≤ r.top) = false := decide_eq_false ht
  have hSS : B S.data.toList = S := B_self S
  have hp := Put_f st S.data.toList (by omega) hst (by rw [Array.length_toList]; show S.size ≤ 98304; omega)
  rw [hSS, ← hL] at hp
  have hll : L.length = nP (txt S.data.toList) := by rw [hL, sheafL_len]
  rw [← hll] at hf
  have HP := hid hp
  have hmn : r.fr + r.mn ≤ 4096 := h.row.lay.1
  have e1 : (r.mn : Int) - (a : Int) = ((r.mn - a : Nat) : Int) := by omega
  have d3 : decide ((r.mn : Int) - (a : Int) < (L.length : Int)) = false := decide_eq_false (by omega)
  have d4 : decide (r.mn - a < L.length) = false := decide_eq_false hf
  have hpos : 0 < L.length := by rw [hll]; exact nP_pos _
  have hLb : a + L.length ≤ r.mn := by omega
  have HLB := hid hLb
  have HPOS := hid hpos
  unfold ptr at *
  clear h f hd ht hS hSS hp hL hll hf hst
  go_enter Try.func71, Try.ntmps71
  go_wp2_with (first | (go_at_call 56; refine (Row_none HD.out).mono ?_; rintro e w' ⟨rfl, rfl⟩) | (go_at_call 77; refine (sheaf_Put.calls _ _ _ _ _ HP.out).mono ?_; rintro e w4 ⟨v0, rfl, hR, hb⟩; obtain ⟨g, c, cur, rfl, -, hg, hnc, hcm, hcs, hcur⟩ := ownsRow_slice (R_own_str hR) hpos; have HB := hid (Only.of_below (fp := []) hb); have HRR := hid (R_own_str hR); obtain ⟨-, -, k2, -⟩ := HC.out w4 HB.out; clear hb hR h0 h1 h2 h3 h4 h5 h6 h7 f5 f7 hg hcur))
  have HPI := hid (PutGo.start HRW.out HDN.out HB.out HRR.out)
  clear k2 HRR HB
  go_loopw [11, 50] (fun v q wr => ∃ (P : DS × Int) (j : Nat), v = .int .i64 P.2 ∧ q = .int .i64 (j : Int) ∧ Aside0 (j ≤ L.length) ∧ Aside0 (P = wl s (r.fr + a) (L.take j)) ∧ Aside0 (PutGo w0 w' wr l F i D R tv r g c L P)) (fun _ q _ => L.length - (intOf q).toNat)
  case atStart => exact ⟨(s, 0), 0, rfl, rfl, ⟨Nat.zero_le _⟩, ⟨rfl⟩, ⟨HPI.out⟩⟩
  case round =>
    obtain ⟨P, j, rfl, rfl, HJ, HQ, HI⟩ := hrel
    clear HPI
    by_cases c1 : j < L.length
    · have e5 : decide ((j : Int) < (L.length : Int)) = true := decide_eq_true (by omega)
      have e6 : decide (j < L.length) = true := decide_eq_true c1
      obtain ⟨x, hxx⟩ : ∃ x, L[j]? = some x := ⟨_, List.getElem?_eq_getElem c1⟩
      have hx : (strV L)[j]? = some (.string x) := by rw [strV, List.getElem?_map, hxx]; rfl
      have HXX := hid hxx
      have x0 : wr.cell? ⟨g, j, none⟩ = some (.string x) := by
        rw [World.ownsRow.cellAt HI.out.own j (by omega)]; exact hx
      have x1 : wr.frozen? ⟨g, j, none⟩ = false := World.ownsRow.frozenAt HI.out.own j
      have p1 : (0 ≤ (j : Int)) = True := eq_true (by omega)
      have p2 : ((j : Int) < (L.length : Int)) = True := eq_true (by omega)
      have C1 := hid c1
      by_cases c2 : P.2 = 0
      · have e7 : (P.2 == 0) = true := by rw [c2]; rfl
        have e8 : (P.2 != 0) = false := by rw [c2]; rfl
        have C2 := hid c2
        obtain ⟨k0, k1, -, -, -, -, -, -, f⟩ := (HI.out.drawn).rw.row.cells
        have f0 := f 0
        have f1 := f 1
        unfold ptr at k0
        have hb1 : r.fr + a + j ≤ 4096 := by have := HLB.out; omega
        have HO := hid (show P.1.opn.length < 1000000 by
          have h3 := (wl_len (L.take j) s (r.fr + a)).2
          rw [← HQ.out, List.length_take] at h3
          have := HLB.out
          omega)
        clear c1 c2 hx hxx f
        go_wp2_with fail
        go_still_tail 13, (by kernel_rfl)
        change wpList _ _ _ _ _ wr.drew
        go_wp2_with fail
        refine ((HI.out.drawn).rw.write HO.out _ _).mono ?_
        rintro e w3 ⟨rfl, hw3, sm⟩
        obtain ⟨P', hP'⟩ : ∃ P', P' = writeR P.1 ((r.fr : Int) + (a : Int) + (j : Int)) x := ⟨_, rfl⟩
        rw [← hP'] at hw3 ⊢
        have HNX := hid (HI.out.drawn.next hw3 sm)
        have HP2 := hid (show P' = wl s (r.fr + a) (L.take (j + 1)) by
          rw [List.take_add_one, HXX.out]
          show P' = wl s (r.fr + a) (L.take j ++ [x])
          rw [wl_snoc, ← HQ.out, if_pos C2.out, hP', List.length_take, Nat.min_eq_left (Nat.le_of_lt C1.out), Int.natCast_add, Int.natCast_add])
        obtain ⟨-, -, -, -, -, -, -, k7, f⟩ := hw3.row.cells
        have f7 := f 7
        clear hw3 sm hP' f HI
        go_wp2_with fail
        go_roundw
        case rel => exact ⟨P', j + 1, rfl, by go_num, ⟨by have := C1.out; omega⟩, ⟨HP2.out⟩, ⟨HNX.out⟩⟩
        case measure => simp [intOf]; have := C1.out; omega
      · have e7 : (P.2 == 0) = false := by simpa using c2
        have e8 : (P.2 != 0) = true := by simpa [bne] using c2
        have HF := hid (show wl s (r.fr + a) L = P by
          have := wl_stop (L.drop j) (L.take j) s (r.fr + a) (by rw [← HQ.out]; exact c2)
          rw [List.take_append_drop, ← HQ.out] at this
          exact this)
        have C2 := hid c2
        clear c1 c2 hx hxx
        go_wp2_with fail
        go_ret2
        refine .inr ⟨by rw [HF.out]; exact C2.out, by rw [HF.out]; rfl, ?_⟩
        rw [HF.out]
        exact HI.out.done HFP.out
    · have e5 : decide ((j : Int) < (L.length : Int)) = false := decide_eq_false (by omega)
      have e6 : decide (j < L.length) = false := decide_eq_false c1
      have HF := hid (show wl s (r.fr + a) L = P by
        have h3 := HQ.out
        rw [List.take_of_length_le (by omega)] at h3
        exact h3.symm)
      clear c1
      by_cases c2 : P.2 = 0
      · have e7 : (P.2 == 0) = true := by rw [c2]; rfl
        have e8 : (P.2 != 0) = false := by rw [c2]; rfl
        have C2 := hid c2
        obtain ⟨-, -, -, -, -, k5, -, -, f⟩ := HI.out.rw.row.cells
        have f5 := f 5
        clear c2 f
        go_wp2_with fail
        go_ret2
        refine .inl ⟨by rw [HF.out]; exact C2.out, rfl, ?_⟩
        rw [HF.out]
        exact HI.out.top HFP.out C2.out HDN.out st HST.out
      · have e7 : (P.2 == 0) = false := by simpa using c2
        have e8 : (P.2 != 0) = true := by simpa [bne] using c2
        have C2 := hid c2
        clear c2
        go_wp2_with fail
        go_ret2
        refine .inr ⟨by rw [HF.out]; exact C2.out, by rw [HF.out]; rfl, ?_⟩
        rw [HF.out]
        exact HI.out.done HFP.out
theorem Row_put (h : Rw w0 w l F i D s R tv r) (a st : Nat) (S : ByteArray) (hst : st < 18446744073709551616) (ha : a ≤ r.mn) (hm : s.opn.length < 900000) :
    Calls Try.prog 71 #[ptr R, .int .i64 (a : Int), .int .u64 (st : Int), .string S] w fun e w' => e = .returned (.tuple #[.int .i64 ((putR s r a st S).n : Int), .int .i64 (putR s r a st S).e]) ∧ PutAt w0 w w' l F i D (putR s r a st S).s R tv (putR s r a st S).r := by
  unfold putR
  by_cases c1 : r.down = true
  · rw [if_pos c1]
    exact (put_down h a st S c1).mono fun e w' ⟨he, hw⟩ => ⟨he, h.stay (hw ▸ Only.refl _ _)⟩
  rw [if_neg c1]
  have d1 : r.down = false := by simpa using c1
  by_cases c2 : st ≤ r.top
  · rw [if_pos c2]
    exact (put_top h a st S d1 c2).mono fun e w' ⟨he, hw⟩ => ⟨he, h.stay (hw ▸ Only.refl _ _)⟩
  rw [if_neg c2]
  by_cases c3 : 98304 < S.size
  · rw [if_pos c3]
    exact (put_long h a st S d1 c2 c3).mono fun e w' ⟨he, hw⟩ => ⟨he, h.stay hw⟩
  rw [if_neg c3]
  by_cases c4 : r.mn - a < nP (txt S.data.toList)
  · rw [if_pos c4]
    exact (put_full h a st S hst ha d1 c2 c3 c4).mono fun e w' ⟨he, hw⟩ => ⟨he, h.stay hw⟩
  rw [if_neg c4]
  refine (put_main h a st S hst ha hm d1 c2 c3 c4 _ rfl).mono fun e w' hp => ?_
  rcases hp with ⟨h0, he, hp⟩ | ⟨h0, he, hp⟩
  · rw [if_pos h0]
    exact ⟨by rw [he, sheafL_len], hp⟩
  · rw [if_neg h0]
    exact ⟨he, hp⟩
end
end Go.Proofs.Ytnhgakmnkpjpdaa

/- A row: Add and Begin. -/
set_option maxRecDepth 100000
set_option linter.unusedVariables false
set_option linter.unusedSimpArgs false
namespace Go.Proofs.Ytnhgakmnkpjpdaa
open Go Go.RowKit Go.Proofs.Ytnhgakmnkpjpdaa.Q Go.Proofs.Ytnhgakmnkpjpdaa.Pure Go.Proofs.YtnhgakmnkpjpdaaW.PrintWords Go.Proofs.YtnhgakmnkpjpdaaW.PrintLast Go.Proofs.YtnhgakmnkpjpdaaW.PrintMore
attribute [local go_sem] Oper.semAt_some max2_int min2_int max_two min_two max_three min_three max_four min_four
/-- What a call leaves: the drive, the row, the error. -/
structure ActR where
  s : DS
  r : RS
  e : Int
def addR (s : DS) (r : RS) (st : Nat) (S : ByteArray) : ActR :=
  if (putR s r r.en st S).e = 0 then ⟨(putR s r r.en st S).s, { (putR s r r.en st S).r with first := if (putR s r r.en st S).r.en = 0 then st else (putR s r r.en st S).r.first, texts := (putR s r r.en st S).r.texts ++ [S], en := (putR s r r.en st S).r.en + (putR s r r.en st S).n }, 0⟩
  else ⟨(putR s r r.en st S).s, (putR s r r.en st S).r, (putR s r r.en st S).e⟩
def beginR (s : DS) (r : RS) (st : Nat) (S : ByteArray) : ActR :=
  if (putR s r 0 st S).e = 0 then ⟨(putR s r 0 st S).s, { (putR s r 0 st S).r with first := st, texts := [S], en := (putR s r 0 st S).n }, 0⟩
  else ⟨(putR s r 0 st S).s, (putR s r 0 st S).r, (putR s r 0 st S).e⟩
/-- The drive and the row have gone on; what else there was is as it was. -/
structure Went (w0 w w' : World) (l : List (Nat × DS)) (F : List Nat) (i D : Nat) (s' : DS) (R : Nat) (tv tv' : Value) (r' : RS) : Prop where
  rw : Rw w0 w' (l.set i (D, s')) (tv'.ownBlock.toList ++ F) i D s' R tv' r'
  same : ∀ k ∈ F, k ∉ rwFp R tv → w'.heap[k]? = w.heap[k]?
  fresh : ∀ k ∈ tv'.ownBlock.toList, k ∈ rwFp R tv ∨ k ∉ F
theorem PutAt.went {w0 w w' : World} {l : List (Nat × DS)} {F : List Nat} {i D : Nat} {s' : DS} {R : Nat} {tv : Value} {r' : RS} (h : PutAt w0 w w' l F i D s' R tv r') : Went w0 w w' l F i D s' R tv tv r' := by
  refine ⟨⟨?_, h.rw.hi, h.rw.row, fun k hk => List.mem_append_right _ (h.rw.fp k hk)⟩, h.same, fun k hk => .inl (List.mem_cons_of_mem _ hk)⟩
  exact h.rw.dr.less _ (fun k hk => (List.mem_append.1 hk).elim (fun e => h.rw.fp k (List.mem_cons_of_mem _ e)) id)
/-- A row's struct and texts have been written, out of a world where it was whole. -/
theorem PutAt.turned {w0 w w1 W : World} {l : List (Nat × DS)} {F : List Nat} {i D : Nat} {s' : DS} {R : Nat} {tv tv' : Value} {r r' : RS} (h : PutAt w0 w w1 l F i D s' R tv r) (hob : Ob w0.heap.size W R 97 (r'.cs D tv') (r'.rows tv')) (ho : Only (rwFp R tv) w1 W)
    (hf : ∀ k ∈ tv'.ownBlock.toList, k ∈ rwFp R tv ∨ w1.heap.size ≤ k) (hl : r'.fr + r'.mn ≤ 4096 ∧ r'.en ≤ r'.mn ∧ r'.texts.length ≤ r'.en) (hn : r'.first < 18446744073709551616 ∧ r'.top < 18446744073709551616) : Went w0 w W l F i D s' R tv tv' r' := by
  have hlt : ∀ k ∈ tv'.ownBlock.toList, k < W.heap.size := fun k hk => (hob.fp_lt k (by rw [rwFp_eq]; exact List.mem_cons_of_mem _ hk)).2
  refine ⟨⟨h.rw.dr.grow (rwFp R tv) _ ho (fun k hk => ⟨h.rw.fp k hk, (h.rw.row.fp_lt k hk).1⟩) (fun k hk => ?_), h.rw.hi, ⟨hob, hl, hn⟩, fun k hk => ?_⟩, fun k hk hn => ?_, fun k hk => ?_⟩
  · rcases List.mem_append.1 hk with hk | hk
    · rcases hf k hk with e | e
      · exact .inl (h.rw.fp k e)
      · exact .inr ⟨e, hlt k hk⟩
    · exact .inl hk
  · rcases List.mem_cons.1 hk with rfl | hk
    · exact List.mem_append_right _ (h.rw.fp _ (by simp [rwFp]))
    · exact List.mem_append_left _ hk
  · exact (ho.block k (h.rw.dr.lt k hk) hn).trans (h.same k hk hn)
  · rcases hf k hk with e | e
    · exact .inl e
    · refine .inr (fun hF => ?_)
      have := h.rw.dr.lt k hF
      omega
theorem putR_keeps (s : DS) (r : RS) (a st : Nat) (S : ByteArray) (h : (putR s r a st S).e = 0) : (putR s r a st S).r = { r with top := st } ∧ (putR s r a st S).n = nP (txt S.data.toList) ∧ a + (putR s r a st S).n ≤ max r.mn a ∧ r.down = false ∧ r.top < st := by
  unfold putR at *
  split at h
  · cases h
  rename_i c1
  rw [if_neg c1]
  split at h
  · cases h
  rename_i c2
  rw [if_neg c2]
  split at h
  · cases h
  rename_i c3
  rw [if_neg c3]
  split at h
  · cases h
  rename_i c4
  rw [if_neg c4]
  split at h
  · rename_i c5
    rw [if_pos c5]
    exact ⟨rfl, rfl, by show a + nP _ ≤ _; omega, by simpa using c1, by omega⟩
  · rename_i c5
    exact absurd h c5
end Go.Proofs.Ytnhgakmnkpjpdaa

/- A row: Begin. -/
set_option maxRecDepth 100000
set_option linter.unusedVariables false
set_option linter.unusedSimpArgs false
namespace Go.Proofs.Ytnhgakmnkpjpdaa
open Go Go.RowKit Go.Proofs.Ytnhgakmnkpjpdaa.Q Go.Proofs.Ytnhgakmnkpjpdaa.Pure Go.Proofs.YtnhgakmnkpjpdaaW.PrintWords Go.Proofs.YtnhgakmnkpjpdaaW.PrintLast Go.Proofs.YtnhgakmnkpjpdaaW.PrintMore
attribute [local go_sem] Oper.semAt_some max2_int min2_int max_two min_two max_three min_three max_four min_four
section
variable {w0 w : World} {l : List (Nat × DS)} {F : List Nat} {i D : Nat} {s : DS} {R : Nat} {tv : Value} {r : RS}
theorem PutAt.begun {w1 : World} {s' : DS} {r1 : RS} {st n : Nat} {S : ByteArray} (h : PutAt w0 w w1 l F i D s' R tv r1) (hst : st < 18446744073709551616) (hn1 : 0 < n) (hn : n ≤ r1.mn) :
    Went w0 w ((((w1.alloc (.cells #[.string S] 9)).setCell ⟨R, 3, none⟩ (.slice (some ⟨w1.heap.size, 0, none⟩) 1 1)).setCell ⟨R, 4, none⟩ (.int .u64 (st : Int))).setCell ⟨R, 6, none⟩ (.int .i64 (n : Int))) l F i D s' R tv (.slice (some ⟨w1.heap.size, 0, none⟩) 1 1)
      { r1 with first := st, texts := [S], en := n } := by
  have ho1 : Only (rwFp R tv) w1 (w1.alloc (.cells #[.string S] 9)) := Only.alloc _ _ _
  have hb := h.rw.dr.below.size
  have hnew : (w1.alloc (.cells #[.string S] 9)).ownsRow w0.heap.size 9 1 (.slice (some ⟨w1.heap.size, 0, none⟩) 1 1) 1 [.string S] :=
    ⟨rfl, .inr ⟨w1.heap.size, 1, #[.string S], rfl, hb, heap_alloc_new w1 _, Nat.le_refl _, by decide, rfl, rfl⟩⟩
  have hob0 : Ob w0.heap.size w1 R 97 (r1.cs D tv) ([] ++ (⟨tv, 9, 1, r1.texts.length, strV r1.texts⟩ : RowV) :: []) := h.rw.row.ob
  have hob := hob0.turn (r' := ⟨.slice (some ⟨w1.heap.size, 0, none⟩) 1 1, 9, 1, 1, [.string S]⟩) (w' := w1.alloc (.cells #[.string S] 9)) ((Only.alloc _ _ _)) hnew
    (fun k hk => .inr (by have e : k = w1.heap.size := by simpa [RowV.fp, Value.ownBlock, eq_comm] using hk
                          omega))
  have h3 := hob.set 3 (.slice (some ⟨w1.heap.size, 0, none⟩) 1 1)
  have h4 := h3.1.set 4 (.int .u64 (st : Int))
  have h6 := h4.1.set 6 (.int .i64 (n : Int))
  have hR : ∀ k ∈ [R], k ∈ rwFp R tv := by simp [rwFp]
  refine h.turned h6.1 (((ho1.trans (h3.2.mono hR) (fun _ h _ => h)).trans (h4.2.mono hR) (fun _ h _ => h)).trans (h6.2.mono hR) (fun _ h _ => h)) (fun k hk => ?_) ⟨h.rw.row.lay.1, hn, hn1⟩ ⟨hst, h.rw.row.num.2⟩
  have e : k = w1.heap.size := by simpa [Value.ownBlock, eq_comm] using hk
  exact .inr (by omega)
set_option maxHeartbeats 2000000 in
theorem Row_Begin (h : Rw w0 w l F i D s R tv r) (st : Nat) (S : ByteArray) (hst : st < 18446744073709551616) (hm : s.opn.length < 900000) :
    Calls Try.prog 51 #[ptr R, .int .u64 (st : Int), .string S] w fun e w' => e = .returned (.int .i64 (beginR s r st S).e) ∧ ∃ tv', Went w0 w w' l F i D (beginR s r st S).s R tv tv' (beginR s r st S).r := by
  have HPC := hid (Row_put h 0 st S hst (Nat.zero_le _) hm)
  have HK := hid (putR_keeps s r 0 st S)
  have HLAY := hid h.row.lay
  unfold beginR
  obtain ⟨P, hP⟩ : ∃ P, P = putR s r 0 st S := ⟨_, rfl⟩
  rw [← hP] at HPC HK ⊢
  have HST := hid hst
  unfold ptr at *
  clear h hP hst
  by_cases c1 : P.e = 0
  · obtain ⟨q1, q2, q3, q4, q5⟩ := HK.out c1
    have e1 : (P.e == 0) = true := by rw [c1]; rfl
    have e2 : (P.e != 0) = false := by rw [c1]; rfl
    have e4 : P.r.mn = r.mn := by rw [q1]
    have hn0 : 0 < P.n := by rw [q2]; exact nP_pos _
    have hn1 : P.n ≤ P.r.mn := by rw [e4]; omega
    have HN := hid (And.intro hn0 hn1)
    rw [if_pos c1]
    clear q1 q2 q3 q4 q5 e4 hn0 hn1 c1 HK
    go_enter Try.func51, Try.ntmps51
    go_wp2_with (go_at_call 71; refine HPC.out.mono ?_; rintro e w1 ⟨rfl, hp⟩; have HPA := hid hp; obtain ⟨-, -, -, k3, k4, -, k6, -, f⟩ := hp.rw.row.cells; have f3 := f 3; have f4 := f 4; have f6 := f 6; have hkk := hp.rw.row.ob.new (Only.alloc [] w1 (.cells #[.string S] 9)); have kk3 : (w1.alloc (.cells #[.string S] 9)).cell? ⟨R, 3, none⟩ = some tv := hkk.cell 3; have kk4 : (w1.alloc (.cells #[.string S] 9)).cell? ⟨R, 4, none⟩ = some (.int .u64 (P.r.first : Int)) := hkk.cell 4; have kk6 : (w1.alloc (.cells #[.string S] 9)).cell? ⟨R, 6, none⟩ = some (.int .i64 (P.r.en : Int)) := hkk.cell 6; have ff3 := hkk.free 3; have ff4 := hkk.free 4; have ff6 := hkk.free 6; clear hkk hp f)
    have hfin := HPA.out.begun (S := S) HST.out HN.out.1 HN.out.2
    go_ret
    exact ⟨rfl, _, hfin⟩
  · have e1 : (P.e == 0) = false := by simpa using c1
    have e2 : (P.e != 0) = true := by simpa [bne] using c1
    rw [if_neg c1]
    clear c1 HK
    go_enter Try.func51, Try.ntmps51
    go_wp2_with (go_at_call 71; refine HPC.out.mono ?_; rintro e w1 ⟨rfl, hp⟩; have HPA := hid hp; clear hp)
    go_ret
    exact ⟨rfl, tv, HPA.out.went⟩
end
end Go.Proofs.Ytnhgakmnkpjpdaa

/- A row: its texts are told. -/
set_option maxRecDepth 100000
set_option linter.unusedVariables false
set_option linter.unusedSimpArgs false
namespace Go.Proofs.Ytnhgakmnkpjpdaa
open Go Go.RowKit Go.Proofs.Ytnhgakmnkpjpdaa.Q Go.Proofs.Ytnhgakmnkpjpdaa.Pure Go.Proofs.YtnhgakmnkpjpdaaW.PrintWords Go.Proofs.YtnhgakmnkpjpdaaW.PrintLast Go.Proofs.YtnhgakmnkpjpdaaW.PrintMore
attribute [local go_sem] Oper.semAt_some max2_int min2_int max_two min_two max_three min_three max_four min_four
/-- Nothing is appended to an empty slice without room: or something, into a block that is new. -/
theorem run_copy {P : Program} (w : World) (t ty e : TypeId) (i : TypeInfo) (z : Value) (size bytes : Nat) (ht : P.underlying t = some (.slice e)) (hi : P.info? e = some i) (hz : i.zero = some z)
    (hsize : i.size = size) (hby : i.bytes = bytes) (hzs : z.cells.size = size) (hsz : 0 < size)
    (base b : Nat) (hb : base ≤ b) (hbb : w.heap[b]? = some (.cells #[] e (0, 0))) (bs : Nat) (sv : Value) (n : Nat) (xs : List Value) (hown : w.ownsRow bs e size sv n xs) (h1 : ∀ u ∈ xs, u.oneCell' = true)
    (h63 : n ≤ maxLen) (hbytes : n * bytes ≤ 140737488355328) (hbase : base ≤ w.heap.size) :
    ∃ v' w', (Builtin.append_ #[t, t] ty #[.slice (some ⟨b, 0, none⟩) 0 0, sv]).run P w = .ok v' w' ∧ w'.ownsRow base e size v' n xs ∧ Only [] w w' ∧ (v'.ownBlock = some b ∨ v'.ownBlock = some w.heap.size) := by
  subst hsize
  subst hby
  have own0 : w.ownsRow base e i.size (.slice (some ⟨b, 0, none⟩) 0 0) 0 [] := ⟨by simp, .inr ⟨b, 0, #[], rfl, hb, hbb, Nat.le_refl _, by unfold maxLen; omega, by simp, by simp⟩⟩
  by_cases hn : n = 0
  · subst hn
    have hx : xs = [] := List.eq_nil_of_length_eq_zero (by simpa using hown.1)
    subst hx
    refine ⟨.slice (some ⟨b, 0, none⟩) 0 0, w, ?_, own0, Only.refl _ _, .inl rfl⟩
    rcases hown.2 with ⟨rfl, _⟩ | ⟨g, cap, cur, rfl, _⟩
    · simp [Builtin.append_, run_underlying ht, sizeOf, typeInfo, hi, Builtin.lenOf, Builtin.firstCells, loadCells, loadCellsFrom, storeCells]
    · simp [Builtin.append_, run_underlying ht, sizeOf, typeInfo, hi, Builtin.lenOf, Builtin.firstCells, loadCells, loadCellsFrom, storeCells]
  · obtain ⟨g, cap, cur, rfl, hbg, hg, hnc, hcm, hcs, htake⟩ : ∃ g cap cur, sv = .slice (some ⟨g, 0, none⟩) n cap ∧ bs ≤ g ∧ w.heap[g]? = some (.cells cur e (0, 0)) ∧ n ≤ cap ∧ cap ≤ maxLen ∧ cur.size = cap * i.size ∧ cur.toList.take (n * i.size) = xs := by
      rcases hown.2 with ⟨_, h0⟩ | h
      · exact absurd h0 hn
      · exact h
    have holds : ∀ j u, xs[j]? = some u → w.cell? ((⟨g, 0, none⟩ : Addr).add j) = some u := hown.cells (g := g) rfl
    have hsmall : n ≤ 9223372036854775807 := by simp only [maxLen] at h63; omega
    have hr := run_append_grow (P := P) w t ty e i z ht hi hz ⟨b, 0, none⟩ 0 0 [] (by simp) (by simp) ⟨g, 0, none⟩ n cap xs hown.1 holds (by omega) (by omega) (growslice_fits (by omega) (by rw [Nat.zero_add]; exact hbytes))
    simp only [Nat.zero_add] at hr
    refine ⟨_, _, hr, ?_, ?_, .inr rfl⟩
    · have hge := grownCap_ge w n 0 e
      have hcm' : grownCap w n 0 e ≤ maxLen := grownCap_le_maxLen w n 0 e h63
      refine ⟨hown.1, .inr ⟨w.heap.size, _, _, rfl, hbase, heap_alloc_new w.drew _, hge, hcm', ?_, ?_⟩⟩
      · simp only [Array.size_append, List.size_toArray, List.length_nil, size_zeroCells, hzs, hown.1, Nat.zero_add, ← Nat.add_mul]
        congr 1
        omega
      · simp only [Array.toList_append, List.append_assoc, List.nil_append]
        rw [← hown.1]
        exact List.take_left
    · exact (Only.drew [] w).trans (Only.alloc [] _ _) (fun _ h _ => h)
section
variable {w0 w : World} {l : List (Nat × DS)} {F : List Nat} {i D : Nat} {s : DS} {R : Nat} {tv : Value} {r : RS}
theorem eql22 (w : World) (a : Option Addr) (l c : Nat) : (binOp .eql 22 (.slice a l c) (.slice none 0 0)).run Try.prog w = .ok (.bool a.isNone) w := by
  exact run_eql_slice_nil w 22 9 a l c Try.underlying22
theorem own_cases' {base : Nat} {w : World} {e : TypeId} {size : Nat} {v : Value} {n : Nat} {xs : List Value} (h : w.ownsRow base e size v n xs) : v = .slice none 0 0 ∨ ∃ g c, v = .slice (some ⟨g, 0, none⟩) n c := by
  rcases h.2 with ⟨h1, h2⟩ | ⟨g, cap, cur, hv, -⟩
  · subst h2; exact .inl h1
  · exact .inr ⟨g, cap, hv⟩
theorem Clone_calls {base : Nat} {v : Value} {n : Nat} {xs : List Value} (h : w.ownsRow base 9 1 v n xs) (hn : n ≤ 4096) (h1 : ∀ u ∈ xs, u.oneCell' = true) :
    Calls Try.prog 43 #[v] w fun e w' => ∃ v', e = .returned v' ∧ w'.ownsRow w.heap.size 9 1 v' n xs ∧ Only [] w w' := by
  rcases own_cases' h with rfl | ⟨g, c, rfl⟩
  · have hn0 : n = 0 := by
      rcases h.2 with ⟨-, hn0⟩ | ⟨g, cap, cur, hv, -⟩
      · exact hn0
      · cases hv
    subst hn0
    have hx : xs = [] := List.eq_nil_of_length_eq_zero (by simpa using h.1)
    subst hx
    have HH := hid h
    clear h
    have hb := eql22 w none 0 0
    go_enter Try.func43, Try.ntmps43
    go_wp2
    go_ret
    exact ⟨_, rfl, World.ownsRow_nil _ _ _ _, Only.refl _ _⟩
  · have hb := eql22 w (some ⟨g, 0, none⟩) n c
    have own0 : (w.alloc (.cells #[] 9)).ownsRow w.heap.size 9 1 (.slice (some ⟨w.heap.size, 0, none⟩) 0 0) 0 [] := ⟨by simp, .inr ⟨w.heap.size, 0, #[], rfl, Nat.le_refl _, heap_alloc_new w _, Nat.le_refl _, by unfold maxLen; omega, by simp, by simp⟩⟩
    have HO0 := hid own0
    by_cases hn0 : n = 0
    · subst hn0
      have hx : xs = [] := List.eq_nil_of_length_eq_zero (by simpa using h.1)
      subst hx
      clear h own0 h1
      go_enter Try.func43, Try.ntmps43
      go_wp2
      go_ret
      exact ⟨_, rfl, HO0.out, Only.alloc [] w _⟩
    · obtain ⟨ti, hti, htz, hts, htb⟩ := info_three Q.info9
      have HTI := hid (And.intro hti (And.intro htz (And.intro hts htb)))
      have hw1 : (w.alloc (.cells #[] 9)).ownsRow base 9 1 (.slice (some ⟨g, 0, none⟩) n c) n xs := h.alloc _
      have HNEW := hid (fun j u (hj : xs[j]? = some u) => World.ownsRow.cells hw1 (g := g) rfl j u hj)
      have HXL := hid (show xs.length = n * 1 from h.1)
      have HX1 := hid h1
      have HN := hid (And.intro (Nat.pos_of_ne_zero hn0) hn)
      clear own0 h hw1 h1 hti htz hts htb hn0
      go_enter Try.func43, Try.ntmps43
      go_wp2_with (at_builtin; refine wpList_append_lies _ rfl (.tmp 5) (.tmp 6) 22 rfl w.heap.size 9 ti _ 1 16 Try.underlying22 HTI.out.1 HTI.out.2.1 HTI.out.2.2.1 HTI.out.2.2.2 rfl (by decide) (.slice (some ⟨w.heap.size, 0, none⟩) 0 0) 0 [] rfl HO0.out ⟨g, 0, none⟩ n c xs rfl HXL.out HNEW.out HX1.out HN.out.1 (by have := HN.out.2; unfold maxLen; omega) (by have := HN.out.2; omega) (by simp) (w.heap.size + 1) (by simp) ?_; intro g4 cap4 W4 hown hgrow hat hgl; have HOW := hid hown; have HGR := hid hgrow; clear hown hgrow hat hgl)
      go_ret
      have ho := HOW.out
      have hg := HGR.out
      rw [Nat.zero_add, List.nil_append] at ho
      refine ⟨_, rfl, by simpa using ho, ?_⟩
      exact ((Only.alloc [] w (.cells #[] 9)).trans (Only.of_grown (fp := [w.heap.size]) hg (fun k hk => by simp [Value.ownBlock] at hk; simp [hk])) (fun k hk hl => by rw [List.mem_singleton.1 hk] at hl; omega))
theorem Row_Texts (h : RowAt w0.heap.size w R D tv r) : Calls Try.prog 36 #[ptr R] w fun e w' => ∃ v, e = .returned v ∧ w'.ownsRow w.heap.size 9 1 v r.texts.length (strV r.texts) ∧ Only [] w w' := by
  obtain ⟨-, -, -, h3, -, -, -, -, f⟩ := h.cells
  have f3 := f 3
  have HD := hid h
  have HCL := hid (Clone_calls h.texts (by have := h.lay; omega) (fun u hu => by obtain ⟨x, -, rfl⟩ := List.mem_map.1 hu; rfl))
  unfold ptr at *
  clear h f
  go_enter Try.func36, Try.ntmps36
  go_wp2_with (first | (go_at_call 56; refine (Row_none HD.out).mono ?_; rintro e w' ⟨rfl, rfl⟩) | (go_at_call 43; refine HCL.out.mono ?_; rintro e w2 ⟨v, rfl, hown, ho⟩; have HH := hid (And.intro hown ho); clear hown ho))
  go_ret
  exact ⟨_, rfl, HH.out⟩
end
end Go.Proofs.Ytnhgakmnkpjpdaa
