import Derived.Test.YthbbdilcclepoaaR3
import Derived.StillTailTactics
/- A row: put, plain; a row whose struct is stored to. -/
set_option maxRecDepth 100000
set_option linter.unusedVariables false
set_option linter.unusedSimpArgs false
namespace Go.Proofs.Ythbbdilcclepoaa
open Go Go.RowKit Go.Proofs.Ythbbdilcclepoaa.Q Go.Proofs.Ythbbdilcclepoaa.Pure Go.Proofs.YthbbdilcclepoaaW.PrintWords Go.Proofs.YthbbdilcclepoaaW.PrintLast Go.Proofs.YthbbdilcclepoaaW.PrintMore
attribute [local go_sem] Oper.semAt_some max2_int min2_int max_two min_two max_three min_three max_four min_four
theorem B_self (S : ByteArray) : B S.data.toList = S := by simp [B]
/-- Some leaves are written, till a write fails. -/
def wl (s : DS) (n : Nat) : List ByteArray → DS × Int
  | [] => (s, 0)
  | b :: l => if (writeR s n b).2 = 0 then wl (writeR s n b).1 (n + 1) l else writeR s n b
theorem wl_snoc (l : List ByteArray) (b : ByteArray) : ∀ (s : DS) (n : Nat), wl s n (l ++ [b]) = if (wl s n l).2 = 0 then writeR (wl s n l).1 ((n + l.length : Nat) : Int) b else wl s n l := by
  induction l with
  | nil =>
    intro s n
    show (if (writeR s n b).2 = 0 then _ else _) = if (0 : Int) = 0 then writeR s ((n + 0 : Nat) : Int) b else _
    rw [if_pos rfl, Nat.add_zero]
    split
    · rename_i h
      show ((writeR s n b).1, (0 : Int)) = writeR s n b
      rw [← h]
    · rfl
  | cons a l ih =>
    intro s n
    show (if (writeR s n a).2 = 0 then wl (writeR s n a).1 (n + 1) (l ++ [b]) else writeR s n a) = if (if (writeR s n a).2 = 0 then wl (writeR s n a).1 (n + 1) l else writeR s n a).2 = 0 then writeR (if (writeR s n a).2 = 0 then wl (writeR s n a).1 (n + 1) l else writeR s n a).1 _ b else (if (writeR s n a).2 = 0 then wl (writeR s n a).1 (n + 1) l else writeR s n a)
    split
    · rw [ih, show n + 1 + l.length = n + (a :: l).length by rw [List.length_cons]; omega]
    · rfl
theorem wl_stop (l' : List ByteArray) : ∀ (l : List ByteArray) (s : DS) (n : Nat) (h : (wl s n l).2 ≠ 0), wl s n (l ++ l') = wl s n l := by
  induction l' with
  | nil => intro l s n h; rw [List.append_nil]
  | cons b l' ih =>
    intro l s n h
    have e : wl s n (l ++ [b]) = wl s n l := by rw [wl_snoc, if_neg h]
    rw [show l ++ b :: l' = (l ++ [b]) ++ l' by simp, ih (l ++ [b]) s n (by rw [e]; exact h), e]
theorem writeR_len (s : DS) (n : Int) (t : ByteArray) : (writeR s n t).1.now.length = s.now.length ∧ (writeR s n t).1.opn.length ≤ s.opn.length + 1 := by
  unfold writeR wrR
  split
  · split
    · split
      · exact ⟨rfl, by simp⟩
      · simp [writeS]
    · exact ⟨rfl, by simp⟩
  · exact ⟨rfl, by simp⟩
theorem wl_len (l : List ByteArray) : ∀ (s : DS) (n : Nat), (wl s n l).1.now.length = s.now.length ∧ (wl s n l).1.opn.length ≤ s.opn.length + l.length := by
  induction l with
  | nil => intro s n; exact ⟨rfl, by simp [wl]⟩
  | cons b l ih =>
    intro s n
    have h1 := writeR_len s n b
    rw [List.length_cons, wl]
    split
    · have h2 := ih (writeR s n b).1 (n + 1)
      exact ⟨h2.1.trans h1.1, by omega⟩
    · exact ⟨h1.1, by omega⟩
/-- What put does: the drive, the row, how many sectors, the error. -/
structure PutR where
  s : DS
  r : RS
  n : Nat
  e : Int
def putR (s : DS) (r : RS) (a st : Nat) (S : ByteArray) : PutR :=
  if r.down = true then ⟨s, r, 0, 30⟩ else if st ≤ r.top then ⟨s, r, 0, 2⟩ else if 98304 < S.size then ⟨s, r, 0, 3⟩ else
  if r.mn - a < nP (txt S.data.toList) then ⟨s, r, 0, 6⟩ else
  if (wl s (r.fr + a) (sheafL st S.data.toList)).2 = 0 then ⟨(wl s (r.fr + a) (sheafL st S.data.toList)).1, { r with top := st }, nP (txt S.data.toList), 0⟩
  else ⟨(wl s (r.fr + a) (sheafL st S.data.toList)).1, { r with down := (wl s (r.fr + a) (sheafL st S.data.toList)).2 == 30 }, 0, (wl s (r.fr + a) (sheafL st S.data.toList)).2⟩
/-! A row's struct is stored to -/
section
variable {w0 w w' : World} {l : List (Nat × DS)} {F : List Nat} {i D : Nat} {s s' : DS} {R : Nat} {tv : Value} {r r' : RS}
theorem Rw.set (h : Rw w0 w l F i D s R tv r) (j : Nat) (x : Value) (hc : r'.cs D tv = (r.cs D tv).setIfInBounds j x) (ht : r'.texts = r.texts) (hl : r'.fr + r'.mn ≤ 4096 ∧ r'.en ≤ r'.mn ∧ r'.texts.length ≤ r'.en) (hn : r'.first < 18446744073709551616 ∧ r'.top < 18446744073709551616) :
    Rw w0 (w.setCell ⟨R, j, none⟩ x) l F i D s R tv r' ∧ Only [R] w (w.setCell ⟨R, j, none⟩ x) := by
  have h2 := h.row.ob.set j x
  rw [← hc] at h2
  refine ⟨⟨h.dr.grow [R] F h2.2 (fun k hk => ?_) (fun k hk => .inl hk), h.hi, ⟨?_, hl, hn⟩, h.fp⟩, h2.2⟩
  · rw [List.mem_singleton.1 hk]
    exact ⟨h.fp R (by simp [rwFp]), h.row.ob.hO⟩
  · have e : r'.rows tv = r.rows tv := by unfold RS.rows; rw [ht]
    rw [e]; exact h2.1
theorem Rw.went (h : Rw w0 w l F i D s R tv r) (hd : Dr w0 w' (l.set i (D, s')) F) (hs : Same F w w') : Rw w0 w' (l.set i (D, s')) F i D s' R tv r := by
  have hil : i < l.length := (List.getElem?_eq_some_iff.1 h.hi).1
  exact ⟨hd, by rw [List.getElem?_set, if_pos rfl, if_pos hil], h.row.same (fun k hk => hs k (h.fp k hk)), h.fp⟩
theorem Rw.write (h : Rw w0 w l F i D s R tv r) (hm : s.opn.length < 1000000) (n : Int) (t : ByteArray) :
    Calls Try.prog 7 #[.pointer (some ⟨D, 0, none⟩), .int .i64 n, .string t] w fun e w' => e = .returned (.int .i64 (writeR s n t).2) ∧ Rw w0 w' (l.set i (D, (writeR s n t).1)) F i D (writeR s n t).1 R tv r ∧ Same F w w' :=
  (h.dr.write h.hi hm n t).mono fun e w' ⟨he, hd, hs⟩ => ⟨he, h.went hd hs, hs⟩
end
end Go.Proofs.Ythbbdilcclepoaa

/- A row: put. -/
set_option maxRecDepth 100000
set_option linter.unusedVariables false
set_option linter.unusedSimpArgs false
namespace Go.Proofs.Ythbbdilcclepoaa
open Go Go.RowKit Go.Proofs.Ythbbdilcclepoaa.Q Go.Proofs.Ythbbdilcclepoaa.Pure Go.Proofs.YthbbdilcclepoaaW.PrintWords Go.Proofs.YthbbdilcclepoaaW.PrintLast Go.Proofs.YthbbdilcclepoaaW.PrintMore
attribute [local go_sem] Oper.semAt_some max2_int min2_int max_two min_two max_three min_three max_four min_four
/-- What put leaves: the drive and the row have gone on; what else there was is as it was. -/
structure PutAt (w0 w w' : World) (l : List (Nat × DS)) (F : List Nat) (i D : Nat) (s' : DS) (R : Nat) (tv : Value) (r' : RS) : Prop where
  rw : Rw w0 w' (l.set i (D, s')) F i D s' R tv r'
  same : ∀ k ∈ F, k ∉ rwFp R tv → w'.heap[k]? = w.heap[k]?
theorem set_self {α : Type} {l : List α} {i : Nat} {x : α} (h : l[i]? = some x) : l.set i x = l := by
  obtain ⟨hi, e⟩ := List.getElem?_eq_some_iff.1 h
  rw [← e]; exact List.set_getElem_self hi
theorem Rw.stay {w0 w w' : World} {l : List (Nat × DS)} {F : List Nat} {i D : Nat} {s : DS} {R : Nat} {tv : Value} {r : RS} (h : Rw w0 w l F i D s R tv r) (ho : Only [] w w') : PutAt w0 w w' l F i D s R tv r :=
  ⟨by rw [set_self h.hi]; exact h.new ho, fun k hk _ => ho.block k (h.dr.lt k hk) (by simp)⟩
section
variable {w0 w : World} {l : List (Nat × DS)} {F : List Nat} {i D : Nat} {s : DS} {R : Nat} {tv : Value} {r : RS}
theorem put_down (h : Rw w0 w l F i D s R tv r) (a st : Nat) (S : ByteArray) (hd : r.down = true) :
    Calls Try.prog 40 #[ptr R, .int .i64 (a : Int), .int .u64 (st : Int), .string S] w fun e w' => e = .returned (.tuple #[.int .i64 0, .int .i64 30]) ∧ w' = w := by
  obtain ⟨h0, h1, h2, h3, h4, h5, h6, h7, f⟩ := h.row.cells
  have f7 := f 7
  have HD := hid h.row
  rw [hd] at h7
  unfold ptr at *
  clear h f hd
  go_enter Try.func40, Try.ntmps40
  go_wp2_with (go_at_call 43; refine (Row_none HD.out).mono ?_; rintro e w' ⟨rfl, rfl⟩)
  go_ret2
  exact ⟨rfl, rfl⟩
theorem put_top (h : Rw w0 w l F i D s R tv r) (a st : Nat) (S : ByteArray) (hd : r.down = false) (ht : st ≤ r.top) :
    Calls Try.prog 40 #[ptr R, .int .i64 (a : Int), .int .u64 (st : Int), .string S] w fun e w' => e = .returned (.tuple #[.int .i64 0, .int .i64 2]) ∧ w' = w := by
  obtain ⟨h0, h1, h2, h3, h4, h5, h6, h7, f⟩ := h.row.cells
  have f7 := f 7
  have f5 := f 5
  have HD := hid h.row
  rw [hd] at h7
  have d1 : decide ((st : Int) ≤ (r.top : Int)) = true := decide_eq_true (by omega)
  have d2 : decide (st ≤ r.top) = true := decide_eq_true ht
  unfold ptr at *
  clear h f hd ht
  go_enter Try.func40, Try.ntmps40
  go_wp2_with (go_at_call 43; refine (Row_none HD.out).mono ?_; rintro e w' ⟨rfl, rfl⟩)
  go_ret2
  exact ⟨rfl, rfl⟩
theorem put_long (h : Rw w0 w l F i D s R tv r) (a st : Nat) (S : ByteArray) (hd : r.down = false) (ht : ¬ st ≤ r.top) (hS : 98304 < S.size) :
    Calls Try.prog 40 #[ptr R, .int .i64 (a : Int), .int .u64 (st : Int), .string S] w fun e w' => e = .returned (.tuple #[.int .i64 0, .int .i64 3]) ∧ Only [] w w' := by
  obtain ⟨h0, h1, h2, h3, h4, h5, h6, h7, f⟩ := h.row.cells
  have f7 := f 7
  have f5 := f 5
  have HD := hid h.row
  rw [hd] at h7
  have d1 : decide ((st : Int) ≤ (r.top : Int)) = false := decide_eq_false (by omega)
  have d2 : decide (st ≤ r.top) = false := decide_eq_false ht
  have HP := hid (Put_long (st : Int) S (by omega) hS)
  unfold ptr at *
  clear h f hd ht hS
  go_enter Try.func40, Try.ntmps40
  go_wp2_with (first | (go_at_call 43; refine (Row_none HD.out).mono ?_; rintro e w' ⟨rfl, rfl⟩) | (go_at_call 51; refine (sheaf_Put.calls _ _ _ _ _ HP.out).mono ?_; rintro e w4 ⟨v0, rfl, hR, hb⟩; obtain ⟨A, c, rfl⟩ : ∃ A c, v0 = Value.slice A 0 c := (by obtain ⟨A, c, e, -, -⟩ := Kd.R_reads hR; exact ⟨A, c, e⟩); have HB := hid (Only.of_below (fp := []) hb); clear hb hR h0 h1 h2 h3 h4 h5 h6 h7))
  go_loopw [11, 50] (fun v q wr => v = .int .i64 3 ∧ q = .int .i64 0 ∧ wr = w4) (fun _ _ _ => 0)
  case atStart => exact ⟨rfl, rfl, rfl⟩
  case round =>
    obtain ⟨rfl, rfl, rfl⟩ := hrel
    go_wp2_with fail
    go_ret2
    exact ⟨rfl, HB.out⟩
theorem put_full (h : Rw w0 w l F i D s R tv r) (a st : Nat) (S : ByteArray) (hst : st < 18446744073709551616) (ha : a ≤ r.mn) (hd : r.down = false) (ht : ¬ st ≤ r.top) (hS : ¬ 98304 < S.size) (hf : r.mn - a < nP (txt S.data.toList)) :
    Calls Try.prog 40 #[ptr R, .int .i64 (a : Int), .int .u64 (st : Int), .string S] w fun e w' => e = .returned (.tuple #[.int .i64 0, .int .i64 6]) ∧ Only [] w w' := by
  obtain ⟨h0, h1, h2, h3, h4, h5, h6, h7, f⟩ := h.row.cells
  have f7 := f 7
  have f5 := f 5
  have HD := hid h.row
  have HC := hid (fun w' (ho : Only [] w w') => (h.new ho).row.cells)
  rw [hd] at h7
  have d1 : decide ((st : Int) ≤ (r.top : Int)) = false := decide_eq_false (by omega)
  have d2 : decide (st ≤ r.top) = false := decide_eq_false ht
  have hSS : B S.data.toList = S := B_self S
  have hp := Put_f st S.data.toList (by omega) hst (by rw [Array.length_toList]; show S.size ≤ 98304; omega)
  rw [hSS] at hp
  obtain ⟨L, hL⟩ : ∃ L, L = sheafL st S.data.toList := ⟨_, rfl⟩
  rw [← hL] at hp
  have hll : L.length = nP (txt S.data.toList) := by rw [hL, sheafL_len]
  rw [← hll] at hf
  have HP := hid hp
  have hmn : r.mn ≤ 4096 := by have := h.row.lay; omega
  have e1 : (r.mn : Int) - (a : Int) = ((r.mn - a : Nat) : Int) := by omega
  have d3 : decide ((r.mn : Int) - (a : Int) < (L.length : Int)) = true := decide_eq_true (by omega)
  have d4 : decide (r.mn - a < L.length) = true := decide_eq_true hf
  have hpos : 0 < L.length := by omega
  have d5 : decide (0 < (L.length : Int)) = true := decide_eq_true (by omega)
  have d6 : decide (0 < L.length) = true := decide_eq_true hpos
  unfold ptr at *
  clear h f hd ht hS hSS hp hL hll hf
  go_enter Try.func40, Try.ntmps40
  go_wp2_with (first | (go_at_call 43; refine (Row_none HD.out).mono ?_; rintro e w' ⟨rfl, rfl⟩) | (go_at_call 51; refine (sheaf_Put.calls _ _ _ _ _ HP.out).mono ?_; rintro e w4 ⟨v0, rfl, hR, hb⟩; obtain ⟨g, c, cur, rfl, -, hg, hnc, hcm, hcs, hcur⟩ := ownsRow_slice (R_own_str hR) hpos; have HB := hid (Only.of_below (fp := []) hb); have HRR := hid (R_own_str hR); obtain ⟨-, -, k2, -⟩ := HC.out w4 HB.out; clear hb hR h0 h1 h2 h3 h4 h5 h6 h7 hg hcur))
  go_loopw [11, 50] (fun v q wr => v = .int .i64 6 ∧ q = .int .i64 0 ∧ wr = w4) (fun _ _ _ => 0)
  case atStart => exact ⟨rfl, rfl, rfl⟩
  case round =>
    obtain ⟨rfl, rfl, rfl⟩ := hrel
    obtain ⟨x, hx⟩ : ∃ x, (strV L)[0]? = some (.string x) := by
      rw [strV, List.getElem?_map]
      exact ⟨L[0], by rw [List.getElem?_eq_getElem hpos]; rfl⟩
    have x0 : wr.cell? ⟨g, 0, none⟩ = some (.string x) := HRR.out.cells (g := g) rfl 0 _ hx
    have x1 : wr.frozen? ⟨g, 0, none⟩ = false := World.ownsRow.frozenAt HRR.out 0
    go_wp2_with fail
    go_ret2
    exact ⟨rfl, HB.out⟩
end
end Go.Proofs.Ythbbdilcclepoaa

/- A row: put writes. -/
set_option maxRecDepth 100000
set_option linter.unusedVariables false
set_option linter.unusedSimpArgs false
namespace Go.Proofs.Ythbbdilcclepoaa
open Go Go.RowKit Go.Proofs.Ythbbdilcclepoaa.Q Go.Proofs.Ythbbdilcclepoaa.Pure Go.Proofs.YthbbdilcclepoaaW.PrintWords Go.Proofs.YthbbdilcclepoaaW.PrintLast Go.Proofs.YthbbdilcclepoaaW.PrintMore
attribute [local go_sem] Oper.semAt_some max2_int min2_int max_two min_two max_three min_three max_four min_four
section
variable {w0 w : World} {l : List (Nat × DS)} {F : List Nat} {i D : Nat} {s : DS} {R : Nat} {tv : Value} {r : RS}
/-- Under way: so many leaves have been written. -/
structure PutGo (w0 w wr : World) (l : List (Nat × DS)) (F : List Nat) (i D : Nat) (R : Nat) (tv : Value) (r : RS) (g c : Nat) (L : List ByteArray) (P : DS × Int) : Prop where
  rw : Rw w0 wr (l.set i (D, P.1)) (g :: F) i D P.1 R tv { r with down := P.2 == 30 }
  own : wr.ownsRow w.heap.size 9 1 (.slice (some ⟨g, 0, none⟩) L.length c) L.length (strV L)
  same : ∀ k ∈ F, k ∉ rwFp R tv → wr.heap[k]? = w.heap[k]?
theorem PutGo.start (h : Rw w0 w l F i D s R tv r) (hd : r.down = false) {w4 : World} {g c : Nat} {L : List ByteArray} (ho : Only [] w w4) (hr : w4.ownsRow w.heap.size 9 1 (.slice (some ⟨g, 0, none⟩) L.length c) L.length (strV L)) : PutGo w0 w w4 l F i D R tv r g c L (s, 0) := by
  have hg := ownsRow_lt hr (k := g) (by simp [Value.ownBlock])
  refine ⟨⟨?_, ?_, ?_, fun k hk => List.mem_cons_of_mem _ (h.fp k hk)⟩, hr, fun k hk _ => ho.block k (h.dr.lt k hk) (by simp)⟩
  · rw [set_self h.hi]
    exact h.dr.grow [] _ ho (by simp) (fun k hk => (List.mem_cons.1 hk).elim (fun e => .inr (e ▸ hg)) .inl)
  · rw [set_self h.hi]; exact h.hi
  · have e : ({ r with down := ((0 : Int) == 30) } : RS) = r := by cases r; simp only at hd; subst hd; rfl
    show RowAt _ _ _ _ _ { r with down := ((0 : Int) == 30) }
    rw [e]; exact h.row.new ho
theorem PutGo.drawn {wr : World} {g c : Nat} {L : List ByteArray} {P : DS × Int} (h : PutGo w0 w wr l F i D R tv r g c L P) : PutGo w0 w wr.drew l F i D R tv r g c L P :=
  ⟨h.rw.new (Only.drew _ _), h.own, h.same⟩
/-- One more. -/
theorem PutGo.next {wr w3 : World} {g c : Nat} {L : List ByteArray} {P P' : DS × Int} (h : PutGo w0 w wr l F i D R tv r g c L P) (hw : Rw w0 w3 ((l.set i (D, P.1)).set i (D, P'.1)) (g :: F) i D P'.1 R tv { r with down := P.2 == 30 }) (hs : Same (g :: F) wr w3) :
    PutGo w0 w (w3.setCell ⟨R, 7, none⟩ (.bool (P'.2 == 30))) l F i D R tv r g c L P' := by
  rw [List.set_set] at hw
  have h2 := hw.set 7 (.bool (P'.2 == 30)) (r' := { r with down := P'.2 == 30 }) rfl rfl hw.row.lay hw.row.num
  have hg : g ≠ R := fun e => by
    have h3 := h.own
    have h4 := h.rw.row.ob.obj
    rcases h3.2 with ⟨hv, -⟩ | ⟨g', c', cur, hv, -, hgg, -⟩
    · cases hv
    injection hv with hv
    injection hv with hv
    injection hv with hv
    rw [← hv] at hgg
    rw [e, h4] at hgg
    injection hgg with hgg
    injection hgg with _ hgg
    exact absurd hgg (by decide)
  refine ⟨h2.1, ?_, fun k hk hn => ?_⟩
  · refine ownsRow_at h.own (fun k hk => ?_)
    have e : k = g := by simpa [Value.ownBlock, eq_comm] using hk
    subst e
    exact (heap_setCell_other _ _ _ _ (by simpa using hg)).trans (hs _ (by simp))
  · have hkR : k ≠ R := fun e => hn (by simp [rwFp, e])
    exact ((heap_setCell_other _ _ _ _ (by simpa using hkR)).trans (hs k (List.mem_cons_of_mem _ hk))).trans (h.same k hk hn)
theorem PutGo.done {wr : World} {g c : Nat} {L : List ByteArray} {P : DS × Int} (h : PutGo w0 w wr l F i D R tv r g c L P) (hfp : ∀ k ∈ rwFp R tv, k ∈ F) : PutAt w0 w wr l F i D P.1 R tv { r with down := P.2 == 30 } :=
  ⟨⟨h.rw.dr.less F (fun k hk => List.mem_cons_of_mem _ hk), h.rw.hi, h.rw.row, hfp⟩, h.same⟩
theorem PutGo.top {wr : World} {g c : Nat} {L : List ByteArray} {P : DS × Int} (h : PutGo w0 w wr l F i D R tv r g c L P) (hfp : ∀ k ∈ rwFp R tv, k ∈ F) (h0 : P.2 = 0) (hd : r.down = false) (st : Nat) (hst : st < 18446744073709551616) :
    PutAt w0 w (wr.setCell ⟨R, 5, none⟩ (.int .u64 (st : Int))) l F i D P.1 R tv { r with top := st } := by
  have hp := h.done hfp
  have e : ({ r with down := P.2 == 30 } : RS) = r := by rw [h0]; cases r; simp only at hd; subst hd; rfl
  rw [e] at hp
  have h2 := hp.rw.set 5 (.int .u64 (st : Int)) (r' := { r with top := st }) rfl rfl hp.rw.row.lay ⟨hp.rw.row.num.1, hst⟩
  refine ⟨h2.1, fun k hk hn => ?_⟩
  · have hkR : k ≠ R := fun e => hn (by simp [rwFp, e])
    exact (heap_setCell_other _ _ _ _ (by simpa using hkR)).trans (hp.same k hk hn)
end
end Go.Proofs.Ythbbdilcclepoaa

/- A row: put, its walk where it writes; all of put. -/
set_option maxRecDepth 100000
set_option linter.unusedVariables false
set_option linter.unusedSimpArgs false
namespace Go.Proofs.Ythbbdilcclepoaa
open Go Go.RowKit Go.Proofs.Ythbbdilcclepoaa.Q Go.Proofs.Ythbbdilcclepoaa.Pure Go.Proofs.YthbbdilcclepoaaW.PrintWords Go.Proofs.YthbbdilcclepoaaW.PrintLast Go.Proofs.YthbbdilcclepoaaW.PrintMore
attribute [local go_sem] Oper.semAt_some max2_int min2_int max_two min_two max_three min_three max_four min_four
section
variable {w0 w : World} {l : List (Nat × DS)} {F : List Nat} {i D : Nat} {s : DS} {R : Nat} {tv : Value} {r : RS}
set_option maxHeartbeats 1000000 in
theorem put_main (h : Rw w0 w l F i D s R tv r) (a st : Nat) (S : ByteArray) (hst : st < 18446744073709551616) (ha : a ≤ r.mn) (hm : s.opn.length < 900000) (hd : r.down = false) (ht : ¬ st ≤ r.top) (hS : ¬ 98304 < S.size) (hf : ¬ r.mn - a < nP (txt S.data.toList)) (L : List ByteArray) (hL : L = sheafL st S.data.toList) :
    Calls Try.prog 40 #[ptr R, .int .i64 (a : Int), .int .u64 (st : Int), .string S] w fun e w' => ((wl s (r.fr + a) L).2 = 0 ∧ e = .returned (.tuple #[.int .i64 (L.length : Int), .int .i64 0]) ∧ PutAt w0 w w' l F i D (wl s (r.fr + a) L).1 R tv { r with top := st }) ∨
      ((wl s (r.fr + a) L).2 ≠ 0 ∧ e = .returned (.tuple #[.int .i64 0, .int .i64 (wl s (r.fr + a) L).2]) ∧ PutAt w0 w w' l F i D (wl s (r.fr + a) L).1 R tv { r with down := (wl s (r.fr + a) L).2 == 30 }) := by
  obtain ⟨h0, h1, h2, h3, h4, h5, h6, h7, f⟩ := h.row.cells
  have f7 := f 7
  have f5 := f 5
  have HD := hid h.row
  have HC := hid (fun w' (ho : Only [] w w') => (h.new ho).row.cells)
  have HRW := hid h
  have HFP := hid h.fp
  have HDN := hid hd
  have HST := hid hst
  rw [hd] at h7
  have d1 : decide ((st : Int) ≤ (r.top : Int)) = false := decide_eq_false (by omega)
  have d2 : decide (st ≤ r.top) = false := decide_eq_false ht
  have hSS : B S.data.toList = S := B_self S
  have hp := Put_f st S.data.toList (by omega) hst (by rw [Array.length_toList]; show S.size ≤ 98304; omega)
  rw [hSS, ← hL] at hp
  have hll : L.length = nP (txt S.data.toList) := by rw [hL, sheafL_len]
  rw [← hll] at hf
  have HP := hid hp
  have hmn : r.fr + r.mn ≤ 4096 := h.row.lay.1
  have e1 : (r.mn : Int) - (a : Int) = ((r.mn - a : Nat) : Int) := by omega
  have d3 : decide ((r.mn : Int) - (a : Int) < (L.length : Int)) = false := decide_eq_false (by omega)
  have d4 : decide (r.mn - a < L.length) = false := decide_eq_false hf
  have hpos : 0 < L.length := by rw [hll]; exact nP_pos _
  have hLb : a + L.length ≤ r.mn := by omega
  have HLB := hid hLb
  have HPOS := hid hpos
  unfold ptr at *
  clear h f hd ht hS hSS hp hL hll hf hst
  go_enter Try.func40, Try.ntmps40
  go_wp2_with (first | (go_at_call 43; refine (Row_none HD.out).mono ?_; rintro e w' ⟨rfl, rfl⟩) | (go_at_call 51; refine (sheaf_Put.calls _ _ _ _ _ HP.out).mono ?_; rintro e w4 ⟨v0, rfl, hR, hb⟩; obtain ⟨g, c, cur, rfl, -, hg, hnc, hcm, hcs, hcur⟩ := ownsRow_slice (R_own_str hR) hpos; have HB := hid (Only.of_below (fp := []) hb); have HRR := hid (R_own_str hR); obtain ⟨-, -, k2, -⟩ := HC.out w4 HB.out; clear hb hR h0 h1 h2 h3 h4 h5 h6 h7 f5 f7 hg hcur))
  have HPI := hid (PutGo.start HRW.out HDN.out HB.out HRR.out)
  clear k2 HRR HB
  go_loopw [11, 50] (fun v q wr => ∃ (P : DS × Int) (j : Nat), v = .int .i64 P.2 ∧ q = .int .i64 (j : Int) ∧ Aside0 (j ≤ L.length) ∧ Aside0 (P = wl s (r.fr + a) (L.take j)) ∧ Aside0 (PutGo w0 w' wr l F i D R tv r g c L P)) (fun _ q _ => L.length - (intOf q).toNat)
  case atStart => exact ⟨(s, 0), 0, rfl, rfl, ⟨Nat.zero_le _⟩, ⟨rfl⟩, ⟨HPI.out⟩⟩
  case round =>
    obtain ⟨P, j, rfl, rfl, HJ, HQ, HI⟩ := hrel
    clear HPI
    by_cases c1 : j < L.length
    · have e5 : decide ((j : Int) < (L.length : Int)) = true := decide_eq_true (by omega)
      have e6 : decide (j < L.length) = true := decide_eq_true c1
      obtain ⟨x, hxx⟩ : ∃ x, L[j]? = some x := ⟨_, List.getElem?_eq_getElem c1⟩
      have hx : (strV L)[j]? = some (.string x) := by rw [strV, List.getElem?_map, hxx]; rfl
      have HXX := hid hxx
      have x0 : wr.cell? ⟨g, j, none⟩ = some (.string x) := by
        rw [World.ownsRow.cellAt HI.out.own j (by omega)]; exact hx
      have x1 : wr.frozen? ⟨g, j, none⟩ = false := World.ownsRow.frozenAt HI.out.own j
      have p1 : (0 ≤ (j : Int)) = True := eq_true (by omega)
      have p2 : ((j : Int) < (L.length : Int)) = True := eq_true (by omega)
      have C1 := hid c1
      by_cases c2 : P.2 = 0
      · have e7 : (P.2 == 0) = true := by rw [c2]; rfl
        have e8 : (P.2 != 0) = false := by rw [c2]; rfl
        have C2 := hid c2
        obtain ⟨k0, k1, -, -, -, -, -, -, f⟩ := (HI.out.drawn).rw.row.cells
        have f0 := f 0
        have f1 := f 1
        unfold ptr at k0
        have hb1 : r.fr + a + j ≤ 4096 := by have := HLB.out; omega
        have HO := hid (show P.1.opn.length < 1000000 by
          have h3 := (wl_len (L.take j) s (r.fr + a)).2
          rw [← HQ.out, List.length_take] at h3
          have := HLB.out
          omega)
        clear c1 c2 hx hxx f
        go_wp2_with fail
        go_still_tail 13, (by kernel_rfl)
        change wpList _ _ _ _ _ wr.drew
        go_wp2_with fail
        refine ((HI.out.drawn).rw.write HO.out _ _).mono ?_
        rintro e w3 ⟨rfl, hw3, sm⟩
        obtain ⟨P', hP'⟩ : ∃ P', P' = writeR P.1 ((r.fr : Int) + (a : Int) + (j : Int)) x := ⟨_, rfl⟩
        rw [← hP'] at hw3 ⊢
        have HNX := hid (HI.out.drawn.next hw3 sm)
        have HP2 := hid (show P' = wl s (r.fr + a) (L.take (j + 1)) by
          rw [List.take_add_one, HXX.out]
          show P' = wl s (r.fr + a) (L.take j ++ [x])
          rw [wl_snoc, ← HQ.out, if_pos C2.out, hP', List.length_take, Nat.min_eq_left (Nat.le_of_lt C1.out), Int.natCast_add, Int.natCast_add])
        obtain ⟨-, -, -, -, -, -, -, k7, f⟩ := hw3.row.cells
        have f7 := f 7
        clear hw3 sm hP' f HI
        go_wp2_with fail
        go_roundw
        case rel => exact ⟨P', j + 1, rfl, by go_num, ⟨by have := C1.out; omega⟩, ⟨HP2.out⟩, ⟨HNX.out⟩⟩
        case measure => simp [intOf]; have := C1.out; omega
      · have e7 : (P.2 == 0) = false := by simpa using c2
        have e8 : (P.2 != 0) = true := by simpa [bne] using c2
        have HF := hid (show wl s (r.fr + a) L = P by
          have := wl_stop (L.drop j) (L.take j) s (r.fr + a) (by rw [← HQ.out]; exact c2)
          rw [List.take_append_drop, ← HQ.out] at this
          exact this)
        have C2 := hid c2
        clear c1 c2 hx hxx
        go_wp2_with fail
        go_ret2
        refine .inr ⟨by rw [HF.out]; exact C2.out, by rw [HF.out]; rfl, ?_⟩
        rw [HF.out]
        exact HI.out.done HFP.out
    · have e5 : decide ((j : Int) < (L.length : Int)) = false := decide_eq_false (by omega)
      have e6 : decide (j < L.length) = false := decide_eq_false c1
      have HF := hid (show wl s (r.fr + a) L = P by
        have h3 := HQ.out
        rw [List.take_of_length_le (by omega)] at h3
        exact h3.symm)
      clear c1
      by_cases c2 : P.2 = 0
      · have e7 : (P.2 == 0) = true := by rw [c2]; rfl
        have e8 : (P.2 != 0) = false := by rw [c2]; rfl
        have C2 := hid c2
        obtain ⟨-, -, -, -, -, k5, -, -, f⟩ := HI.out.rw.row.cells
        have f5 := f 5
        clear c2 f
        go_wp2_with fail
        go_ret2
        refine .inl ⟨by rw [HF.out]; exact C2.out, rfl, ?_⟩
        rw [HF.out]
        exact HI.out.top HFP.out C2.out HDN.out st HST.out
      · have e7 : (P.2 == 0) = false := by simpa using c2
        have e8 : (P.2 != 0) = true := by simpa [bne] using c2
        have C2 := hid c2
        clear c2
        go_wp2_with fail
        go_ret2
        refine .inr ⟨by rw [HF.out]; exact C2.out, by rw [HF.out]; rfl, ?_⟩
        rw [HF.out]
        exact HI.out.done HFP.out
theorem Row_put (h : Rw w0 w l F i D s R tv r) (a st : Nat) (S : ByteArray) (hst : st < 18446744073709551616) (ha : a ≤ r.mn) (hm : s.opn.length < 900000) :
    Calls Try.prog 40 #[ptr R, .int .i64 (a : Int), .int .u64 (st : Int), .string S] w fun e w' => e = .returned (.tuple #[.int .i64 ((putR s r a st S).n : Int), .int .i64 (putR s r a st S).e]) ∧ PutAt w0 w w' l F i D (putR s r a st S).s R tv (putR s r a st S).r := by
  unfold putR
  by_cases c1 : r.down = true
  · rw [if_pos c1]
    exact (put_down h a st S c1).mono fun e w' ⟨he, hw⟩ => ⟨he, h.stay (hw ▸ Only.refl _ _)⟩
  rw [if_neg c1]
  have d1 : r.down = false := by simpa using c1
  by_cases c2 : st ≤ r.top
  · rw [if_pos c2]
    exact (put_top h a st S d1 c2).mono fun e w' ⟨he, hw⟩ => ⟨he, h.stay (hw ▸ Only.refl _ _)⟩
  rw [if_neg c2]
  by_cases c3 : 98304 < S.size
  · rw [if_pos c3]
    exact (put_long h a st S d1 c2 c3).mono fun e w' ⟨he, hw⟩ => ⟨he, h.stay hw⟩
  rw [if_neg c3]
  by_cases c4 : r.mn - a < nP (txt S.data.toList)
  · rw [if_pos c4]
    exact (put_full h a st S hst ha d1 c2 c3 c4).mono fun e w' ⟨he, hw⟩ => ⟨he, h.stay hw⟩
  rw [if_neg c4]
  refine (put_main h a st S hst ha hm d1 c2 c3 c4 _ rfl).mono fun e w' hp => ?_
  rcases hp with ⟨h0, he, hp⟩ | ⟨h0, he, hp⟩
  · rw [if_pos h0]
    exact ⟨by rw [he, sheafL_len], hp⟩
  · rw [if_neg h0]
    exact ⟨he, hp⟩
end
end Go.Proofs.Ythbbdilcclepoaa
