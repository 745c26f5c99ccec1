import Derived.Test.YthbbdilcclepoaaR3
import Derived.Test.YthbbdilcclepoaaRT
import Derived.Test.YthbbdilcclepoaaRB
import Derived.KernelRfl
import Derived.Test.YthbbdilcclepoaaR9
/- A row is not opened: no drive; sectors that are not there. -/
set_option maxRecDepth 100000
set_option linter.unusedVariables false
set_option linter.unusedSimpArgs false
namespace Go.Proofs.Ythbbdilcclepoaa
open Go Go.RowKit Go.Proofs.Ythbbdilcclepoaa.Q Go.Proofs.Ythbbdilcclepoaa.Pure Go.Proofs.YthbbdilcclepoaaW.PrintWords Go.Proofs.YthbbdilcclepoaaW.PrintLast Go.Proofs.YthbbdilcclepoaaW.PrintMore
attribute [local go_sem] Oper.semAt_some max2_int min2_int max_two min_two max_three min_three max_four min_four
theorem Open_nil (w : World) (a b : Int) : Calls Try.prog 8 #[.pointer none, .int .i64 a, .int .i64 b] w fun e w' => e = .returned (.tuple #[.pointer none, .int .i64 1]) ∧ w' = w := by
  go_enter Try.func8, Try.ntmps8
  go_wp2_with fail
  go_step3
  go_wp2_with (go_at_call 21; refine (Size_nil _).mono ?_; rintro e w' ⟨rfl, rfl⟩)
  try rw [Exit.noGoto_ret]
  go_ret2
  exact ⟨rfl, rfl⟩
theorem Open_no {w0 w : World} {l : List (Nat × DS)} {F : List Nat} {i D : Nat} {s : DS} (h : Dr w0 w l F) (hi : l[i]? = some (D, s)) (a b : Int) (hl : 0 < s.now.length ∧ s.now.length ≤ 4096) (hno : a < 0 ∨ b < 1 ∨ (s.now.length : Int) < a ∨ (s.now.length : Int) - a < b) :
    Calls Try.prog 8 #[ptr D, .int .i64 a, .int .i64 b] w fun e w' => e = .returned (.tuple #[.pointer none, .int .i64 2]) ∧ w' = w := by
  have HS := hid (h.size hi)
  have c0 : ((s.now.length : Int) == 0) = false := by rw [beq_eq_false_iff_ne]; omega
  obtain ⟨N, hN⟩ : ∃ N, N = s.now.length := ⟨_, rfl⟩
  rw [← hN] at HS c0 hl hno
  unfold ptr at *
  clear h hi hN
  have HNO := hid hno
  have HLL := hid hl
  by_cases c1 : a < 0
  · have d1 : decide (a < 0) = true := decide_eq_true c1
    clear hno hl
    go_enter Try.func8, Try.ntmps8
    go_wp2_with fail
    go_step3
    go_wp2_with (go_at_call 21; refine HS.out.mono ?_; rintro e w' ⟨rfl, rfl⟩)
    try rw [Exit.noGoto_ret]
    go_ret2
    exact ⟨rfl, rfl⟩
  · have d1 : decide (a < 0) = false := decide_eq_false c1
    by_cases c2 : b < 1
    · have d2 : decide (b < 1) = true := decide_eq_true c2
      clear hno hl
      go_enter Try.func8, Try.ntmps8
      go_wp2_with fail
      go_step3
      go_wp2_with (go_at_call 21; refine HS.out.mono ?_; rintro e w' ⟨rfl, rfl⟩)
      try rw [Exit.noGoto_ret]
      go_ret2
      exact ⟨rfl, rfl⟩
    · have d2 : decide (b < 1) = false := decide_eq_false c2
      by_cases c3 : (N : Int) < a
      · have d3 : decide ((N : Int) < a) = true := decide_eq_true c3
        clear hno hl
        go_enter Try.func8, Try.ntmps8
        go_wp2_with fail
        go_step3
        go_wp2_with (go_at_call 21; refine HS.out.mono ?_; rintro e w' ⟨rfl, rfl⟩)
        try rw [Exit.noGoto_ret]
        go_ret2
        exact ⟨rfl, rfl⟩
      · have d3 : decide ((N : Int) < a) = false := decide_eq_false c3
        have c4 : (N : Int) - a < b := by rcases hno with h | h | h | h <;> first | exact absurd h c1 | exact absurd h c2 | exact absurd h c3 | exact h
        have d4 : decide ((N : Int) - a < b) = true := decide_eq_true c4
        have hb1 : 0 ≤ a := by omega
        have hb2 : a ≤ 4096 := by omega
        have hb3 : N ≤ 4096 := hl.2
        clear hno hl c4
        go_enter Try.func8, Try.ntmps8
        go_wp2_with fail
        go_step3
        go_wp2_with (go_at_call 21; refine HS.out.mono ?_; rintro e w' ⟨rfl, rfl⟩)
        try rw [Exit.noGoto_ret]
        go_ret2
        exact ⟨rfl, rfl⟩
end Go.Proofs.Ythbbdilcclepoaa

/- Chapter 05: head's states, plain. -/
set_option maxRecDepth 100000
set_option linter.unusedVariables false
set_option linter.unusedSimpArgs false
namespace Go.Proofs.Ythbbdilcclepoaa
open Go Go.RowKit Go.Proofs.Ythbbdilcclepoaa.Q Go.Proofs.Ythbbdilcclepoaa.Pure Go.Proofs.YthbbdilcclepoaaW.PrintWords Go.Proofs.YthbbdilcclepoaaW.PrintLast Go.Proofs.YthbbdilcclepoaaW.PrintMore
theorem getP_zeros (n : Nat) : getP (List.replicate n zB) = none := by
  cases hg : getP (List.replicate n zB) with
  | none => rfl
  | some p =>
    obtain ⟨b, r, hb, hh⟩ := getP_hd (n := p.1) (S := p.2) hg
    have h0 := (getP_some (n := p.1) (S := p.2) hg).1
    have hm : b ∈ List.replicate n zB := by rw [hb]; simp
    rw [List.eq_of_mem_replicate hm] at hh
    have hz : hd zB = 0 := by kernel_rfl
    omega
theorem rowT_zeros (n : Nat) : rowT (List.replicate n zB) = st0 := by
  show openL _ st0 = _
  exact openL_none (st := st0) (by show getP ((List.replicate n zB).drop 0) = none; rw [List.drop_zero]; exact getP_zeros n)
theorem topL_zeros (n : Nat) : topL (List.replicate n zB) 0 = 0 := by
  have hz : hd zB = 0 := by kernel_rfl
  refine Nat.le_antisymm (topL_le _ 0 0 (Nat.le_refl _) (fun b hb => by rw [List.eq_of_mem_replicate hb, hz]; exact Nat.le_refl _)) (Nat.zero_le _)
theorem rowSec_new (N fr mn : Nat) (h : fr + mn ≤ N) : rowSec (newS N) fr mn = List.replicate mn zB := by
  rw [rowSec_eq _ _ _ (by show _ ≤ (List.replicate N z64).length; rw [List.length_replicate]; exact h)]
  show (((List.replicate N z64).drop fr).take mn).map B = _
  rw [List.drop_replicate, List.take_replicate, List.map_replicate, Nat.min_eq_left (by omega)]
  rfl
theorem openRS_new (N fr mn : Nat) (h : fr + mn ≤ N) : openRS (newS N) fr mn = ⟨fr, mn, [], 0, 0, 0, false⟩ := by
  unfold openRS
  rw [rowSec_new N fr mn h, rowT_zeros, topL_zeros]
  rfl
def tA : ByteArray := ⟨#[97]⟩
def tB : ByteArray := ⟨#[98]⟩
def tC : ByteArray := ⟨#[99]⟩
def t50 : ByteArray := B (List.replicate 50 0)
def rh0 : RS := ⟨2, 4, [], 0, 0, 0, false⟩
def rhA : ActR := addR (newS 8) rh0 1 tA
def rhB : ActR := addR rhA.s rhA.r 2 t50
def rhC : ActR := addR rhB.s rhB.r 2 tB
def rhD : ActR := addR rhC.s rhC.r 3 t50
def rhE : ActR := beginR rhD.s rhD.r 9 tC
theorem head_e : rhA.e = 0 ∧ rhB.e = 0 ∧ rhC.e = 2 ∧ rhD.e = 6 ∧ rhE.e = 0 := ⟨by kernel_rfl, by kernel_rfl, by kernel_rfl, by kernel_rfl, by kernel_rfl⟩
theorem head_B : rhB.r.texts = [tA, t50] ∧ rhB.r.en = 3 ∧ rhB.r.mn = 4 := ⟨by kernel_rfl, by kernel_rfl, by kernel_rfl⟩
theorem head_E : rhE.r.texts = [tC] ∧ rhE.r.en = 1 ∧ rhE.r.first = 9 ∧ rhE.r.top = 9 := ⟨by kernel_rfl, by kernel_rfl, by kernel_rfl, by kernel_rfl⟩
theorem head_o : rhA.s.opn.length = 1 ∧ rhB.s.opn.length = 3 ∧ rhC.s.opn.length = 3 ∧ rhD.s.opn.length = 3 := ⟨by kernel_rfl, by kernel_rfl, by kernel_rfl, by kernel_rfl⟩
end Go.Proofs.Ythbbdilcclepoaa

/- A row, and a slice of texts that was told beside it. -/
set_option maxRecDepth 100000
set_option linter.unusedVariables false
set_option linter.unusedSimpArgs false
namespace Go.Proofs.Ythbbdilcclepoaa
open Go Go.RowKit Go.Proofs.Ythbbdilcclepoaa.Q Go.Proofs.Ythbbdilcclepoaa.Pure Go.Proofs.YthbbdilcclepoaaW.PrintWords Go.Proofs.YthbbdilcclepoaaW.PrintLast Go.Proofs.YthbbdilcclepoaaW.PrintMore
/-- Drives, a row, and a slice of texts of one's own. -/
structure Held (w0 w : World) (l : List (Nat × DS)) (F : List Nat) (i D : Nat) (s : DS) (R : Nat) (tv : Value) (r : RS) (v : Value) (xs : List ByteArray) : Prop where
  rw : Rw w0 w l F i D s R tv r
  own : w.ownsRow w0.heap.size 9 1 v xs.length (strV xs)
  mem : ∀ k ∈ v.ownBlock.toList, k ∈ F ∧ k ∉ rwFp R tv
section
variable {w0 w w' : World} {l : List (Nat × DS)} {F : List Nat} {i D : Nat} {s s' : DS} {R : Nat} {tv tv' : Value} {r r' : RS} {v : Value} {xs : List ByteArray}
theorem Rw.hold (h : Rw w0 w l F i D s R tv r) (ho : Only [] w w') (hv : w'.ownsRow w.heap.size 9 1 v xs.length (strV xs)) : Held w0 w' l (v.ownBlock.toList ++ F) i D s R tv r v xs := by
  refine ⟨⟨h.dr.grow [] _ ho (by simp) (fun k hk => (List.mem_append.1 hk).elim (fun e => .inr (ownsRow_lt hv e)) .inl), h.hi, h.row.new ho, fun k hk => List.mem_append_right _ (h.fp k hk)⟩, ownsRow_weaken hv h.dr.below.size, fun k hk => ⟨List.mem_append_left _ hk, fun e => ?_⟩⟩
  have h1 := (ownsRow_lt hv hk).1
  have h2 := (h.row.fp_lt k e).2
  omega
theorem Held.new (h : Held w0 w l F i D s R tv r v xs) (ho : Only [] w w') : Held w0 w' l F i D s R tv r v xs := ⟨h.rw.new ho, ownsRow_kept h.own ho (by simp), h.mem⟩
theorem Held.went (h : Held w0 w l F i D s R tv r v xs) (hw : Went w0 w w' l F i D s' R tv tv' r') : Held w0 w' (l.set i (D, s')) (tv'.ownBlock.toList ++ F) i D s' R tv' r' v xs := by
  refine ⟨hw.rw, ownsRow_at h.own (fun k hk => hw.same k (h.mem k hk).1 (h.mem k hk).2), fun k hk => ⟨List.mem_append_right _ (h.mem k hk).1, fun e => ?_⟩⟩
  obtain ⟨hF, hn⟩ := h.mem k hk
  rcases List.mem_cons.1 e with rfl | e
  · exact hn (by simp [rwFp])
  · rcases hw.fresh k e with q | q
    · exact hn q
    · exact q hF
end
end Go.Proofs.Ythbbdilcclepoaa
