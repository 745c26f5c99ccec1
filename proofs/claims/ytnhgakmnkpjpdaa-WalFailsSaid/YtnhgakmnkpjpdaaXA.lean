import Derived.Test.YtnhgakmnkpjpdaaX0
import Derived.Test.YtnhgakmnkpjpdaaPY
/- The document's log: half, Age, Room, over halves that are only looked at. -/
set_option maxRecDepth 100000
set_option linter.unusedVariables false
set_option linter.unusedSimpArgs false
namespace Go.Proofs.Ytnhgakmnkpjpdaa
open Go Go.RowKit Go.Proofs.Ytnhgakmnkpjpdaa.Q Go.Proofs.YtnhgakmnkpjpdaaW.PrintWords Go.Proofs.YtnhgakmnkpjpdaaW.PrintLast Go.Proofs.YtnhgakmnkpjpdaaW.PrintMore
attribute [local go_sem] Oper.semAt_some max2_int min2_int max_two min_two max_three min_three max_four min_four
/-- Two halves, in blocks of B. -/
structure LogAt (w : World) (B : List Nat) (va vb : Value) (a b : List ByteArray) : Prop where
  sa : StrAt w B va a
  sb : StrAt w B vb b
  la : a.length ≤ 60
  lb : b.length ≤ 60
  lt : ∀ k ∈ B, k < w.heap.size
theorem LogAt.kept {w W : World} {B fp : List Nat} {va vb : Value} {a b : List ByteArray} (h : LogAt w B va vb a b) (ho : Only fp w W) (hd : ∀ k ∈ B, k ∉ fp) : LogAt W B va vb a b := ⟨h.sa.kept ho hd, h.sb.kept ho hd, h.la, h.lb, fun k hk => Nat.lt_of_lt_of_le (h.lt k hk) ho.size⟩
theorem LogAt.new {w W : World} {B : List Nat} {va vb : Value} {a b : List ByteArray} (h : LogAt w B va vb a b) (ho : Only [] w W) : LogAt W B va vb a b := h.kept ho (by simp)
theorem StrAt.of_R {w : World} {base : Nat} {P : Nat → Prop} {v : Value} {t : List ByteArray} (h : Kd.R Kd.string 9 w base P v t) : StrAt w v.ownBlock.toList v t ∧ ∀ k ∈ v.ownBlock.toList, base ≤ k ∧ k < w.heap.size := by
  have hb : ∀ k ∈ v.ownBlock.toList, base ≤ k ∧ k < w.heap.size := fun k hk => by
    have h2 := (Kd.R_bound h).1 k (by simpa using hk)
    exact ⟨h2.2.1, h2.2.2.1⟩
  obtain ⟨A, c, rfl, h1, h2⟩ := Kd.R_reads h
  exact ⟨StrAt.of_C h1 h2 (fun k hk => (hb k hk).2), hb⟩
def lgBox (va vb : Value) : Obj := .cells #[va, vb] 37 (0, 0)
section
variable {w : World} {B : List Nat} {va vb : Value} {a b : List ByteArray}
end
end Go.Proofs.Ytnhgakmnkpjpdaa

/- The document's log: its transactions. -/
set_option maxRecDepth 100000
set_option linter.unusedVariables false
set_option linter.unusedSimpArgs false
namespace Go.Proofs.Ytnhgakmnkpjpdaa
open Go Go.RowKit Go.Proofs.Ytnhgakmnkpjpdaa.Q Go.Proofs.YtnhgakmnkpjpdaaW.PrintWords Go.Proofs.YtnhgakmnkpjpdaaW.PrintLast Go.Proofs.YtnhgakmnkpjpdaaW.PrintMore
attribute [local go_sem] Oper.semAt_some max2_int min2_int max_two min_two max_three min_three max_four min_four
section
variable {w : World} {BB : List Nat} {va vb : Value} {a b : List ByteArray}
end
end Go.Proofs.Ytnhgakmnkpjpdaa

/- The document's row: a sheaf is put into sectors; a new slice. -/
set_option maxRecDepth 100000
set_option linter.unusedVariables false
set_option linter.unusedSimpArgs false
namespace Go.Proofs.Ytnhgakmnkpjpdaa
open Go Go.RowKit Go.Proofs.Ytnhgakmnkpjpdaa.Q Go.Proofs.YtnhgakmnkpjpdaaW.PrintWords Go.Proofs.YtnhgakmnkpjpdaaW.PrintLast Go.Proofs.YtnhgakmnkpjpdaaW.PrintMore
attribute [local go_sem] Oper.semAt_some max2_int min2_int max_two min_two max_three min_three max_four min_four
theorem StrAt.cells {w : World} {B : List Nat} {ad : Addr} {n c : Nat} {t : List ByteArray} (h : StrAt w B (.slice (some ad) n c) t) : ∀ j u, (strV t)[j]? = some u → w.cell? (ad.add j) = some u := by
  obtain ⟨A1, cc1, heq, -, hrd, -⟩ := h
  have hsl1 := Value.slice.inj heq
  obtain ⟨hA1, -, -⟩ := hsl1
  subst hA1
  intro j u hj
  have hjl : j < t.length := by
    have := (List.getElem?_eq_some_iff.1 hj).1
    rwa [strV_len] at this
  obtain ⟨ad2, e2, hcell⟩ := hrd.2.2 (by omega)
  cases e2
  rw [strV_at t hjl] at hj
  rw [← hj]
  exact hcell j hjl
section
variable {w : World} {BB : List Nat} {v : Value} {l : List ByteArray}
end
end Go.Proofs.Ytnhgakmnkpjpdaa
