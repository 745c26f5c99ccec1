import Derived.Test.YtnhgakmnkpjpdaaXA
import Derived.Test.YtnhgakmnkpjpdaaPX
import Derived.Test.YtnhgakmnkpjpdaaX7
/- The document's log: top, may, put. -/
set_option maxRecDepth 100000
set_option linter.unusedVariables false
set_option linter.unusedSimpArgs false
namespace Go.Proofs.Ytnhgakmnkpjpdaa
open Go Go.RowKit Go.Proofs.Ytnhgakmnkpjpdaa.Q Go.Proofs.YtnhgakmnkpjpdaaW.PrintWords Go.Proofs.YtnhgakmnkpjpdaaW.PrintLast Go.Proofs.YtnhgakmnkpjpdaaW.PrintMore
attribute [local go_sem] Oper.semAt_some max2_int min2_int max_two min_two max_three min_three max_four min_four
theorem StrAt.slice {w : World} {B : List Nat} {v : Value} {t : List ByteArray} (h : StrAt w B v t) : ∃ A n c, v = .slice A n c := by
  obtain ⟨A, c, e, -⟩ := h
  exact ⟨A, _, c, e⟩
theorem alloc_size (w : World) (o : Obj) : (w.alloc o).heap.size = w.heap.size + 1 := Array.size_push ..
section
variable {w : World} {B : List Nat} {va vb : Value} {a b : List ByteArray}
theorem LogAt.mono {B2 : List Nat} (h : LogAt w B va vb a b) (hB : ∀ k ∈ B, k ∈ B2) (hl : ∀ k ∈ B2, k < w.heap.size) : LogAt w B2 va vb a b := ⟨h.sa.mono hB, h.sb.mono hB, h.la, h.lb, hl⟩
end
end Go.Proofs.Ytnhgakmnkpjpdaa

/- The document's log: Commit, Save. -/
set_option maxRecDepth 100000
set_option linter.unusedVariables false
set_option linter.unusedSimpArgs false
namespace Go.Proofs.Ytnhgakmnkpjpdaa
open Go Go.RowKit Go.Proofs.Ytnhgakmnkpjpdaa.Q Go.Proofs.YtnhgakmnkpjpdaaW.PrintWords Go.Proofs.YtnhgakmnkpjpdaaW.PrintLast Go.Proofs.YtnhgakmnkpjpdaaW.PrintMore
attribute [local go_sem] Oper.semAt_some max2_int min2_int max_two min_two max_three min_three max_four min_four
section
variable {w : World} {B : List Nat} {va vb : Value} {a b : List ByteArray}
end
end Go.Proofs.Ytnhgakmnkpjpdaa

/- The document's log: Save. -/
set_option maxRecDepth 100000
set_option linter.unusedVariables false
set_option linter.unusedSimpArgs false
namespace Go.Proofs.Ytnhgakmnkpjpdaa
open Go Go.RowKit Go.Proofs.Ytnhgakmnkpjpdaa.Q Go.Proofs.YtnhgakmnkpjpdaaW.PrintWords Go.Proofs.YtnhgakmnkpjpdaaW.PrintLast Go.Proofs.YtnhgakmnkpjpdaaW.PrintMore
attribute [local go_sem] Oper.semAt_some max2_int min2_int max_two min_two max_three min_three max_four min_four
section
variable {w : World} {B : List Nat} {va vb : Value} {a b : List ByteArray}
end
end Go.Proofs.Ytnhgakmnkpjpdaa
