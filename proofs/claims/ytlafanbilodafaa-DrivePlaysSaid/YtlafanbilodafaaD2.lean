/- A drive: Fuse. -/
import Derived.Test.YtlafanbilodafaaD1
set_option linter.unusedVariables false
set_option linter.unusedSimpArgs false
namespace Go.Proofs.Ytlafanbilodafaa
open Go Go.RowKit Go.Proofs.YtlafanbilodafaaW.PrintWords Go.Proofs.YtlafanbilodafaaW.PrintLast Go.Proofs.YtlafanbilodafaaW.PrintMore
attribute [local go_sem] Oper.semAt_some max2_int min2_int max_two min_two max_three min_three max_four min_four
theorem setCell_at {w : World} {b : Nat} {cs : Array Value} {ty : TypeId} (h : w.heap[b]? = some (.cells cs ty (0, 0))) (o : Nat) (v : Value) :
    (w.setCell ⟨b, o, none⟩ v).heap[b]? = some (.cells (cs.setIfInBounds o v) ty (0, 0)) := heap_setCell_same w b o cs ty v h
theorem nodup_tail {d : DV} (h : d.fp.Nodup) (z : Option Nat) (hz : ∀ f, f ∈ z.toList → f ∉ d.fp) : ({ d with fz := z } : DV).fp.Nodup := by
  unfold DV.fp at *
  have e : d.D :: (d.vn.ownBlock.toList ++ (d.vs.ownBlock.toList ++ (d.vo.ownBlock.toList ++ d.fz.toList))) = (d.D :: (d.vn.ownBlock.toList ++ (d.vs.ownBlock.toList ++ d.vo.ownBlock.toList))) ++ d.fz.toList := by simp
  have e2 : d.D :: (d.vn.ownBlock.toList ++ (d.vs.ownBlock.toList ++ (d.vo.ownBlock.toList ++ z.toList))) = (d.D :: (d.vn.ownBlock.toList ++ (d.vs.ownBlock.toList ++ d.vo.ownBlock.toList))) ++ z.toList := by simp
  show (d.D :: (d.vn.ownBlock.toList ++ (d.vs.ownBlock.toList ++ (d.vo.ownBlock.toList ++ z.toList)))).Nodup
  rw [e2]
  rw [e] at h hz
  obtain ⟨h1, -, -⟩ := List.nodup_append.1 h
  refine List.nodup_append.2 ⟨h1, by cases z <;> simp, ?_⟩
  intro a ha b hb e
  exact hz b hb (List.mem_append_left _ (e ▸ ha))
/-- The fuse is another one. -/
theorem Drv.fused {base : Nat} {w W : World} {d : DV} {s : DS} (h : Drv base w d s) (ho : Only [d.D] w W) (z k : Option Nat)
    (hobj : W.heap[d.D]? = some (.cells #[d.vn, d.vs, d.vo, fzV z] 61 (0, 0))) (hz : FuseAt base W z k) (hn : ∀ f, f ∈ z.toList → w.heap.size ≤ f) : Drv base W { d with fz := z } { s with fuse := k } := by
  have hnd := List.nodup_cons.1 h.nodup
  have hne : ∀ k, k ∈ d.fp.tail → k ∉ [d.D] := fun k hk e => hnd.1 (by rw [List.mem_singleton] at e; subst e; exact hk)
  refine ⟨h.hD, hobj, ownsRow_kept h.now ho (fun k e => hne k ?_), ownsRow_kept h.sure ho (fun k e => hne k ?_), ownsRow_kept h.opn ho (fun k e => hne k ?_), hz, nodup_tail h.nodup z (fun f hf e => ?_), h.len, h.secN, h.secS, h.wr⟩
  · simp only [DV.fp, List.tail_cons, List.mem_append]; exact .inl e
  · simp only [DV.fp, List.tail_cons, List.mem_append]; exact .inr (.inl e)
  · simp only [DV.fp, List.tail_cons, List.mem_append]; exact .inr (.inr (.inl e))
  · have := (h.fp_lt f e).2
    have := hn f hf
    omega
def fuseS (s : DS) (n : Int) : DS := { s with fuse := if 0 ≤ n then some n.toNat else none }
theorem Fuse_calls {base : Nat} {w : World} {d : DV} {s : DS} (h : Drv base w d s) (hb : base ≤ w.heap.size) (n : Int) (hn : n < 9223372036854775808) :
    Calls Try.prog 7 #[ptr d.D, .int .i64 n] w fun e w' => e = .returned (.tuple #[]) ∧ ∃ z, Drv base w' { d with fz := z } (fuseS s n) ∧ Only [d.D] w w' ∧ ∀ f, f ∈ z.toList → w.heap.size ≤ f := by
  have HD := hid h
  have HN := hid hn
  have HB := hid hb
  have HH := hid h.obj
  have hlt : d.D < w.heap.size := (h.fp_lt d.D (by simp [DV.fp])).2
  have HLT := hid hlt
  unfold ptr
  clear h hn hb hlt
  have hA : (w.alloc (.cells #[.int .i64 n] 3)).heap[d.D]? = some (.cells #[d.vn, d.vs, d.vo, fzV d.fz] 61 (0, 0)) := (heap_alloc_old w _ HLT.out).trans HH.out
  have HA := hid hA
  clear hA
  by_cases c : 0 ≤ n
  · have c1 : decide (n < 0) = false := decide_eq_false (by omega)
    go_enter Try.func7, Try.ntmps7
    go_wp2_with (go_at_call 21; refine (none_calls (HD.out.kept (Only.alloc [] _ _) (by simp))).mono ?_; rintro e w' ⟨rfl, rfl⟩; obtain ⟨-, -, -, h3, -, -, -, f3⟩ := (HD.out.kept (Only.alloc [] w (.cells #[.int .i64 n] 3)) (by simp)).cells)
    go_end0
    have e1 := setCell_at (setCell_at HA.out 3 (.pointer none)) 3 (fzV (some w.heap.size))
    have ho : Only [d.D] w (((w.alloc (.cells #[.int .i64 n] 3)).setCell ⟨d.D, 3, none⟩ (.pointer none)).setCell ⟨d.D, 3, none⟩ (fzV (some w.heap.size))) :=
      ((Only.alloc [d.D] w _).trans (Only.setCell (fp := [d.D]) _ _ _ (by simp)) (by simp)).trans (Only.setCell (fp := [d.D]) _ _ _ (by simp)) (by simp)
    have ef : fuseS s n = { s with fuse := some n.toNat } := by unfold fuseS; rw [if_pos c]
    refine ⟨rfl, some w.heap.size, ?_, ho, by simp⟩
    rw [ef]
    refine HD.out.fused ho (some w.heap.size) (some n.toNat) (e1.trans rfl) ⟨HB.out, by have := HN.out; omega, ?_⟩ (by simp)
    have hne : w.heap.size ≠ d.D := by have := HLT.out; omega
    rw [heap_setCell_other _ _ _ _ hne, heap_setCell_other _ _ _ _ hne, heap_alloc_new, Int.toNat_of_nonneg c]
  · have c1 : decide (n < 0) = true := decide_eq_true (by omega)
    go_enter Try.func7, Try.ntmps7
    go_wp2_with (go_at_call 21; refine (none_calls (HD.out.kept (Only.alloc [] _ _) (by simp))).mono ?_; rintro e w' ⟨rfl, rfl⟩; obtain ⟨-, -, -, h3, -, -, -, f3⟩ := (HD.out.kept (Only.alloc [] w (.cells #[.int .i64 n] 3)) (by simp)).cells)
    go_end0
    have e1 := setCell_at HA.out 3 (fzV none)
    have ho : Only [d.D] w ((w.alloc (.cells #[.int .i64 n] 3)).setCell ⟨d.D, 3, none⟩ (fzV none)) :=
      (Only.alloc [d.D] w _).trans (Only.setCell (fp := [d.D]) _ _ _ (by simp)) (by simp)
    have ef : fuseS s n = { s with fuse := none } := by unfold fuseS; rw [if_neg (by omega)]
    refine ⟨rfl, none, ?_, ho, by simp⟩
    rw [ef]
    exact HD.out.fused ho none none (e1.trans rfl) trivial (by simp)
end Go.Proofs.Ytlafanbilodafaa
