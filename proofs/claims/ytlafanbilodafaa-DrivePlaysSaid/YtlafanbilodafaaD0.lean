/- A drive in memory: what stands where; what a call of it leaves alone. -/
import Derived.Test.YtlafanbilodafaaB0
import Derived.Test.YtlafanbilodafaaH0
import Derived.Laws.AppendOwn
import Derived.OwnWalk
set_option linter.unusedVariables false
set_option linter.unusedSimpArgs false
namespace Go.Proofs.Ytlafanbilodafaa
open Go Go.RowKit Go.Proofs.YtlafanbilodafaaW.PrintWords Go.Proofs.YtlafanbilodafaaW.PrintLast Go.Proofs.YtlafanbilodafaaW.PrintMore
theorem info_two {P : Program} {e : TypeId} {z : Value} {size : Nat} (h : (P.info? e).map (fun i => (i.zero, i.size)) = some (some z, size)) :
    ∃ i, P.info? e = some i ∧ i.zero = some z ∧ i.size = size := by
  obtain ⟨i, hi, hzz⟩ := Option.map_eq_some_iff.1 h
  simp only [Prod.mk.injEq] at hzz
  exact ⟨i, hi, hzz.1, hzz.2⟩
theorem info65 : (Try.prog.info? 65).map (fun i => (i.zero, i.size, i.bytes)) = some (some (.agg (cells8 z64)), 64, 64) := by kernel_rfl
theorem info_three {P : Program} {e : TypeId} {z : Value} {size bytes : Nat} (h : (P.info? e).map (fun i => (i.zero, i.size, i.bytes)) = some (some z, size, bytes)) :
    ∃ i, P.info? e = some i ∧ i.zero = some z ∧ i.size = size ∧ i.bytes = bytes := by
  obtain ⟨i, hi, hzz⟩ := Option.map_eq_some_iff.1 h
  simp only [Prod.mk.injEq] at hzz
  exact ⟨i, hi, hzz.1, hzz.2.1, hzz.2.2⟩
/-! What is left alone -/
/-- From w to W nothing that was there has changed, but blocks of the list. -/
structure Only (fp : List Nat) (w W : World) : Prop where
  os : W.os = w.os
  tape : W.tape = w.tape
  output : W.output = w.output
  size : w.heap.size ≤ W.heap.size
  block : ∀ k, k < w.heap.size → k ∉ fp → W.heap[k]? = w.heap[k]?
theorem Only.refl (fp : List Nat) (w : World) : Only fp w w := ⟨rfl, rfl, rfl, Nat.le_refl _, fun _ _ _ => rfl⟩
theorem Only.trans {fp fp' : List Nat} {w w1 w2 : World} (h : Only fp w w1) (h' : Only fp' w1 w2) (hf : ∀ k, k ∈ fp' → k < w.heap.size → k ∈ fp) : Only fp w w2 :=
  ⟨h'.os.trans h.os, h'.tape.trans h.tape, h'.output.trans h.output, Nat.le_trans h.size h'.size, fun k hk hn =>
    (h'.block k (Nat.lt_of_lt_of_le hk h.size) (fun e => hn (hf k e hk))).trans (h.block k hk hn)⟩
theorem Only.mono {fp fp' : List Nat} {w W : World} (h : Only fp w W) (hf : ∀ k, k ∈ fp → k ∈ fp') : Only fp' w W := ⟨h.os, h.tape, h.output, h.size, fun k hk hn => h.block k hk (fun e => hn (hf k e))⟩
theorem Only.below {fp : List Nat} {w W : World} (h : Only fp w W) {B : Nat} (hB : B ≤ w.heap.size) (hf : ∀ k, k ∈ fp → B ≤ k) : Below B w W :=
  ⟨h.os, h.tape, h.output, h.size, fun k hk => h.block k (by omega) (fun e => by have := hf k e; omega)⟩
theorem Only.of_new {fp : List Nat} {w W : World} {ob : Obj} (h : New w W ob) : Only fp w W := ⟨h.os, h.tape, h.output, by have := h.size; omega, fun k hk _ => h.old k hk⟩
theorem Only.of_upd {fp : List Nat} {w W : World} {g : Nat} {ob : Obj} (h : Upd w W g ob) (hg : g ∈ fp) : Only fp w W := ⟨h.os, h.tape, h.output, by have := h.size; omega, fun k hk hn => h.other k (fun e => hn (e ▸ hg))⟩
theorem Only.of_below {fp : List Nat} {w W : World} (h : Below w.heap.size w W) : Only fp w W := ⟨h.os, h.tape, h.output, h.size, fun k hk _ => h.block k hk⟩
theorem Only.of_grown {fp : List Nat} {w W : World} {row : Option Nat} (h : w.grownBy W row) (hr : ∀ k, row = some k → k ∈ fp) : Only fp w W :=
  ⟨h.os, h.tape, h.output, h.size, fun k hk hn => h.block k hk (fun e => hn (hr k e.symm))⟩
theorem Only.grown1 {g : Nat} {w W : World} (h : Only [g] w W) : w.grownBy W (some g) :=
  ⟨h.os, h.tape, h.output, h.size, fun k hk hn => h.block k hk (by simpa using hn)⟩
theorem Only.setCell {fp : List Nat} (w : World) (p : Addr) (v : Value) (hp : p.block ∈ fp) : Only fp w (w.setCell p v) :=
  ⟨rfl, rfl, rfl, by simp [World.setCell], fun k hk hn => heap_setCell_other _ _ _ _ (fun e => hn (e ▸ hp))⟩
theorem Only.alloc (fp : List Nat) (w : World) (o : Obj) : Only fp w (w.alloc o) := .of_new (New.alloc w o)
theorem Only.drew (fp : List Nat) (w : World) : Only fp w w.drew := ⟨rfl, rfl, rfl, Nat.le_refl _, fun _ _ _ => rfl⟩
/-! Rows of rows -/
def rowC (l : List (List UInt8)) : List Value := l.flatMap fun s => s.map cb
def wrC (x : Nat × List UInt8) : List Value := .int .i64 (x.1 : Int) :: x.2.map cb
theorem info67 : (Try.prog.info? 67).map (fun i => (i.zero, i.size, i.bytes)) = some (some (.agg (wrC (0, z64)).toArray), 65, 72) := by kernel_rfl
def opnC (l : List (Nat × List UInt8)) : List Value := l.flatMap wrC
theorem flat_drop {α : Type} (f : α → List Value) (n : Nat) (l : List α) (hf : ∀ x ∈ l, (f x).length = n) (i : Nat) : (l.flatMap f).drop (i * n) = (l.drop i).flatMap f := by
  induction i generalizing l with
  | zero => simp
  | succ i ih =>
    cases l with
    | nil => simp
    | cons x r =>
      have hx := hf x (by simp)
      rw [List.flatMap_cons, Nat.succ_mul, Nat.add_comm, ← List.drop_drop, List.drop_append_of_le_length (by omega), List.drop_of_length_le (l := f x) (by omega), List.nil_append, ih r (fun y hy => hf y (List.mem_cons_of_mem _ hy))]
      rfl
theorem flat_length {α : Type} (f : α → List Value) (n : Nat) (l : List α) (hf : ∀ x ∈ l, (f x).length = n) : (l.flatMap f).length = l.length * n := by
  induction l with
  | nil => simp
  | cons x r ih => rw [List.flatMap_cons, List.length_append, ih (fun y hy => hf y (List.mem_cons_of_mem _ hy)), hf x (by simp), List.length_cons, Nat.succ_mul, Nat.add_comm]
theorem flat_at {α : Type} (f : α → List Value) (n : Nat) (l : List α) (hf : ∀ x ∈ l, (f x).length = n) (i j : Nat) (x : α) (hx : l[i]? = some x) (hj : j < n) : (l.flatMap f)[i * n + j]? = (f x)[j]? := by
  have hi : i < l.length := (List.getElem?_eq_some_iff.1 hx).1
  have h := flat_drop f n l hf i
  have e : ((l.flatMap f).drop (i * n))[j]? = (l.flatMap f)[i * n + j]? := List.getElem?_drop
  rw [← e, h, List.drop_eq_getElem_cons hi, List.flatMap_cons]
  obtain ⟨_, hx'⟩ := List.getElem?_eq_some_iff.1 hx
  rw [hx', List.getElem?_append_left (by rw [hf x (hx' ▸ List.getElem_mem hi)]; exact hj)]
/-! The drive -/
structure DV where
  D : Nat
  vn : Value
  vs : Value
  vo : Value
  fz : Option Nat
structure DS where
  now : List (List UInt8)
  sure : List (List UInt8)
  opn : List (Nat × List UInt8)
  fuse : Option Nat
def ptr (n : Nat) : Value := .pointer (some ⟨n, 0, none⟩)
def fzV : Option Nat → Value
  | none => .pointer none
  | some n => .pointer (some ⟨n, 0, none⟩)
def DV.fp (d : DV) : List Nat := d.D :: (d.vn.ownBlock.toList ++ (d.vs.ownBlock.toList ++ (d.vo.ownBlock.toList ++ d.fz.toList)))
def FuseAt (base : Nat) (W : World) : Option Nat → Option Nat → Prop
  | none, none => True
  | some f, some k => base ≤ f ∧ k < 9223372036854775808 ∧ W.heap[f]? = some (.cells #[.int .i64 (k : Int)] 3 (0, 0))
  | _, _ => False
structure Drv (base : Nat) (W : World) (d : DV) (s : DS) : Prop where
  hD : base ≤ d.D
  obj : W.heap[d.D]? = some (.cells #[d.vn, d.vs, d.vo, fzV d.fz] 61 (0, 0))
  now : W.ownsRow base 65 64 d.vn s.now.length (rowC s.now)
  sure : W.ownsRow base 65 64 d.vs s.sure.length (rowC s.sure)
  opn : W.ownsRow base 67 65 d.vo s.opn.length (opnC s.opn)
  fuse : FuseAt base W d.fz s.fuse
  nodup : d.fp.Nodup
  len : s.sure.length = s.now.length ∧ 8 ≤ s.now.length ∧ s.now.length ≤ 4096
  secN : ∀ x ∈ s.now, x.length = 64
  secS : ∀ x ∈ s.sure, x.length = 64
  wr : ∀ x ∈ s.opn, x.1 < s.now.length ∧ x.2.length = 64
theorem ownsRow_lt {w : World} {base : Nat} {e : TypeId} {size : Nat} {v : Value} {n : Nat} {xs : List Value} (h : w.ownsRow base e size v n xs) {k : Nat} (hk : k ∈ v.ownBlock.toList) : base ≤ k ∧ k < w.heap.size :=
  h.lt k (by simpa using hk)
theorem Drv.fp_lt {base : Nat} {W : World} {d : DV} {s : DS} (h : Drv base W d s) : ∀ k, k ∈ d.fp → base ≤ k ∧ k < W.heap.size := by
  intro k hk
  unfold DV.fp at hk
  rcases List.mem_cons.1 hk with rfl | hk
  · exact ⟨h.hD, (Array.getElem?_eq_some_iff.1 h.obj).1⟩
  rcases List.mem_append.1 hk with hk | hk
  · exact ownsRow_lt h.now hk
  rcases List.mem_append.1 hk with hk | hk
  · exact ownsRow_lt h.sure hk
  rcases List.mem_append.1 hk with hk | hk
  · exact ownsRow_lt h.opn hk
  · have hf := h.fuse
    cases hz : d.fz with
    | none => rw [hz] at hk; cases hk
    | some f =>
      rw [hz] at hk hf
      obtain rfl : f = k := by simpa [eq_comm] using hk
      cases hs : s.fuse with
      | none => rw [hs] at hf; exact hf.elim
      | some n =>
        rw [hs] at hf
        exact ⟨hf.1, (Array.getElem?_eq_some_iff.1 hf.2.2).1⟩
theorem ownsRow_kept {w W : World} {base : Nat} {e : TypeId} {size : Nat} {v : Value} {n : Nat} {xs : List Value} {fp : List Nat} (h : w.ownsRow base e size v n xs) (ho : Only fp w W) (hk : ∀ k, k ∈ v.ownBlock.toList → k ∉ fp) : W.ownsRow base e size v n xs := by
  refine ⟨h.1, ?_⟩
  rcases h.2 with hn | ⟨g, cap, cur, rfl, hb, hgg, rest⟩
  · exact .inl hn
  · refine .inr ⟨g, cap, cur, rfl, hb, ?_, rest⟩
    rw [ho.block g (Array.getElem?_eq_some_iff.1 hgg).1 (hk g (by simp [Value.ownBlock]))]
    exact hgg
theorem FuseAt.kept {base : Nat} {w W : World} {fp : List Nat} {z n : Option Nat} (h : FuseAt base w z n) (ho : Only fp w W) (hk : ∀ k, k ∈ z.toList → k ∉ fp) : FuseAt base W z n := by
  cases z with
  | none => cases n with
    | none => trivial
    | some _ => exact h.elim
  | some f => cases n with
    | none => exact h.elim
    | some k => exact ⟨h.1, h.2.1, (ho.block f (Array.getElem?_eq_some_iff.1 h.2.2).1 (hk f (by simp))).trans h.2.2⟩
theorem Drv.kept {base : Nat} {w W : World} {d : DV} {s : DS} {fp : List Nat} (h : Drv base w d s) (ho : Only fp w W) (hk : ∀ k, k ∈ d.fp → k ∉ fp) : Drv base W d s where
  hD := h.hD
  obj := (ho.block _ (Array.getElem?_eq_some_iff.1 h.obj).1 (hk _ (by simp [DV.fp]))).trans h.obj
  now := ownsRow_kept h.now ho (fun k e => hk k (by simp [DV.fp]; simp at e; exact .inr (.inl e)))
  sure := ownsRow_kept h.sure ho (fun k e => hk k (by simp [DV.fp]; simp at e; exact .inr (.inr (.inl e))))
  opn := ownsRow_kept h.opn ho (fun k e => hk k (by simp [DV.fp]; simp at e; exact .inr (.inr (.inr (.inl e)))))
  fuse := h.fuse.kept ho (fun k e => hk k (by simp [DV.fp]; simp at e; exact .inr (.inr (.inr (.inr e)))))
  nodup := h.nodup
  len := h.len
  secN := h.secN
  secS := h.secS
  wr := h.wr
/-- The slices as they are. -/
theorem ownsRow_slice {w : World} {base : Nat} {e : TypeId} {size : Nat} {v : Value} {n : Nat} {xs : List Value} (h : w.ownsRow base e size v n xs) (hn : 0 < n) :
    ∃ g cap cur, v = .slice (some ⟨g, 0, none⟩) n cap ∧ base ≤ g ∧ w.heap[g]? = some (.cells cur e (0, 0)) ∧ n ≤ cap ∧ cap ≤ maxLen ∧ cur.size = cap * size ∧ cur.toList.take (n * size) = xs := by
  rcases h.2 with ⟨_, h0⟩ | h
  · omega
  · exact h
theorem Drv.cells {base : Nat} {W : World} {d : DV} {s : DS} (h : Drv base W d s) :
    W.cell? ⟨d.D, 0, none⟩ = some d.vn ∧ W.cell? ⟨d.D, 1, none⟩ = some d.vs ∧ W.cell? ⟨d.D, 2, none⟩ = some d.vo ∧ W.cell? ⟨d.D, 3, none⟩ = some (fzV d.fz) ∧
    W.frozen? ⟨d.D, 0, none⟩ = false ∧ W.frozen? ⟨d.D, 1, none⟩ = false ∧ W.frozen? ⟨d.D, 2, none⟩ = false ∧ W.frozen? ⟨d.D, 3, none⟩ = false := by
  refine ⟨(cell_of_row W _ _ _ _ _ h.obj).trans rfl, (cell_of_row W _ _ _ _ _ h.obj).trans rfl, (cell_of_row W _ _ _ _ _ h.obj).trans rfl, (cell_of_row W _ _ _ _ _ h.obj).trans rfl, ?_, ?_, ?_, ?_⟩ <;> exact frozen_of_row W _ _ _ _ h.obj
end Go.Proofs.Ytlafanbilodafaa
