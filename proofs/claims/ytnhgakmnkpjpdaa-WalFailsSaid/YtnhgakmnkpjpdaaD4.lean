import Derived.Test.YtnhgakmnkpjpdaaH0
import Derived.Laws.AppendOwn
import Derived.OwnWalk
import Derived.StillTailTactics
/- A drive in memory: what stands where; what a call of it leaves alone. -/
set_option linter.unusedVariables false
set_option linter.unusedSimpArgs false
namespace Go.Proofs.Ytnhgakmnkpjpdaa
open Go Go.RowKit Go.Proofs.YtnhgakmnkpjpdaaW.PrintWords Go.Proofs.YtnhgakmnkpjpdaaW.PrintLast Go.Proofs.YtnhgakmnkpjpdaaW.PrintMore
theorem info_two {P : Program} {e : TypeId} {z : Value} {size : Nat} (h : (P.info? e).map (fun i => (i.zero, i.size)) = some (some z, size)) :
    ∃ i, P.info? e = some i ∧ i.zero = some z ∧ i.size = size := by
  obtain ⟨i, hi, hzz⟩ := Option.map_eq_some_iff.1 h
  simp only [Prod.mk.injEq] at hzz
  exact ⟨i, hi, hzz.1, hzz.2⟩
theorem info65 : (Try.prog.info? 70).map (fun i => (i.zero, i.size, i.bytes)) = some (some (.agg (cells8 z64)), 64, 64) := by kernel_rfl
theorem info_three {P : Program} {e : TypeId} {z : Value} {size bytes : Nat} (h : (P.info? e).map (fun i => (i.zero, i.size, i.bytes)) = some (some z, size, bytes)) :
    ∃ i, P.info? e = some i ∧ i.zero = some z ∧ i.size = size ∧ i.bytes = bytes := by
  obtain ⟨i, hi, hzz⟩ := Option.map_eq_some_iff.1 h
  simp only [Prod.mk.injEq] at hzz
  exact ⟨i, hi, hzz.1, hzz.2.1, hzz.2.2⟩
/-! What is left alone -/
/-- From w to W nothing that was there has changed, but blocks of the list. -/
structure Only (fp : List Nat) (w W : World) : Prop where
  os : W.os = w.os
  tape : W.tape = w.tape
  output : W.output = w.output
  size : w.heap.size ≤ W.heap.size
  block : ∀ k, k < w.heap.size → k ∉ fp → W.heap[k]? = w.heap[k]?
theorem Only.refl (fp : List Nat) (w : World) : Only fp w w := ⟨rfl, rfl, rfl, Nat.le_refl _, fun _ _ _ => rfl⟩
theorem Only.trans {fp fp' : List Nat} {w w1 w2 : World} (h : Only fp w w1) (h' : Only fp' w1 w2) (hf : ∀ k, k ∈ fp' → k < w.heap.size → k ∈ fp) : Only fp w w2 :=
  ⟨h'.os.trans h.os, h'.tape.trans h.tape, h'.output.trans h.output, Nat.le_trans h.size h'.size, fun k hk hn =>
    (h'.block k (Nat.lt_of_lt_of_le hk h.size) (fun e => hn (hf k e hk))).trans (h.block k hk hn)⟩
theorem Only.mono {fp fp' : List Nat} {w W : World} (h : Only fp w W) (hf : ∀ k, k ∈ fp → k ∈ fp') : Only fp' w W := ⟨h.os, h.tape, h.output, h.size, fun k hk hn => h.block k hk (fun e => hn (hf k e))⟩
theorem Only.below {fp : List Nat} {w W : World} (h : Only fp w W) {B : Nat} (hB : B ≤ w.heap.size) (hf : ∀ k, k ∈ fp → B ≤ k) : Below B w W :=
  ⟨h.os, h.tape, h.output, h.size, fun k hk => h.block k (by omega) (fun e => by have := hf k e; omega)⟩
theorem Only.of_new {fp : List Nat} {w W : World} {ob : Obj} (h : New w W ob) : Only fp w W := ⟨h.os, h.tape, h.output, by have := h.size; omega, fun k hk _ => h.old k hk⟩
theorem Only.of_upd {fp : List Nat} {w W : World} {g : Nat} {ob : Obj} (h : Upd w W g ob) (hg : g ∈ fp) : Only fp w W := ⟨h.os, h.tape, h.output, by have := h.size; omega, fun k hk hn => h.other k (fun e => hn (e ▸ hg))⟩
theorem Only.of_below {fp : List Nat} {w W : World} (h : Below w.heap.size w W) : Only fp w W := ⟨h.os, h.tape, h.output, h.size, fun k hk _ => h.block k hk⟩
theorem Only.of_grown {fp : List Nat} {w W : World} {row : Option Nat} (h : w.grownBy W row) (hr : ∀ k, row = some k → k ∈ fp) : Only fp w W :=
  ⟨h.os, h.tape, h.output, h.size, fun k hk hn => h.block k hk (fun e => hn (hr k e.symm))⟩
theorem Only.setCell {fp : List Nat} (w : World) (p : Addr) (v : Value) (hp : p.block ∈ fp) : Only fp w (w.setCell p v) :=
  ⟨rfl, rfl, rfl, by simp [World.setCell], fun k hk hn => heap_setCell_other _ _ _ _ (fun e => hn (e ▸ hp))⟩
theorem Only.alloc (fp : List Nat) (w : World) (o : Obj) : Only fp w (w.alloc o) := .of_new (New.alloc w o)
theorem Only.drew (fp : List Nat) (w : World) : Only fp w w.drew := ⟨rfl, rfl, rfl, Nat.le_refl _, fun _ _ _ => rfl⟩
/-! Rows of rows -/
def rowC (l : List (List UInt8)) : List Value := l.flatMap fun s => s.map cb
def wrC (x : Nat × List UInt8) : List Value := .int .i64 (x.1 : Int) :: x.2.map cb
theorem info67 : (Try.prog.info? 72).map (fun i => (i.zero, i.size, i.bytes)) = some (some (.agg (wrC (0, z64)).toArray), 65, 72) := by kernel_rfl
def opnC (l : List (Nat × List UInt8)) : List Value := l.flatMap wrC
theorem flat_drop {α : Type} (f : α → List Value) (n : Nat) (l : List α) (hf : ∀ x ∈ l, (f x).length = n) (i : Nat) : (l.flatMap f).drop (i * n) = (l.drop i).flatMap f := by
  induction i generalizing l with
  | zero => simp
  | succ i ih =>
    cases l with
    | nil => simp
    | cons x r =>
      have hx := hf x (by simp)
      rw [List.flatMap_cons, Nat.succ_mul, Nat.add_comm, ← List.drop_drop, List.drop_append_of_le_length (by omega), List.drop_of_length_le (l := f x) (by omega), List.nil_append, ih r (fun y hy => hf y (List.mem_cons_of_mem _ hy))]
      rfl
theorem flat_length {α : Type} (f : α → List Value) (n : Nat) (l : List α) (hf : ∀ x ∈ l, (f x).length = n) : (l.flatMap f).length = l.length * n := by
  induction l with
  | nil => simp
  | cons x r ih => rw [List.flatMap_cons, List.length_append, ih (fun y hy => hf y (List.mem_cons_of_mem _ hy)), hf x (by simp), List.length_cons, Nat.succ_mul, Nat.add_comm]
theorem flat_at {α : Type} (f : α → List Value) (n : Nat) (l : List α) (hf : ∀ x ∈ l, (f x).length = n) (i j : Nat) (x : α) (hx : l[i]? = some x) (hj : j < n) : (l.flatMap f)[i * n + j]? = (f x)[j]? := by
  have hi : i < l.length := (List.getElem?_eq_some_iff.1 hx).1
  have h := flat_drop f n l hf i
  have e : ((l.flatMap f).drop (i * n))[j]? = (l.flatMap f)[i * n + j]? := List.getElem?_drop
  rw [← e, h, List.drop_eq_getElem_cons hi, List.flatMap_cons]
  obtain ⟨_, hx'⟩ := List.getElem?_eq_some_iff.1 hx
  rw [hx', List.getElem?_append_left (by rw [hf x (hx' ▸ List.getElem_mem hi)]; exact hj)]
/-! The drive -/
structure DV where
  D : Nat
  vn : Value
  vs : Value
  vo : Value
  fz : Option Nat
structure DS where
  now : List (List UInt8)
  sure : List (List UInt8)
  opn : List (Nat × List UInt8)
  fuse : Option Nat
def ptr (n : Nat) : Value := .pointer (some ⟨n, 0, none⟩)
def fzV : Option Nat → Value
  | none => .pointer none
  | some n => .pointer (some ⟨n, 0, none⟩)
def DV.fp (d : DV) : List Nat := d.D :: (d.vn.ownBlock.toList ++ (d.vs.ownBlock.toList ++ (d.vo.ownBlock.toList ++ d.fz.toList)))
def FuseAt (base : Nat) (W : World) : Option Nat → Option Nat → Prop
  | none, none => True
  | some f, some k => base ≤ f ∧ k < 9223372036854775808 ∧ W.heap[f]? = some (.cells #[.int .i64 (k : Int)] 3 (0, 0))
  | _, _ => False
structure Drv (base : Nat) (W : World) (d : DV) (s : DS) : Prop where
  hD : base ≤ d.D
  obj : W.heap[d.D]? = some (.cells #[d.vn, d.vs, d.vo, fzV d.fz] 66 (0, 0))
  now : W.ownsRow base 70 64 d.vn s.now.length (rowC s.now)
  sure : W.ownsRow base 70 64 d.vs s.sure.length (rowC s.sure)
  opn : W.ownsRow base 72 65 d.vo s.opn.length (opnC s.opn)
  fuse : FuseAt base W d.fz s.fuse
  nodup : d.fp.Nodup
  len : s.sure.length = s.now.length ∧ 8 ≤ s.now.length ∧ s.now.length ≤ 4096
  secN : ∀ x ∈ s.now, x.length = 64
  secS : ∀ x ∈ s.sure, x.length = 64
  wr : ∀ x ∈ s.opn, x.1 < s.now.length ∧ x.2.length = 64
theorem ownsRow_lt {w : World} {base : Nat} {e : TypeId} {size : Nat} {v : Value} {n : Nat} {xs : List Value} (h : w.ownsRow base e size v n xs) {k : Nat} (hk : k ∈ v.ownBlock.toList) : base ≤ k ∧ k < w.heap.size :=
  h.lt k (by simpa using hk)
theorem Drv.fp_lt {base : Nat} {W : World} {d : DV} {s : DS} (h : Drv base W d s) : ∀ k, k ∈ d.fp → base ≤ k ∧ k < W.heap.size := by
  intro k hk
  unfold DV.fp at hk
  rcases List.mem_cons.1 hk with rfl | hk
  · exact ⟨h.hD, (Array.getElem?_eq_some_iff.1 h.obj).1⟩
  rcases List.mem_append.1 hk with hk | hk
  · exact ownsRow_lt h.now hk
  rcases List.mem_append.1 hk with hk | hk
  · exact ownsRow_lt h.sure hk
  rcases List.mem_append.1 hk with hk | hk
  · exact ownsRow_lt h.opn hk
  · have hf := h.fuse
    cases hz : d.fz with
    | none => rw [hz] at hk; cases hk
    | some f =>
      rw [hz] at hk hf
      obtain rfl : f = k := by simpa [eq_comm] using hk
      cases hs : s.fuse with
      | none => rw [hs] at hf; exact hf.elim
      | some n =>
        rw [hs] at hf
        exact ⟨hf.1, (Array.getElem?_eq_some_iff.1 hf.2.2).1⟩
theorem ownsRow_kept {w W : World} {base : Nat} {e : TypeId} {size : Nat} {v : Value} {n : Nat} {xs : List Value} {fp : List Nat} (h : w.ownsRow base e size v n xs) (ho : Only fp w W) (hk : ∀ k, k ∈ v.ownBlock.toList → k ∉ fp) : W.ownsRow base e size v n xs := by
  refine ⟨h.1, ?_⟩
  rcases h.2 with hn | ⟨g, cap, cur, rfl, hb, hgg, rest⟩
  · exact .inl hn
  · refine .inr ⟨g, cap, cur, rfl, hb, ?_, rest⟩
    rw [ho.block g (Array.getElem?_eq_some_iff.1 hgg).1 (hk g (by simp [Value.ownBlock]))]
    exact hgg
theorem FuseAt.kept {base : Nat} {w W : World} {fp : List Nat} {z n : Option Nat} (h : FuseAt base w z n) (ho : Only fp w W) (hk : ∀ k, k ∈ z.toList → k ∉ fp) : FuseAt base W z n := by
  cases z with
  | none => cases n with
    | none => trivial
    | some _ => exact h.elim
  | some f => cases n with
    | none => exact h.elim
    | some k => exact ⟨h.1, h.2.1, (ho.block f (Array.getElem?_eq_some_iff.1 h.2.2).1 (hk f (by simp))).trans h.2.2⟩
theorem Drv.kept {base : Nat} {w W : World} {d : DV} {s : DS} {fp : List Nat} (h : Drv base w d s) (ho : Only fp w W) (hk : ∀ k, k ∈ d.fp → k ∉ fp) : Drv base W d s where
  hD := h.hD
  obj := (ho.block _ (Array.getElem?_eq_some_iff.1 h.obj).1 (hk _ (by simp [DV.fp]))).trans h.obj
  now := ownsRow_kept h.now ho (fun k e => hk k (by simp [DV.fp]; simp at e; exact .inr (.inl e)))
  sure := ownsRow_kept h.sure ho (fun k e => hk k (by simp [DV.fp]; simp at e; exact .inr (.inr (.inl e))))
  opn := ownsRow_kept h.opn ho (fun k e => hk k (by simp [DV.fp]; simp at e; exact .inr (.inr (.inr (.inl e)))))
  fuse := h.fuse.kept ho (fun k e => hk k (by simp [DV.fp]; simp at e; exact .inr (.inr (.inr (.inr e)))))
  nodup := h.nodup
  len := h.len
  secN := h.secN
  secS := h.secS
  wr := h.wr
/-- The slices as they are. -/
theorem ownsRow_slice {w : World} {base : Nat} {e : TypeId} {size : Nat} {v : Value} {n : Nat} {xs : List Value} (h : w.ownsRow base e size v n xs) (hn : 0 < n) :
    ∃ g cap cur, v = .slice (some ⟨g, 0, none⟩) n cap ∧ base ≤ g ∧ w.heap[g]? = some (.cells cur e (0, 0)) ∧ n ≤ cap ∧ cap ≤ maxLen ∧ cur.size = cap * size ∧ cur.toList.take (n * size) = xs := by
  rcases h.2 with ⟨_, h0⟩ | h
  · omega
  · exact h
theorem Drv.cells {base : Nat} {W : World} {d : DV} {s : DS} (h : Drv base W d s) :
    W.cell? ⟨d.D, 0, none⟩ = some d.vn ∧ W.cell? ⟨d.D, 1, none⟩ = some d.vs ∧ W.cell? ⟨d.D, 2, none⟩ = some d.vo ∧ W.cell? ⟨d.D, 3, none⟩ = some (fzV d.fz) ∧
    W.frozen? ⟨d.D, 0, none⟩ = false ∧ W.frozen? ⟨d.D, 1, none⟩ = false ∧ W.frozen? ⟨d.D, 2, none⟩ = false ∧ W.frozen? ⟨d.D, 3, none⟩ = false := by
  refine ⟨(cell_of_row W _ _ _ _ _ h.obj).trans rfl, (cell_of_row W _ _ _ _ _ h.obj).trans rfl, (cell_of_row W _ _ _ _ _ h.obj).trans rfl, (cell_of_row W _ _ _ _ _ h.obj).trans rfl, ?_, ?_, ?_, ?_⟩ <;> exact frozen_of_row W _ _ _ _ h.obj
end Go.Proofs.Ytnhgakmnkpjpdaa

/- A drive: the calls that only look: none, has, Read, Pending, Size. -/
set_option linter.unusedVariables false
set_option linter.unusedSimpArgs false
namespace Go.Proofs.Ytnhgakmnkpjpdaa
open Go Go.RowKit Go.Proofs.YtnhgakmnkpjpdaaW.PrintWords Go.Proofs.YtnhgakmnkpjpdaaW.PrintLast Go.Proofs.YtnhgakmnkpjpdaaW.PrintMore
attribute [local go_sem] Oper.semAt_some max2_int min2_int max_two min_two max_three min_three max_four min_four
theorem none_calls {base : Nat} {w : World} {d : DV} {s : DS} (h : Drv base w d s) :
    Calls Try.prog 52 #[ptr d.D] w fun e w' => e = .returned (.bool false) ∧ w' = w := by
  obtain ⟨g, cap, cur, hv, hb, hg, hc, hm, hsz, hxs⟩ := ownsRow_slice h.now (by have := h.len; omega)
  obtain ⟨h0, -, -, -, f0, -, -, -⟩ := h.cells
  rw [hv] at h0
  have hn : ((s.now.length : Int) == 0) = false := by have := h.len.2.1; rw [beq_eq_false_iff_ne]; omega
  unfold ptr
  have HL := hid h.len
  clear h hv hg hsz hxs
  go_enter Try.func52, Try.ntmps52
  go_wp2
  go_ret
  exact ⟨rfl, rfl⟩
def hasE (N : Nat) (n : Int) : Int := if 0 ≤ n ∧ n < (N : Int) then 0 else 2
theorem has_calls {base : Nat} {w : World} {d : DV} {s : DS} (h : Drv base w d s) (n : Int) :
    Calls Try.prog 28 #[ptr d.D, .int .i64 n] w fun e w' => e = .returned (.int .i64 (hasE s.now.length n)) ∧ w' = w := by
  obtain ⟨g, cap, cur, hv, hb, hg, hc, hm, hsz, hxs⟩ := ownsRow_slice h.now (by have := h.len; omega)
  obtain ⟨h0, -, -, -, f0, -, -, -⟩ := h.cells
  have HD := hid h
  rw [hv] at h0
  unfold hasE ptr
  clear h hv hg hsz hxs hc hm hb
  by_cases c1 : n < 0
  · have d1 : decide (n < 0) = true := decide_eq_true c1
    rw [if_neg (by omega)]
    go_enter Try.func28, Try.ntmps28
    go_wp2_with (go_at_call 52; refine (none_calls HD.out).mono ?_; rintro e w' ⟨rfl, rfl⟩)
    go_ret
    exact ⟨rfl, rfl⟩
  · have d1 : decide (n < 0) = false := decide_eq_false c1
    by_cases c2 : n < (s.now.length : Int)
    · have d2 : decide ((s.now.length : Int) ≤ n) = false := decide_eq_false (by omega)
      rw [if_pos (by omega)]
      clear c2
      go_enter Try.func28, Try.ntmps28
      go_wp2_with (go_at_call 52; refine (none_calls HD.out).mono ?_; rintro e w' ⟨rfl, rfl⟩)
      go_ret
      exact ⟨rfl, rfl⟩
    · have d2 : decide ((s.now.length : Int) ≤ n) = true := decide_eq_true (by omega)
      rw [if_neg (by omega)]
      clear c2
      go_enter Try.func28, Try.ntmps28
      go_wp2_with (go_at_call 52; refine (none_calls HD.out).mono ?_; rintro e w' ⟨rfl, rfl⟩)
      go_ret
      exact ⟨rfl, rfl⟩
theorem rowC_at (l : List (List UInt8)) (h : ∀ x ∈ l, x.length = 64) (i j : Nat) (hi : i < l.length) (hj : j < 64) : (rowC l)[i * 64 + j]? = some (cb ((l.getD i []).getD j 0)) := by
  have hx : l[i]? = some (l.getD i []) := by rw [List.getD_eq_getElem?_getD, List.getElem?_eq_getElem hi]; rfl
  have hl : (l.getD i []).length = 64 := h _ (List.mem_of_getElem? hx)
  rw [rowC, flat_at (fun s => s.map cb) 64 l (fun x hx => by rw [List.length_map]; exact h x hx) i j _ hx hj, List.getElem?_map]
  generalize l.getD i [] = L at hl
  rw [List.getD_eq_getElem?_getD, List.getElem?_eq_getElem (by omega)]
  rfl
theorem own_at {cur : Array Value} {xs : List Value} {n : Nat} (h : cur.toList.take n = xs) (hn : n ≤ cur.size) (j : Nat) (hj : j < n) : cur[j]? = xs[j]? := by
  rw [← h, List.getElem?_take, if_pos hj, Array.getElem?_toList]
def readS (s : DS) (n : Int) : ByteArray := if 0 ≤ n ∧ n < (s.now.length : Int) then B (s.now.getD n.toNat []) else ⟨#[]⟩
theorem Read_calls {base : Nat} {w : World} {d : DV} {s : DS} (h : Drv base w d s) (n : Int) :
    Calls Try.prog 10 #[ptr d.D, .int .i64 n] w fun e w' => e = .returned (.tuple #[.string (readS s n), .int .i64 (hasE s.now.length n)]) ∧ w' = w := by
  obtain ⟨g, cap, cur, hv, hb, hg, hc, hm, hsz, hxs⟩ := ownsRow_slice h.now (by have := h.len; omega)
  obtain ⟨h0, -, -, -, f0, -, -, -⟩ := h.cells
  have HD := hid h
  rw [hv] at h0
  unfold readS
  by_cases c : 0 ≤ n ∧ n < (s.now.length : Int)
  · have he : hasE s.now.length n = 0 := by unfold hasE; rw [if_pos c]
    rw [if_pos c, he]
    have HE := hid he
    have hsec := h.secN (s.now.getD n.toNat []) (by rw [List.getD_eq_getElem?_getD, List.getElem?_eq_getElem (by omega)]; exact List.getElem_mem _)
    have hcell : ∀ j, j < (s.now.getD n.toNat []).length → cur[n.toNat * 64 + j]? = some (cb ((s.now.getD n.toNat []).getD j 0)) := by
      intro j hj
      rw [own_at hxs (by rw [hsz]; omega) _ (by omega), rowC_at _ h.secN _ _ (by omega) (by omega)]
    generalize s.now.getD n.toNat [] = L at hsec hcell
    have HC := hid hcell
    have HG := hid hg
    have HS := hid hsec
    have q1 : (0 ≤ n) = True := eq_true c.1
    have q2 : (n < (s.now.length : Int)) = True := eq_true c.2
    unfold ptr
    clear h hv hg hsz hxs hc hm hb he c hcell hsec
    go_enter Try.func10, Try.ntmps10
    go_wp2_with (first
      | (go_at_call 28; refine (has_calls HD.out n).mono ?_; rintro e w' ⟨rfl, rfl⟩; rw [HE.out])
      | (refine wpList_convert_back rfl 73 9 (.tmp 19) rfl 5 Try.underlying73 Try.underlying5 Try.underlying9 g (n.toNat * 64) 64 L 64 HS.out.symm rfl 70 cur (0, 0) HG.out HC.out ?_))
    go_ret2
    exact ⟨rfl, rfl⟩
  · have he : hasE s.now.length n = 2 := by unfold hasE; rw [if_neg c]
    rw [if_neg c, he]
    have HE := hid he
    unfold ptr
    clear h hv hg hsz hxs hc hm hb he c
    go_enter Try.func10, Try.ntmps10
    go_wp2_with (go_at_call 28; refine (has_calls HD.out n).mono ?_; rintro e w' ⟨rfl, rfl⟩; rw [HE.out])
    go_ret2
    exact ⟨rfl, rfl⟩
theorem own_cases {w : World} {base : Nat} {e : TypeId} {size : Nat} {v : Value} {n : Nat} {xs : List Value} (h : w.ownsRow base e size v n xs) : ∃ A c, v = .slice A n c := by
  rcases h.2 with ⟨rfl, rfl⟩ | ⟨g, cap, cur, rfl, _⟩
  · exact ⟨_, _, rfl⟩
  · exact ⟨_, _, rfl⟩
theorem Size_calls {base : Nat} {w : World} {d : DV} {s : DS} (h : Drv base w d s) :
    Calls Try.prog 32 #[ptr d.D] w fun e w' => e = .returned (.int .i64 s.now.length) ∧ w' = w := by
  obtain ⟨A, c, hv⟩ := own_cases h.now
  obtain ⟨h0, -, -, -, f0, -, -, -⟩ := h.cells
  rw [hv] at h0
  unfold ptr
  clear h hv
  go_enter Try.func32, Try.ntmps32
  go_wp2
  go_ret
  exact ⟨rfl, rfl⟩
end Go.Proofs.Ytnhgakmnkpjpdaa

/- A drive: Fuse. -/
set_option linter.unusedVariables false
set_option linter.unusedSimpArgs false
namespace Go.Proofs.Ytnhgakmnkpjpdaa
open Go Go.RowKit Go.Proofs.YtnhgakmnkpjpdaaW.PrintWords Go.Proofs.YtnhgakmnkpjpdaaW.PrintLast Go.Proofs.YtnhgakmnkpjpdaaW.PrintMore
attribute [local go_sem] Oper.semAt_some max2_int min2_int max_two min_two max_three min_three max_four min_four
theorem setCell_at {w : World} {b : Nat} {cs : Array Value} {ty : TypeId} (h : w.heap[b]? = some (.cells cs ty (0, 0))) (o : Nat) (v : Value) :
    (w.setCell ⟨b, o, none⟩ v).heap[b]? = some (.cells (cs.setIfInBounds o v) ty (0, 0)) := heap_setCell_same w b o cs ty v h
theorem nodup_tail {d : DV} (h : d.fp.Nodup) (z : Option Nat) (hz : ∀ f, f ∈ z.toList → f ∉ d.fp) : ({ d with fz := z } : DV).fp.Nodup := by
  unfold DV.fp at *
  have e : d.D :: (d.vn.ownBlock.toList ++ (d.vs.ownBlock.toList ++ (d.vo.ownBlock.toList ++ d.fz.toList))) = (d.D :: (d.vn.ownBlock.toList ++ (d.vs.ownBlock.toList ++ d.vo.ownBlock.toList))) ++ d.fz.toList := by simp
  have e2 : d.D :: (d.vn.ownBlock.toList ++ (d.vs.ownBlock.toList ++ (d.vo.ownBlock.toList ++ z.toList))) = (d.D :: (d.vn.ownBlock.toList ++ (d.vs.ownBlock.toList ++ d.vo.ownBlock.toList))) ++ z.toList := by simp
  show (d.D :: (d.vn.ownBlock.toList ++ (d.vs.ownBlock.toList ++ (d.vo.ownBlock.toList ++ z.toList)))).Nodup
  rw [e2]
  rw [e] at h hz
  obtain ⟨h1, -, -⟩ := List.nodup_append.1 h
  refine List.nodup_append.2 ⟨h1, by cases z <;> simp, ?_⟩
  intro a ha b hb e
  exact hz b hb (List.mem_append_left _ (e ▸ ha))
/-- The fuse is another one. -/
theorem Drv.fused {base : Nat} {w W : World} {d : DV} {s : DS} (h : Drv base w d s) (ho : Only [d.D] w W) (z k : Option Nat)
    (hobj : W.heap[d.D]? = some (.cells #[d.vn, d.vs, d.vo, fzV z] 66 (0, 0))) (hz : FuseAt base W z k) (hn : ∀ f, f ∈ z.toList → w.heap.size ≤ f) : Drv base W { d with fz := z } { s with fuse := k } := by
  have hnd := List.nodup_cons.1 h.nodup
  have hne : ∀ k, k ∈ d.fp.tail → k ∉ [d.D] := fun k hk e => hnd.1 (by rw [List.mem_singleton] at e; subst e; exact hk)
  refine ⟨h.hD, hobj, ownsRow_kept h.now ho (fun k e => hne k ?_), ownsRow_kept h.sure ho (fun k e => hne k ?_), ownsRow_kept h.opn ho (fun k e => hne k ?_), hz, nodup_tail h.nodup z (fun f hf e => ?_), h.len, h.secN, h.secS, h.wr⟩
  · simp only [DV.fp, List.tail_cons, List.mem_append]; exact .inl e
  · simp only [DV.fp, List.tail_cons, List.mem_append]; exact .inr (.inl e)
  · simp only [DV.fp, List.tail_cons, List.mem_append]; exact .inr (.inr (.inl e))
  · have := (h.fp_lt f e).2
    have := hn f hf
    omega
def fuseS (s : DS) (n : Int) : DS := { s with fuse := if 0 ≤ n then some n.toNat else none }
theorem Fuse_calls {base : Nat} {w : World} {d : DV} {s : DS} (h : Drv base w d s) (hb : base ≤ w.heap.size) (n : Int) (hn : n < 9223372036854775808) :
    Calls Try.prog 24 #[ptr d.D, .int .i64 n] w fun e w' => e = .returned (.tuple #[]) ∧ ∃ z, Drv base w' { d with fz := z } (fuseS s n) ∧ Only [d.D] w w' ∧ ∀ f, f ∈ z.toList → w.heap.size ≤ f := by
  have HD := hid h
  have HN := hid hn
  have HB := hid hb
  have HH := hid h.obj
  have hlt : d.D < w.heap.size := (h.fp_lt d.D (by simp [DV.fp])).2
  have HLT := hid hlt
  unfold ptr
  clear h hn hb hlt
  have hA : (w.alloc (.cells #[.int .i64 n] 3)).heap[d.D]? = some (.cells #[d.vn, d.vs, d.vo, fzV d.fz] 66 (0, 0)) := (heap_alloc_old w _ HLT.out).trans HH.out
  have HA := hid hA
  clear hA
  by_cases c : 0 ≤ n
  · have c1 : decide (n < 0) = false := decide_eq_false (by omega)
    go_enter Try.func24, Try.ntmps24
    go_wp2_with (go_at_call 52; refine (none_calls (HD.out.kept (Only.alloc [] _ _) (by simp))).mono ?_; rintro e w' ⟨rfl, rfl⟩; obtain ⟨-, -, -, h3, -, -, -, f3⟩ := (HD.out.kept (Only.alloc [] w (.cells #[.int .i64 n] 3)) (by simp)).cells)
    go_end0
    have e1 := setCell_at (setCell_at HA.out 3 (.pointer none)) 3 (fzV (some w.heap.size))
    have ho : Only [d.D] w (((w.alloc (.cells #[.int .i64 n] 3)).setCell ⟨d.D, 3, none⟩ (.pointer none)).setCell ⟨d.D, 3, none⟩ (fzV (some w.heap.size))) :=
      ((Only.alloc [d.D] w _).trans (Only.setCell (fp := [d.D]) _ _ _ (by simp)) (by simp)).trans (Only.setCell (fp := [d.D]) _ _ _ (by simp)) (by simp)
    have ef : fuseS s n = { s with fuse := some n.toNat } := by unfold fuseS; rw [if_pos c]
    refine ⟨rfl, some w.heap.size, ?_, ho, by simp⟩
    rw [ef]
    refine HD.out.fused ho (some w.heap.size) (some n.toNat) (e1.trans rfl) ⟨HB.out, by have := HN.out; omega, ?_⟩ (by simp)
    have hne : w.heap.size ≠ d.D := by have := HLT.out; omega
    rw [heap_setCell_other _ _ _ _ hne, heap_setCell_other _ _ _ _ hne, heap_alloc_new, Int.toNat_of_nonneg c]
  · have c1 : decide (n < 0) = true := decide_eq_true (by omega)
    go_enter Try.func24, Try.ntmps24
    go_wp2_with (go_at_call 52; refine (none_calls (HD.out.kept (Only.alloc [] _ _) (by simp))).mono ?_; rintro e w' ⟨rfl, rfl⟩; obtain ⟨-, -, -, h3, -, -, -, f3⟩ := (HD.out.kept (Only.alloc [] w (.cells #[.int .i64 n] 3)) (by simp)).cells)
    go_end0
    have e1 := setCell_at HA.out 3 (fzV none)
    have ho : Only [d.D] w ((w.alloc (.cells #[.int .i64 n] 3)).setCell ⟨d.D, 3, none⟩ (fzV none)) :=
      (Only.alloc [d.D] w _).trans (Only.setCell (fp := [d.D]) _ _ _ (by simp)) (by simp)
    have ef : fuseS s n = { s with fuse := none } := by unfold fuseS; rw [if_neg (by omega)]
    refine ⟨rfl, none, ?_, ho, by simp⟩
    rw [ef]
    exact HD.out.fused ho none none (e1.trans rfl) trivial (by simp)
end Go.Proofs.Ytnhgakmnkpjpdaa

/- A drive: Sync. -/
set_option maxRecDepth 100000
set_option linter.unusedVariables false
set_option linter.unusedSimpArgs false
namespace Go.Proofs.Ytnhgakmnkpjpdaa
open Go Go.RowKit Go.Proofs.YtnhgakmnkpjpdaaW.PrintWords Go.Proofs.YtnhgakmnkpjpdaaW.PrintLast Go.Proofs.YtnhgakmnkpjpdaaW.PrintMore
attribute [local go_sem] Oper.semAt_some max2_int min2_int max_two min_two max_three min_three max_four min_four
section
variable {P : Program} {w : World} {ops : Array Oper} {rest : List Oper} {o : Oper} {a : Act} {Q : Exit → Act → World → Prop}
/-- 'copy' of elements of several cells. -/
theorem wpList_copy_rows (hgd : o.guard = none) (x y : Operand) (t t2 : TypeId) (ho : o.op = .call { callee := .builtin .copy, args := #[x, y], argTypes := #[t, t2] })
    (e : TypeId) (ht : P.underlying t = some (.slice e)) (i : TypeInfo) (hi : P.info? e = some i) (size : Nat) (hsz : i.size = size)
    (g off n c : Nat) (hx : a.eval x = .slice (some ⟨g, off, none⟩) n c) (ad : Addr) (m c2 : Nat) (hy : a.eval y = .slice (some ad) m c2)
    (te : TypeId) (cs : Array Value) (hg : w.heap[g]? = some (.cells cs te (0, 0))) (new : List Value) (hl : new.length = Nat.min m n * size) (hsrc : ∀ j v, new[j]? = some v → w.cell? (ad.add j) = some v)
    (hb : off + new.length ≤ cs.size) (h1 : ∀ v ∈ new, v.oneCell' = true)
    (h : ∀ w', Upd w w' g (.cells (cs.toList.take off ++ new ++ cs.toList.drop (off + new.length)).toArray te (0, 0)) → wpList P ops Q rest (a.put o.dst (goInt (Nat.min m n))) w') : wpList P ops Q (o :: rest) a w :=
  wpList_plain hgd fun K hK => by
    have hld := run_loadCells_list (P := P) w ad new hsrc
    have hst := run_storeCells_at P g off te new 0 cs w hg (by simpa using hb) h1
    rw [hl] at hld
    have hrun : (Builtin.copy_ #[t, t2] o.type #[.slice (some ⟨g, off, none⟩) n c, .slice (some ad) m c2]).run P w = .ok (goInt (Nat.min m n)) (w.setRow g (cs.toList.take off ++ new ++ cs.toList.drop (off + new.length)).toArray) := by
      simp only [Nat.add_zero] at hst
      simp [Builtin.copy_, run_underlying ht, Builtin.lenOf, Builtin.firstCells, sizeOf, typeInfo, hi, hsz, hld, hst]
    unfold Oper.wp execOp
    simp only [ho, resolve, invoke, builtin, Sem.run_bind, Sem.run_pure, Result.andThen_ok, List.map_toArray, List.map_cons, List.map_nil, hx, hy, hrun]
    exact hK _ _ (h _ (Upd.setRow w g _ cs te (0, 0) hg))
end
theorem Drv.ne {base : Nat} {w : World} {d : DV} {s : DS} (h : Drv base w d s) {gn cn gs cs : Nat} (hvn : d.vn = .slice (some ⟨gn, 0, none⟩) s.now.length cn) (hvs : d.vs = .slice (some ⟨gs, 0, none⟩) s.sure.length cs) :
    d.D ≠ gn ∧ d.D ≠ gs ∧ gn ≠ gs ∧ (∀ k, k ∈ d.vo.ownBlock.toList → k ≠ d.D ∧ k ≠ gn ∧ k ≠ gs) ∧ (∀ k, k ∈ d.fz.toList → k ≠ d.D ∧ k ≠ gn ∧ k ≠ gs ∧ k ∉ d.vo.ownBlock.toList) ∧ gn ∈ d.fp ∧ gs ∈ d.fp ∧ d.D ∈ d.fp := by
  have hnd := h.nodup
  have e : d.fp = d.D :: gn :: gs :: (d.vo.ownBlock.toList ++ d.fz.toList) := by unfold DV.fp; rw [hvn, hvs]; rfl
  rw [e] at hnd ⊢
  obtain ⟨a1, a2⟩ := List.nodup_cons.1 hnd
  obtain ⟨b1, b2⟩ := List.nodup_cons.1 a2
  obtain ⟨c1, c2⟩ := List.nodup_cons.1 b2
  obtain ⟨-, -, d3⟩ := List.nodup_append.1 c2
  simp only [List.mem_cons, List.mem_append, not_or] at a1 b1 c1
  refine ⟨a1.1, a1.2.1, b1.1, fun k hk => ⟨fun e => a1.2.2.1 (e ▸ hk), fun e => b1.2.1 (e ▸ hk), fun e => c1.1 (e ▸ hk)⟩,
    fun k hk => ⟨fun e => a1.2.2.2 (e ▸ hk), fun e => b1.2.2 (e ▸ hk), fun e => c1.2 (e ▸ hk), fun e => d3 k e k hk rfl⟩, by simp, by simp, by simp⟩
theorem rowC_length (l : List (List UInt8)) (h : ∀ x ∈ l, x.length = 64) : (rowC l).length = l.length * 64 := flat_length _ 64 l (fun x hx => by rw [List.length_map]; exact h x hx)
theorem rowC_one (l : List (List UInt8)) : ∀ v ∈ rowC l, v.oneCell' = true := by
  intro v hv
  obtain ⟨x, _, hx⟩ := List.mem_flatMap.1 hv
  exact cb_one x v hx
theorem src_at {w : World} {g off : Nat} {cur : Array Value} {ty : TypeId} {fr : Nat × Nat} (hg : w.heap[g]? = some (.cells cur ty fr)) {xs : List Value} {n : Nat} (h : cur.toList.take n = xs) (hn : n ≤ cur.size) :
    ∀ j v, xs[j]? = some v → w.cell? ((⟨g, 0, none⟩ : Addr).add j) = some v := by
  intro j v hj
  have hlt : j < n := by
    have := (List.getElem?_eq_some_iff.1 hj).1
    rw [← h, List.length_take] at this
    omega
  have hadd : (⟨g, 0, none⟩ : Addr).add j = ⟨g, j, none⟩ := by unfold Addr.add; split <;> simp_all
  rw [hadd, cell_of_row w g j cur ty fr hg, own_at h hn j hlt, hj]
def syncS (s : DS) : DS := { s with sure := s.now, opn := [] }
theorem nodup_vo {d : DV} (h : d.fp.Nodup) : ({ d with vo := .slice none 0 0 } : DV).fp.Nodup ∧ ∀ k, k ∈ ({ d with vo := .slice none 0 0 } : DV).fp → k ∈ d.fp := by
  have e : ({ d with vo := .slice none 0 0 } : DV).fp = d.D :: (d.vn.ownBlock.toList ++ (d.vs.ownBlock.toList ++ d.fz.toList)) := rfl
  rw [e]
  refine ⟨?_, ?_⟩
  · refine List.Nodup.sublist ?_ h
    unfold DV.fp
    exact List.Sublist.cons_cons _ (List.Sublist.append_left (List.Sublist.append_left (List.sublist_append_right _ _) _) _)
  · intro k hk
    unfold DV.fp
    simp only [List.mem_cons, List.mem_append] at hk ⊢
    rcases hk with h | h | h | h <;> simp [h]
/-- All is sure. -/
theorem Drv.synced {base : Nat} {w w3 : World} {d : DV} {s : DS} (h : Drv base w d s) {gn cn gs cs : Nat} {curs : Array Value} (hvn : d.vn = .slice (some ⟨gn, 0, none⟩) s.now.length cn) (hvs : d.vs = .slice (some ⟨gs, 0, none⟩) s.sure.length cs)
    (hgs : w.heap[gs]? = some (.cells curs 70 (0, 0))) (hbs : base ≤ gs) (hcs : s.sure.length ≤ cs) (hms : cs ≤ maxLen) (hsz : curs.size = cs * 64)
    (u : Upd w w3 gs (.cells (curs.toList.take 0 ++ rowC s.now ++ curs.toList.drop (0 + (rowC s.now).length)).toArray 70 (0, 0))) :
    Drv base (w3.setCell ⟨d.D, 2, none⟩ (.slice none 0 0)) { d with vo := .slice none 0 0 } (syncS s) ∧ Only d.fp w (w3.setCell ⟨d.D, 2, none⟩ (.slice none 0 0)) := by
  obtain ⟨n1, n2, n3, n4, n5, m1, m2, m3⟩ := h.ne hvn hvs
  have hlen := h.len
  have hrl := rowC_length s.now h.secN
  have ho1 : Only [gs] w w3 := .of_upd u (by simp)
  have ho2 : Only [gs, d.D] w (w3.setCell ⟨d.D, 2, none⟩ (.slice none 0 0)) := (ho1.mono (by simp)).trans (Only.setCell (fp := [d.D]) _ _ _ (by simp)) (by simp)
  have hobj : w3.heap[d.D]? = some (.cells #[d.vn, d.vs, d.vo, fzV d.fz] 66 (0, 0)) := (u.other _ n2).trans h.obj
  have hgs3 : (w3.setCell ⟨d.D, 2, none⟩ (.slice none 0 0)).heap[gs]? = some (.cells (rowC s.now ++ curs.toList.drop (rowC s.now).length).toArray 70 (0, 0)) := by
    rw [heap_setCell_other _ _ _ _ (Ne.symm n2), u.at_]; simp
  have hlist : ∀ k, k ∈ [gs, d.D] → k ∈ d.fp := by
    intro k hk
    simp only [List.mem_cons, List.not_mem_nil, or_false] at hk
    rcases hk with rfl | rfl
    · exact m2
    · exact m3
  refine ⟨⟨h.hD, (setCell_at hobj 2 _).trans rfl, ?_, ?_, World.ownsRow_nil _ _ _ _, ?_, (nodup_vo h.nodup).1, ?_, h.secN, h.secN, ?_⟩, ho2.mono hlist⟩
  · refine ownsRow_kept h.now ho2 (fun k hk e => ?_)
    rw [hvn] at hk
    have : k = gn := by simpa [Value.ownBlock, eq_comm] using hk
    subst this
    simp only [List.mem_cons, List.not_mem_nil, or_false] at e
    rcases e with e | e
    · exact n3 e
    · exact n1 e.symm
  · show (w3.setCell ⟨d.D, 2, none⟩ (.slice none 0 0)).ownsRow base 70 64 d.vs s.now.length (rowC s.now)
    refine ⟨hrl, .inr ⟨gs, cs, _, by rw [hvs, hlen.1], hbs, hgs3, by omega, hms, ?_, ?_⟩⟩
    · have e2 : ((rowC s.now ++ curs.toList.drop (rowC s.now).length).toArray).size = (rowC s.now).length + (curs.size - (rowC s.now).length) := by simp
      have : s.now.length * 64 ≤ cs * 64 := Nat.mul_le_mul_right _ (by omega)
      rw [e2, hsz, hrl]
      omega
    · rw [List.toList_toArray, ← hrl, List.take_left]
  · exact h.fuse.kept ho2 (fun k hk e => by
      have := n5 k hk
      simp only [List.mem_cons, List.not_mem_nil, or_false] at e
      rcases e with e | e
      · exact this.2.2.1 e
      · exact this.1 e)
  · exact ⟨rfl, hlen.2⟩
  · intro x hx; cases hx
theorem Sync1_calls {base : Nat} {w : World} {d : DV} {s : DS} (h : Drv base w d s) (b : Nat) (hbx : w.heap[b]? = some (.cells #[ptr d.D] 23 (0, 0))) (hbf : b ∉ d.fp) :
    Calls Try.prog 86 #[ptr b] w fun e w' => e = .returned (.tuple #[]) ∧ Drv base w' { d with vo := .slice none 0 0 } (syncS s) ∧ Only d.fp w w' := by
  obtain ⟨gn, capn, curn, hvn, hbn, hgn, hcn, hmn, hszn, hxn⟩ := ownsRow_slice h.now (by have := h.len; omega)
  obtain ⟨gs, caps, curs, hvs, hbs, hgs, hcs, hms, hszs, hxs⟩ := ownsRow_slice h.sure (by have := h.len; omega)
  obtain ⟨h0, h1, h2, -, f0, f1, f2, -⟩ := h.cells
  have HD := hid h
  have HSY := hid (fun w0 (hw : Drv base w0 d s) (hh : w0.heap[gs]? = some (.cells curs 70 (0, 0))) w3 u => hw.synced (w3 := w3) hvn hvs hh hbs hcs hms hszs u)
  have hb0 : w.cell? ⟨b, 0, none⟩ = some (.pointer (some ⟨d.D, 0, none⟩)) := cell_of_row w _ _ _ _ _ hbx
  have hrl := rowC_length s.now h.secN
  have HG := hid hgs
  have HL := hid (show (rowC s.now).length = Nat.min s.now.length s.sure.length * 64 by rw [h.len.1, hrl]; congr 1; exact (Nat.min_self _).symm)
  have HF := hid (show 0 + (rowC s.now).length ≤ curs.size by have := h.len; rw [hrl, hszs]; have : s.now.length * 64 ≤ caps * 64 := Nat.mul_le_mul_right _ (by omega); omega)
  have HSRC := hid (src_at (w := w.drew) (off := 0) hgn hxn (by rw [hszn]; exact Nat.mul_le_mul_right _ hcn))
  obtain ⟨ti, hti, htz, hts, -⟩ := info_three info65
  have HB := hid hbx
  have hne := (h.ne hvn hvs).2.1
  have HNE := hid hne
  have hbg : b ≠ gs := fun e => hbf (e ▸ (h.ne hvn hvs).2.2.2.2.2.2.1)
  have HBG := hid hbg
  have HO := hid h.obj
  rw [hvn] at h0
  rw [hvs] at h1
  unfold ptr
  clear hrl
  clear h hbx hvn hbn hgn hcn hmn hszn hxn hvs hbs hgs hcs hms hszs hxs hne hbg hbf
  go_enter Try.func86, Try.ntmps86
  go_wp2
  go_still_tail 8, (by kernel_rfl)
  change wpList _ _ _ _ _ w.drew
  refine wpList_copy_rows rfl (.tmp 4) (.tmp 8) 62 62 rfl 70 Try.underlying62 ti hti 64 hts gs 0 s.sure.length caps rfl ⟨gn, 0, none⟩ s.now.length capn rfl 70 curs HG.out (rowC s.now) HL.out HSRC.out HF.out (rowC_one _) ?_
  intro w3 u
  have HU := hid (HSY.out w.drew (HD.out.kept (Only.drew [] w) (by simp)) HG.out w3 u)
  have hb3 : w3.cell? ⟨b, 0, none⟩ = some (.pointer (some ⟨d.D, 0, none⟩)) := cell_of_row w3 _ _ _ _ _ ((u.other _ HBG.out).trans HB.out)
  have hD3 := (u.other _ HNE.out).trans HO.out
  have h23 : w3.cell? ⟨d.D, 2, none⟩ = some d.vo := (cell_of_row w3 _ _ _ _ _ hD3).trans rfl
  have f23 : w3.frozen? ⟨d.D, 2, none⟩ = false := frozen_of_row w3 _ _ _ _ hD3
  clear hD3 u h0 h1 h2 f0 f1 f2 hb0
  go_wp2
  go_end0
  exact ⟨rfl, HU.out.1, (Only.drew d.fp w).trans HU.out.2 (fun _ h _ => h)⟩
end Go.Proofs.Ytnhgakmnkpjpdaa

/- A drive: the fuse; Sync whole. -/
set_option maxRecDepth 100000
set_option linter.unusedVariables false
set_option linter.unusedSimpArgs false
namespace Go.Proofs.Ytnhgakmnkpjpdaa
open Go Go.RowKit Go.Proofs.YtnhgakmnkpjpdaaW.PrintWords Go.Proofs.YtnhgakmnkpjpdaaW.PrintLast Go.Proofs.YtnhgakmnkpjpdaaW.PrintMore
attribute [local go_sem] Oper.semAt_some max2_int min2_int max_two min_two max_three min_three max_four min_four
def decF : Option Nat → Option Nat
  | none => none
  | some k => some (k - 1)
theorem Drv.burnt {base : Nat} {w : World} {d : DV} {s : DS} (h : Drv base w d s) {f k : Nat} (hz : d.fz = some f) (hk : s.fuse = some k) (hp : 0 < k) :
    w.cell? ⟨f, 0, none⟩ = some (.int .i64 (k : Int)) ∧ w.frozen? ⟨f, 0, none⟩ = false ∧ k < 9223372036854775808 ∧
    Drv base (w.setCell ⟨f, 0, none⟩ (.int .i64 ((k : Int) - 1))) d { s with fuse := decF s.fuse } ∧ Only d.fp w (w.setCell ⟨f, 0, none⟩ (.int .i64 ((k : Int) - 1))) := by
  have hf := h.fuse
  rw [hz, hk] at hf
  obtain ⟨hb, hlt, hcell⟩ := hf
  obtain ⟨gn, capn, curn, hvn, -⟩ := ownsRow_slice h.now (by have := h.len; omega)
  obtain ⟨gs, caps, curs, hvs, -⟩ := ownsRow_slice h.sure (by have := h.len; omega)
  obtain ⟨n1, n2, n3, n4, n5, m1, m2, m3⟩ := h.ne hvn hvs
  obtain ⟨p1, p2, p3, p4⟩ := n5 f (by rw [hz]; simp)
  have ho : Only [f] w (w.setCell ⟨f, 0, none⟩ (.int .i64 ((k : Int) - 1))) := Only.setCell _ _ _ (by simp)
  have hfp : f ∈ d.fp := by unfold DV.fp; rw [hz]; simp
  refine ⟨(cell_of_row w _ _ _ _ _ hcell).trans rfl, frozen_of_row w _ _ _ _ hcell, hlt, ⟨h.hD, ?_, ?_, ?_, ?_, ?_, h.nodup, h.len, h.secN, h.secS, h.wr⟩, ho.mono (by simpa using hfp)⟩
  · rw [heap_setCell_other _ _ _ _ (Ne.symm p1)]; exact h.obj
  · exact ownsRow_kept h.now ho (fun q hq e => by rw [hvn] at hq; simp [Value.ownBlock] at hq e; omega)
  · exact ownsRow_kept h.sure ho (fun q hq e => by rw [hvs] at hq; simp [Value.ownBlock] at hq e; omega)
  · exact ownsRow_kept h.opn ho (fun q hq e => by rw [List.mem_singleton] at e; exact p4 (e ▸ hq))
  · rw [hz, hk]
    refine ⟨hb, by omega, (setCell_at hcell 0 _).trans ?_⟩
    have : ((k - 1 : Nat) : Int) = (k : Int) - 1 := by omega
    show some (Obj.cells #[Value.int .i64 ((k : Int) - 1)] 3 (0, 0)) = some (Obj.cells #[Value.int .i64 ((k - 1 : Nat) : Int)] 3 (0, 0))
    rw [this]
theorem fuse_cases {base : Nat} {W : World} {z k : Option Nat} (h : FuseAt base W z k) : (z = none ∧ k = none) ∨ ∃ f n, z = some f ∧ k = some n ∧ W.heap[f]? = some (.cells #[.int .i64 (n : Int)] 3 (0, 0)) := by
  cases z <;> cases k
  · exact .inl ⟨rfl, rfl⟩
  · exact h.elim
  · exact h.elim
  · exact .inr ⟨_, _, rfl, rfl, h.2.2⟩
def syncR (s : DS) : DS × Int := if s.fuse = some 0 then (s, 30) else (syncS { s with fuse := decF s.fuse }, 0)
set_option maxRecDepth 100000 in
theorem on_sync {base : Nat} {w : World} {d : DV} {s : DS} (h : Drv base w d s) (b : Nat) (hbx : w.heap[b]? = some (.cells #[ptr d.D] 23 (0, 0))) (hbf : b ∉ d.fp) :
    Calls Try.prog 29 #[ptr d.D, .func (.func 86) #[] #[ptr b]] w fun e w' => e = .returned (.int .i64 (syncR s).2) ∧ (∃ vo', Drv base w' { d with vo := vo' } (syncR s).1 ∧ ∀ k, k ∈ vo'.ownBlock.toList → k ∈ d.vo.ownBlock.toList) ∧ Only d.fp w w' := by
  obtain ⟨-, -, -, h3, -, -, -, f3⟩ := h.cells
  have HD := hid h
  have HBX := hid hbx
  have HBF := hid hbf
  unfold ptr
  rcases fuse_cases h.fuse with ⟨hz, hk⟩ | ⟨f, n, hz, hk, hcell⟩
  · have hR : syncR s = (syncS { s with fuse := decF s.fuse }, 0) := by unfold syncR; rw [if_neg (by rw [hk]; simp)]
    have hs : ({ s with fuse := decF s.fuse } : DS) = s := by rw [hk, decF, ← hk]
    rw [hs] at hR
    rw [hR]
    rw [hz] at h3
    clear h hbx hbf hz hk hR hs
    unfold fzV at h3
    go_enter Try.func29, Try.ntmps29
    go_wp2_with (go_at_call 86; refine (Sync1_calls HD.out b HBX.out HBF.out).mono ?_; rintro e w' ⟨rfl, hd, ho⟩; have HD2 := hid hd; have HO := hid ho; clear hd ho)
    go_ret
    exact ⟨rfl, ⟨_, HD2.out, by simp [Value.ownBlock]⟩, HO.out⟩
  · have hcf : w.cell? ⟨f, 0, none⟩ = some (.int .i64 (n : Int)) := (cell_of_row w _ _ _ _ _ hcell).trans rfl
    rw [hz] at h3
    unfold fzV at h3
    by_cases h0 : n = 0
    · subst h0
      have hR : syncR s = (s, 30) := by unfold syncR; rw [if_pos hk]
      rw [hR]
      clear h hbx hbf hz hk hR hcell
      go_enter Try.func29, Try.ntmps29
      go_wp2
      go_ret
      exact ⟨rfl, ⟨d.vo, HD.out, fun k hk => hk⟩, Only.refl _ _⟩
    · obtain ⟨-, ff, hlt, hB, hO⟩ := h.burnt hz hk (by omega)
      have hR : syncR s = (syncS { s with fuse := decF s.fuse }, 0) := by unfold syncR; rw [if_neg (by rw [hk]; simpa using h0)]
      rw [hR]
      have HB := hid hB
      have HOB := hid hO
      have hne : b ≠ f := fun e => hbf (by rw [e]; unfold DV.fp; rw [hz]; simp)
      have HNE := hid hne
      have c0 : ((n : Int) == 0) = false := by rw [beq_eq_false_iff_ne]; omega
      have hpos : (0 : Int) < (n : Int) := by omega
      clear h hbx hbf hz hk hR hcell hB hO hne h0
      go_enter Try.func29, Try.ntmps29
      go_wp2_with (go_at_call 86; refine (Sync1_calls HB.out b ((heap_setCell_other _ _ _ _ HNE.out).trans HBX.out) HBF.out).mono ?_; rintro e w' ⟨rfl, hd, ho⟩; have HD2 := hid hd; have HO := hid ho; clear hd ho)
      go_ret
      exact ⟨rfl, ⟨_, HD2.out, by simp [Value.ownBlock]⟩, HOB.out.trans HO.out (fun _ h _ => h)⟩
theorem DV.fp_vo {d : DV} {vo' : Value} (h : ∀ k, k ∈ vo'.ownBlock.toList → k ∈ d.vo.ownBlock.toList) : ∀ k, k ∈ ({ d with vo := vo' } : DV).fp → k ∈ d.fp := by
  intro k hk
  unfold DV.fp at *
  simp only [List.mem_cons, List.mem_append] at hk ⊢
  rcases hk with h1 | h1 | h1 | h1 | h1
  · exact .inl h1
  · exact .inr (.inl h1)
  · exact .inr (.inr (.inl h1))
  · exact .inr (.inr (.inr (.inl (h k h1))))
  · exact .inr (.inr (.inr (.inr h1)))
set_option maxRecDepth 100000 in
theorem Sync_calls {base : Nat} {w : World} {d : DV} {s : DS} (h : Drv base w d s) :
    Calls Try.prog 70 #[ptr d.D] w fun e w' => e = .returned (.int .i64 (syncR s).2) ∧ (∃ vo', Drv base w' { d with vo := vo' } (syncR s).1 ∧ ∀ k, k ∈ vo'.ownBlock.toList → k ∈ d.vo.ownBlock.toList) ∧ Only d.fp w w' := by
  have HD := hid h
  have hA : Drv base (w.alloc (.cells #[ptr d.D] 23)) d s := h.kept (Only.alloc [] _ _) (by simp)
  have HA := hid hA
  have HF := hid (show w.heap.size ∉ d.fp from fun e => by have := (h.fp_lt _ e).2; omega)
  clear h hA
  unfold ptr
  go_enter Try.func70, Try.ntmps70
  go_wp2_with (first
    | (go_at_call 52; refine (none_calls HA.out).mono ?_; rintro e w' ⟨rfl, rfl⟩)
    | (go_at_call 29; refine (on_sync HA.out w.heap.size (heap_alloc_new _ _) HF.out).mono ?_; rintro e w' ⟨rfl, hd, ho⟩; have HD2 := hid hd; have HO := hid ho; clear hd ho))
  go_ret
  exact ⟨rfl, HD2.out, (Only.alloc d.fp w _).trans HO.out (fun _ h _ => h)⟩
/-- The drive goes on as s'. -/
def Goes (base : Nat) (w w' : World) (d : DV) (s' : DS) : Prop := ∃ d' : DV, d'.D = d.D ∧ Drv base w' d' s' ∧ Only d.fp w w' ∧ ∀ k, k ∈ d'.fp → k ∈ d.fp ∨ w.heap.size ≤ k
theorem Sync_goes {base : Nat} {w : World} {d : DV} {s : DS} (h : Drv base w d s) :
    Calls Try.prog 70 #[ptr d.D] w fun e w' => e = .returned (.int .i64 (syncR s).2) ∧ Goes base w w' d (syncR s).1 :=
  (Sync_calls h).mono fun e w' ⟨he, ⟨vo', hd, hv⟩, ho⟩ => ⟨he, { d with vo := vo' }, rfl, hd, ho, fun k hk => .inl (DV.fp_vo hv k hk)⟩
theorem Fuse_goes {base : Nat} {w : World} {d : DV} {s : DS} (h : Drv base w d s) (hb : base ≤ w.heap.size) (n : Int) (hn : n < 9223372036854775808) :
    Calls Try.prog 24 #[ptr d.D, .int .i64 n] w fun e w' => e = .returned (.tuple #[]) ∧ Goes base w w' d (fuseS s n) :=
  (Fuse_calls h hb n hn).mono fun e w' ⟨he, z, hd, ho, hz⟩ => ⟨he, { d with fz := z }, rfl, hd, ho.mono (by unfold DV.fp; simp), fun k hk => by
    unfold DV.fp at *
    simp only [List.mem_cons, List.mem_append] at hk ⊢
    rcases hk with h1 | h1 | h1 | h1 | h1
    · exact .inl (.inl h1)
    · exact .inl (.inr (.inl h1))
    · exact .inl (.inr (.inr (.inl h1)))
    · exact .inl (.inr (.inr (.inr (.inl h1))))
    · exact .inr (hz k h1)⟩
end Go.Proofs.Ytnhgakmnkpjpdaa
