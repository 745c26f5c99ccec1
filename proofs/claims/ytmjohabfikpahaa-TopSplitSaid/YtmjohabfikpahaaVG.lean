/- split.Split: what stands in memory; the closure that takes. -/
import Derived.Test.YtmjohabfikpahaaVF
import Derived.Laws.MakeOwn
set_option maxRecDepth 1000000
set_option linter.unusedVariables false
set_option linter.unusedSimpArgs false
namespace Go.Proofs.Ytmjohabfikpahaa
open Go Go.Shelf Go.RowKit Go.Lib Go.Sort Go.Proofs
theorem info2 : ∃ i, Try.prog.info? 2 = some i ∧ i.zero = some (.int .i64 0) ∧ i.size = 1 ∧ i.bytes = 8 := by
  have h : (Try.prog.info? 2).map (fun i => (i.zero, i.size, i.bytes)) = some (some (.int .i64 0), 1, 8) := by kernel_rfl
  obtain ⟨i, hi, hzz⟩ := Option.map_eq_some_iff.1 h
  simp only [Prod.mk.injEq] at hzz
  exact ⟨i, hi, hzz.1, hzz.2.1, hzz.2.2⟩
def ivals (o : List Int) : List Value := o.map (Value.int .i64)
theorem ivals_len (o : List Int) : (ivals o).length = o.length := by unfold ivals; simp
theorem made_ints (n : Nat) : madeCells #[Value.int .i64 0] n = (ivals (List.replicate n 0)).toArray := by
  apply Array.ext'
  rw [List.toList_toArray]
  apply List.ext_getElem?
  intro j
  unfold ivals
  by_cases hj : j < n
  · simp [madeCells, hj, List.getElem?_replicate, getElem!_def, Nat.mod_one]
  · simp [madeCells, hj, List.getElem?_replicate]
theorem run_make22 (n : Nat) (hn : n ≤ 4096) (W : World) : (Instr.makeSlice 22 (.int .i64 (n : Int)) (.int .i64 (n : Int))).run Try.prog W = .ok (.slice (some ⟨W.heap.size, 0, none⟩) n n) (W.alloc (.cells (ivals (List.replicate n 0)).toArray 2)) := by
  obtain ⟨ti, hti, htz, hts, htb⟩ := info2
  have h := run_make W 22 2 ti _ Try.underlying22 hti htz .i64 .i64 (n : Int) (n : Int) (by omega) (Int.le_refl _) (by rw [htb]; omega) (by omega)
  rw [h]
  simp only [Int.toNat_natCast, hts, Nat.mul_one]
  have e : (Value.int .i64 0).cells = #[Value.int .i64 0] := rfl
  rw [e, made_ints]
set_option maxHeartbeats 1000000 in
theorem take_calls (x left : Int) (L : Nat) (w : World) (h : I64 (left - x)) (hL : w.heap[L]? = some (.cells #[.int .i64 left] 2 (0, 0))) :
    Calls Try.prog 9 #[.int .i64 x, .pointer (some ⟨L, 0, none⟩)] w fun e w' => e = .returned (.int .i64 x) ∧ w' = w.setCell ⟨L, 0, none⟩ (.int .i64 (left - x)) := by
  obtain ⟨c1, c2⟩ := one_cell hL
  unfold I64 at h
  have e1 : IntKind.i64.wrap (left - x) = left - x := by rw [IntKind.wrap_i64]; omega
  have e2 : RowKit.wrap64 (left - x) = left - x := by unfold RowKit.wrap64; omega
  clear hL
  go_enter Try.func9, Try.ntmps9
  go_wp2
  go_ret
  exact ⟨rfl, rfl⟩
theorem ownsRow_kept {w W : World} {base : Nat} {e : TypeId} {size : Nat} {v : Value} {n : Nat} {xs : List Value} {fp : List Nat} (h : w.ownsRow base e size v n xs) (ho : Only fp w W) (hk : ∀ k, k ∈ v.ownBlock.toList → k ∉ fp) : W.ownsRow base e size v n xs := by
  refine ⟨h.1, ?_⟩
  rcases h.2 with hn | ⟨g, cap, cur, rfl, hb, hgg, rest⟩
  · exact .inl hn
  · refine .inr ⟨g, cap, cur, rfl, hb, ?_, rest⟩
    rw [ho.block g (Array.getElem?_eq_some_iff.1 hgg).1 (hk g (by simp [Value.ownBlock]))]
    exact hgg
/-- What is left, and the slices so far. -/
structure Sp (wb w : World) (L O : Nat) (left : Int) (o : List Int) : Prop where
  only : Only [L, O] wb w
  hL : w.heap[L]? = some (.cells #[.int .i64 left] 2 (0, 0))
  hO : w.heap[O]? = some (.cells (ivals o).toArray 2 (0, 0))
  ltL : L < wb.heap.size
  ltO : O < wb.heap.size
  ne : L ≠ O
section
variable {wb w w' : World} {L O : Nat} {left : Int} {o : List Int}
theorem Sp.new (h : Sp wb w L O left o) (ho : Only [] w w') : Sp wb w' L O left o :=
  ⟨h.only.trans ho (by simp), Only.at ho h.hL (by simp), Only.at ho h.hO (by simp), h.ltL, h.ltO, h.ne⟩
/-- What grows is neither. -/
theorem Sp.kept (h : Sp wb w L O left o) {fp : List Nat} (ho : Only fp w w') (hf : ∀ k ∈ fp, wb.heap.size ≤ k) : Sp wb w' L O left o :=
  ⟨h.only.trans ho (fun k hk hl => by have := hf k hk; omega), Only.at ho h.hL (fun e => by have := hf L e; have := h.ltL; omega), Only.at ho h.hO (fun e => by have := hf O e; have := h.ltO; omega), h.ltL, h.ltO, h.ne⟩
theorem Sp.take (h : Sp wb w L O left o) (x : Int) : Sp wb (w.setCell ⟨L, 0, none⟩ (.int .i64 x)) L O x o ∧ Only [L] w (w.setCell ⟨L, 0, none⟩ (.int .i64 x)) := by
  have ho : Only [L] w (w.setCell ⟨L, 0, none⟩ (.int .i64 x)) := Only.setCell _ _ _ (by simp)
  exact ⟨⟨h.only.trans ho (fun k hk _ => by rw [List.mem_singleton] at hk; simp [hk]), set_one h.hL, Only.at ho h.hO (by simp [h.ne.symm]), h.ltL, h.ltO, h.ne⟩, ho⟩
theorem ivals_set (o : List Int) (j : Nat) (x : Int) : ((ivals o).toArray).setIfInBounds j (.int .i64 x) = (ivals (o.set j x)).toArray := by
  unfold ivals
  rw [List.map_set, List.setIfInBounds_toArray]
theorem Sp.put (h : Sp wb w L O left o) (j : Nat) (x : Int) : Sp wb (w.setCell ⟨O, j, none⟩ (.int .i64 x)) L O left (o.set j x) ∧ Only [O] w (w.setCell ⟨O, j, none⟩ (.int .i64 x)) := by
  have ho : Only [O] w (w.setCell ⟨O, j, none⟩ (.int .i64 x)) := Only.setCell _ _ _ (by simp)
  refine ⟨⟨h.only.trans ho (fun k hk _ => by rw [List.mem_singleton] at hk; simp [hk]), Only.at ho h.hL (by simp [h.ne]), ?_, h.ltL, h.ltO, h.ne⟩, ho⟩
  rw [← ivals_set]
  exact heap_setCell_same w O j _ 2 _ h.hO
theorem Sp.cellO (h : Sp wb w L O left o) {j : Nat} (hj : j < o.length) : w.cell? ⟨O, j, none⟩ = some (.int .i64 (o.getD j 0)) := by
  rw [cell_of_row w _ _ _ _ _ h.hO, List.getElem?_toArray]
  unfold ivals
  rw [List.getElem?_map, List.getD_eq_getElem?_getD, List.getElem?_eq_getElem hj]
  rfl
theorem Sp.frozenO (h : Sp wb w L O left o) (j : Nat) : w.frozen? ⟨O, j, none⟩ = false := frozen_of_row w _ _ _ _ h.hO
end
theorem flat_drop {α : Type} (f : α → List Value) (n : Nat) (l : List α) (hf : ∀ x ∈ l, (f x).length = n) (i : Nat) : (l.flatMap f).drop (i * n) = (l.drop i).flatMap f := by
  induction i generalizing l with
  | zero => simp
  | succ i ih =>
    cases l with
    | nil => simp
    | cons x r =>
      have hx := hf x (by simp)
      rw [List.flatMap_cons, Nat.succ_mul, Nat.add_comm, ← List.drop_drop, List.drop_append_of_le_length (by omega), List.drop_of_length_le (l := f x) (by omega), List.nil_append, ih r (fun y hy => hf y (List.mem_cons_of_mem _ hy))]
      rfl
theorem flat_length {α : Type} (f : α → List Value) (n : Nat) (l : List α) (hf : ∀ x ∈ l, (f x).length = n) : (l.flatMap f).length = l.length * n := by
  induction l with
  | nil => simp
  | cons x r ih => rw [List.flatMap_cons, List.length_append, ih (fun y hy => hf y (List.mem_cons_of_mem _ hy)), hf x (by simp), List.length_cons, Nat.succ_mul, Nat.add_comm]
theorem flat_at {α : Type} (f : α → List Value) (n : Nat) (l : List α) (hf : ∀ x ∈ l, (f x).length = n) (i j : Nat) (x : α) (hx : l[i]? = some x) (hj : j < n) : (l.flatMap f)[i * n + j]? = (f x)[j]? := by
  have hi : i < l.length := (List.getElem?_eq_some_iff.1 hx).1
  have h := flat_drop f n l hf i
  have e : ((l.flatMap f).drop (i * n))[j]? = (l.flatMap f)[i * n + j]? := List.getElem?_drop
  rw [← e, h, List.drop_eq_getElem_cons hi, List.flatMap_cons]
  obtain ⟨_, hx'⟩ := List.getElem?_eq_some_iff.1 hx
  rw [hx', List.getElem?_append_left (by rw [hf x (hx' ▸ List.getElem_mem hi)]; exact hj)]
theorem flat_list (l : List Shr) : (flatK encS 3 l.toArray).toList = l.flatMap encS := by
  refine List.ext_getElem? fun t => ?_
  by_cases ht : t < l.length * 3
  · have hd : t / 3 < l.length := by omega
    have e := flat_at encS 3 l (fun _ _ => rfl) (t / 3) (t % 3) l[t / 3] (List.getElem?_eq_getElem hd) (by omega)
    rw [show t / 3 * 3 + t % 3 = t by omega] at e
    rw [e, Array.getElem?_toList]
    have h2 := get_flatK encS 3 l.toArray t (by simpa using ht)
    have h3 : t < (flatK encS 3 l.toArray).size := by simpa using ht
    rw [getElem!_pos _ t h3] at h2
    rw [Array.getElem?_eq_getElem h3, h2]
    have h4 : l.toArray[t / 3]! = l[t / 3] := by rw [getElem!_pos l.toArray (t / 3) (by simpa using hd)]; simp
    rw [h4]
    have h5 : t % 3 < (encS l[t / 3]).length := by rw [encS_len]; omega
    rw [getElem!_pos (encS l[t / 3]) (t % 3) h5, List.getElem?_eq_getElem h5]
  · rw [List.getElem?_eq_none (by simp; omega), List.getElem?_eq_none (by rw [flat_length encS 3 l (fun _ _ => rfl)]; omega)]
theorem holdsK_only {w W : World} {fp : List Nat} {g : Nat} {d : Array Shr} (h : HoldsK encS 3 w g 0 d) (ho : Only fp w W) (hg : g < w.heap.size) (hn : g ∉ fp) : HoldsK encS 3 W g 0 d := fun j hj => by
  obtain ⟨h1, h2⟩ := h j hj
  refine ⟨by rw [cell_only ho hg hn]; exact h1, ?_⟩
  unfold World.frozen? at h2 ⊢
  rw [ho.block g hg hn]
  exact h2
theorem holdsK_cells {w : World} {g : Nat} {d : Array Shr} (h : HoldsK encS 3 w g 0 d) {j : Nat} (hj : j < d.size) :
    w.cell? ⟨g, j * 3, none⟩ = some (.int .i64 d[j]!.q) ∧ w.cell? ⟨g, j * 3 + 1, none⟩ = some (.int .i64 d[j]!.r) ∧ w.cell? ⟨g, j * 3 + 2, none⟩ = some (.int .i64 (d[j]!.pl.val : Int)) := by
  have key : ∀ c, c < 3 → w.cell? ⟨g, j * 3 + c, none⟩ = some (encS d[j]!)[c]! := fun c hc => by
    have h1 := (h (j * 3 + c) (by rw [size_flatK]; omega)).1
    rw [Nat.zero_add, get_flatK _ _ _ _ (by omega), show (j * 3 + c) / 3 = j by omega, show (j * 3 + c) % 3 = c by omega] at h1
    exact h1
  exact ⟨key 0 (by omega), key 1 (by omega), key 2 (by omega)⟩
end Go.Proofs.Ytmjohabfikpahaa
