/- A struct in memory with rows of its own: what a store, an append, a clearing do to it. General, over any program. -/
import Derived.Test.YtlafanbilodafaaD0
import Derived.Deep.AppendLies
set_option linter.unusedVariables false
set_option linter.unusedSimpArgs false
namespace Go.Proofs.Ytlafanbilodafaa
open Go Go.RowKit
structure RowV where
  v : Value
  e : Nat
  size : Nat
  n : Nat
  xs : List Value
def RowV.fp (r : RowV) : List Nat := r.v.ownBlock.toList
def obFp (O : Nat) (rows : List RowV) : List Nat := O :: rows.flatMap RowV.fp
structure Ob (base : Nat) (W : World) (O ty : Nat) (cs : Array Value) (rows : List RowV) : Prop where
  hO : base ≤ O
  obj : W.heap[O]? = some (.cells cs ty (0, 0))
  own : ∀ r ∈ rows, W.ownsRow base r.e r.size r.v r.n r.xs
  nd : (obFp O rows).Nodup
section
variable {base : Nat} {w w' : World} {O ty : Nat} {cs : Array Value} {rows : List RowV}
theorem Ob.fp_lt (h : Ob base w O ty cs rows) : ∀ k ∈ obFp O rows, base ≤ k ∧ k < w.heap.size := by
  intro k hk
  rcases List.mem_cons.1 hk with rfl | hk
  · exact ⟨h.hO, (Array.getElem?_eq_some_iff.1 h.obj).1⟩
  · obtain ⟨r, hr, hkr⟩ := List.mem_flatMap.1 hk
    exact ownsRow_lt (h.own r hr) hkr
theorem Ob.kept (h : Ob base w O ty cs rows) {fp : List Nat} (ho : Only fp w w') (hd : ∀ k ∈ obFp O rows, k ∉ fp) : Ob base w' O ty cs rows :=
  ⟨h.hO, (ho.block O (h.fp_lt O (by simp [obFp])).2 (hd O (by simp [obFp]))).trans h.obj,
    fun r hr => ownsRow_kept (h.own r hr) ho (fun k hk => hd k (List.mem_cons_of_mem _ (List.mem_flatMap.2 ⟨r, hr, hk⟩))), h.nd⟩
theorem Ob.new (h : Ob base w O ty cs rows) (ho : Only [] w w') : Ob base w' O ty cs rows := h.kept ho (by simp)
theorem ownsRow_at {base : Nat} {e : TypeId} {size : Nat} {v : Value} {n : Nat} {xs : List Value} (h : w.ownsRow base e size v n xs) (hs : ∀ k, k ∈ v.ownBlock.toList → w'.heap[k]? = w.heap[k]?) : w'.ownsRow base e size v n xs := by
  refine ⟨h.1, ?_⟩
  rcases h.2 with hn | ⟨g, cap, cur, rfl, hb, hgg, rest⟩
  · exact .inl hn
  · exact .inr ⟨g, cap, cur, rfl, hb, (hs g (by simp [Value.ownBlock])).trans hgg, rest⟩
theorem Ob.same (h : Ob base w O ty cs rows) (hs : ∀ k ∈ obFp O rows, w'.heap[k]? = w.heap[k]?) : Ob base w' O ty cs rows :=
  ⟨h.hO, (hs O (by simp [obFp])).trans h.obj, fun r hr => ownsRow_at (h.own r hr) (fun k hk => hs k (List.mem_cons_of_mem _ (List.mem_flatMap.2 ⟨r, hr, hk⟩))), h.nd⟩
theorem Ob.cell (h : Ob base w O ty cs rows) (j : Nat) : w.cell? ⟨O, j, none⟩ = cs[j]? := cell_of_row w _ _ _ _ _ h.obj
theorem Ob.free (h : Ob base w O ty cs rows) (j : Nat) : w.frozen? ⟨O, j, none⟩ = false := frozen_of_row w _ _ _ _ h.obj
theorem Ob.nd_rows (h : Ob base w O ty cs rows) : O ∉ rows.flatMap RowV.fp ∧ (rows.flatMap RowV.fp).Nodup := List.nodup_cons.1 h.nd
theorem Ob.ne (h : Ob base w O ty cs rows) {r : RowV} (hr : r ∈ rows) {k : Nat} (hk : k ∈ r.fp) : k ≠ O := fun e => h.nd_rows.1 (e ▸ List.mem_flatMap.2 ⟨r, hr, hk⟩)
/-- A cell of the struct is stored to. -/
theorem Ob.set (h : Ob base w O ty cs rows) (j : Nat) (x : Value) : Ob base (w.setCell ⟨O, j, none⟩ x) O ty (cs.setIfInBounds j x) rows ∧ Only [O] w (w.setCell ⟨O, j, none⟩ x) := by
  have ho : Only [O] w (w.setCell ⟨O, j, none⟩ x) := Only.setCell _ _ _ (by simp)
  exact ⟨⟨h.hO, heap_setCell_same w O j cs ty x h.obj, fun r hr => ownsRow_kept (h.own r hr) ho (fun k hk e => h.ne hr hk (by simpa using e)), h.nd⟩, ho⟩
theorem flat_split (a b : List RowV) (r : RowV) : (a ++ r :: b).flatMap RowV.fp = a.flatMap RowV.fp ++ (r.fp ++ b.flatMap RowV.fp) := by simp [List.flatMap_append, List.flatMap_cons]
/-- Different rows lie in different blocks. -/
theorem Ob.apart {a b : List RowV} {r : RowV} (h : Ob base w O ty cs (a ++ r :: b)) {x : RowV} (hx : x ∈ a ∨ x ∈ b) {k : Nat} (hk : k ∈ x.fp) : k ∉ r.fp := by
  have hn := h.nd_rows.2
  rw [flat_split] at hn
  obtain ⟨-, h2, h3⟩ := List.nodup_append.1 hn
  obtain ⟨-, -, h4⟩ := List.nodup_append.1 h2
  intro hr
  rcases hx with hx | hx
  · exact h3 k (List.mem_flatMap.2 ⟨x, hx, hk⟩) k (List.mem_append_left _ hr) rfl
  · exact h4 k hr k (List.mem_flatMap.2 ⟨x, hx, hk⟩) rfl
/-- A row is another one, in the same block or in one that is new. -/
theorem Ob.turn {a b : List RowV} {r r' : RowV} (h : Ob base w O ty cs (a ++ r :: b)) (ho : Only r.fp w w') (hr' : w'.ownsRow base r'.e r'.size r'.v r'.n r'.xs) (hf : ∀ k, k ∈ r'.fp → k ∈ r.fp ∨ w.heap.size ≤ k) : Ob base w' O ty cs (a ++ r' :: b) := by
  have hO : O ∉ r.fp := fun e => h.ne (r := r) (by simp) e rfl
  refine ⟨h.hO, (ho.block O (h.fp_lt O (by simp [obFp])).2 hO).trans h.obj, fun x hx => ?_, ?_⟩
  · have hold : ∀ {y : RowV}, (y ∈ a ∨ y ∈ b) → w'.ownsRow base y.e y.size y.v y.n y.xs := fun {y} hy =>
      ownsRow_kept (h.own y (by rcases hy with hy | hy <;> simp [hy])) ho (fun k hk => h.apart hy hk)
    rcases List.mem_append.1 hx with hx | hx
    · exact hold (.inl hx)
    · rcases List.mem_cons.1 hx with rfl | hx
      · exact hr'
      · exact hold (.inr hx)
  · have hlow := h.fp_lt
    have hn := h.nd
    unfold obFp at *
    rw [flat_split] at hn hlow ⊢
    obtain ⟨n1, n2⟩ := List.nodup_cons.1 hn
    obtain ⟨n3, n4, n5⟩ := List.nodup_append.1 n2
    obtain ⟨n6, n7, n8⟩ := List.nodup_append.1 n4
    have hl : ∀ k, k ∈ O :: (a.flatMap RowV.fp ++ (r.fp ++ b.flatMap RowV.fp)) → k < w.heap.size := fun k hk => (hlow k hk).2
    have hr1 : r'.fp.Nodup := by unfold RowV.fp; cases r'.v.ownBlock <;> simp
    have key : ∀ k, k ∈ r'.fp → k ≠ O ∧ k ∉ a.flatMap RowV.fp ∧ k ∉ b.flatMap RowV.fp := by
      intro k hk
      rcases hf k hk with q | q
      · exact ⟨fun e => hO (e ▸ q), fun e => n5 k e k (List.mem_append_left _ q) rfl, fun e => n8 k q k e rfl⟩
      · refine ⟨fun e => ?_, fun e => ?_, fun e => ?_⟩
        · have := hl k (by simp [e]); omega
        · have := hl k (List.mem_cons_of_mem _ (List.mem_append_left _ e)); omega
        · have := hl k (List.mem_cons_of_mem _ (List.mem_append_right _ (List.mem_append_right _ e))); omega
    refine List.nodup_cons.2 ⟨?_, List.nodup_append.2 ⟨n3, List.nodup_append.2 ⟨hr1, n7, fun x hx y hy e => (key x hx).2.2 (e ▸ hy)⟩, ?_⟩⟩
    · intro e
      rcases List.mem_append.1 e with e | e
      · exact n1 (List.mem_append_left _ e)
      · rcases List.mem_append.1 e with e | e
        · exact (key O e).1 rfl
        · exact n1 (List.mem_append_right _ (List.mem_append_right _ e))
    · intro x hx y hy e
      rcases List.mem_append.1 hy with hy | hy
      · exact (key y hy).2.1 (e ▸ hx)
      · exact n5 x hx y (List.mem_append_right _ hy) e
theorem obFp_turn {O : Nat} {a b : List RowV} {r r' : RowV} {m : Nat} (hf : ∀ k, k ∈ r'.fp → k ∈ r.fp ∨ m ≤ k) : ∀ k, k ∈ obFp O (a ++ r' :: b) → k ∈ obFp O (a ++ r :: b) ∨ m ≤ k := by
  intro k hk
  unfold obFp at *
  rw [flat_split] at hk ⊢
  simp only [List.mem_cons, List.mem_append] at hk ⊢
  rcases hk with e | e | e | e
  · exact .inl (.inl e)
  · exact .inl (.inr (.inl e))
  · rcases hf k e with q | q
    · exact .inl (.inr (.inr (.inl q)))
    · exact .inr q
  · exact .inl (.inr (.inr (.inr e)))
theorem fp_mem {O : Nat} {a b : List RowV} {r : RowV} {k : Nat} (hk : k ∈ r.fp) : k ∈ obFp O (a ++ r :: b) := by
  unfold obFp; rw [flat_split]; simp [hk]
/-- Something is appended to a row, out of a block that is laid for it. -/
theorem Ob.appended {a b : List RowV} {r : RowV} (h : Ob base w O ty cs (a ++ r :: b)) {ob : Obj} {g cap : Nat} {news : List Value} {n' : Nat} (hown : w'.ownsRow base r.e r.size (.slice (some ⟨g, 0, none⟩) n' cap) n' (r.xs ++ news))
    (hg : (w.alloc ob).grownBy w' r.v.ownBlock) (hat : r.v.ownBlock = some g ∨ g = w.heap.size + 1) :
    Ob base w' O ty cs (a ++ ⟨.slice (some ⟨g, 0, none⟩) n' cap, r.e, r.size, n', r.xs ++ news⟩ :: b) ∧ Only (obFp O (a ++ r :: b)) w w' ∧
      ∀ k, k ∈ obFp O (a ++ ⟨.slice (some ⟨g, 0, none⟩) n' cap, r.e, r.size, n', r.xs ++ news⟩ :: b) → k ∈ obFp O (a ++ r :: b) ∨ w.heap.size ≤ k := by
  have ho : Only r.fp w w' := ((Only.alloc [] w ob).mono (by simp)).trans (Only.of_grown hg (fun k hk => by unfold RowV.fp; rw [hk]; simp)) (fun _ h _ => h)
  have hf : ∀ k, k ∈ (⟨.slice (some ⟨g, 0, none⟩) n' cap, r.e, r.size, n', r.xs ++ news⟩ : RowV).fp → k ∈ r.fp ∨ w.heap.size ≤ k := by
    intro k hk
    have e : k = g := by simpa [RowV.fp, Value.ownBlock, eq_comm] using hk
    subst e
    rcases hat with e | e
    · exact .inl (by unfold RowV.fp; rw [e]; simp)
    · exact .inr (by omega)
  exact ⟨h.turn ho hown hf, ho.mono (fun k hk => fp_mem hk), obFp_turn hf⟩
/-- A row is cleared: nil, or any empty one. -/
theorem Ob.cleared {a b : List RowV} {r : RowV} (h : Ob base w O ty cs (a ++ r :: b)) : Ob base w O ty cs (a ++ ⟨.slice none 0 0, r.e, r.size, 0, []⟩ :: b) ∧ ∀ k, k ∈ obFp O (a ++ ⟨.slice none 0 0, r.e, r.size, 0, []⟩ :: b) → k ∈ obFp O (a ++ r :: b) := by
  have hf : ∀ k, k ∈ (⟨.slice none 0 0, r.e, r.size, 0, []⟩ : RowV).fp → k ∈ r.fp ∨ w.heap.size ≤ k := by intro k hk; simp [RowV.fp, Value.ownBlock] at hk
  refine ⟨h.turn (Only.refl _ _) (World.ownsRow_nil _ _ _ _) hf, fun k hk => ?_⟩
  have hf2 : ∀ k, k ∈ (⟨.slice none 0 0, r.e, r.size, 0, []⟩ : RowV).fp → k ∈ r.fp ∨ k + 1 ≤ k := by intro k hk; simp [RowV.fp, Value.ownBlock] at hk
  unfold obFp at *
  rw [flat_split] at hk ⊢
  simp only [List.mem_cons, List.mem_append] at hk ⊢
  rcases hk with e | e | e | e
  · exact .inl e
  · exact .inr (.inl e)
  · simp [RowV.fp, Value.ownBlock] at e
  · exact .inr (.inr (.inr e))
/-- A cell of a row is stored to. -/
theorem Ob.stored {a b : List RowV} {r : RowV} (h : Ob base w O ty cs (a ++ r :: b)) {g cap : Nat} (hv : r.v = .slice (some ⟨g, 0, none⟩) r.n cap) (j : Nat) (u : Value) :
    Ob base (w.setCell ⟨g, j, none⟩ u) O ty cs (a ++ ⟨r.v, r.e, r.size, r.n, r.xs.set j u⟩ :: b) ∧ Only (obFp O (a ++ r :: b)) w (w.setCell ⟨g, j, none⟩ u) := by
  have hr := h.own r (by simp)
  rw [hv] at hr
  have hs := World.ownsRow.stored (w := w) hr j u
  have hg : g ∈ r.fp := by unfold RowV.fp; rw [hv]; simp [Value.ownBlock]
  have ho : Only r.fp w (w.setCell ⟨g, j, none⟩ u) := Only.setCell _ _ _ hg
  exact ⟨h.turn (r' := ⟨r.v, r.e, r.size, r.n, r.xs.set j u⟩) ho (by show (w.setCell _ _).ownsRow base r.e r.size r.v r.n _; rw [hv]; exact hs.1) (fun k hk => .inl hk), ho.mono (fun k hk => fp_mem hk)⟩
end
end Go.Proofs.Ytlafanbilodafaa
