/- General laws, over any program, on whole arrays in memory: alloc, box, load, store of a row; copy of a string's bytes into a row; a row's bytes as a string. No condition beyond each law's own. -/
import Derived.WalkKit
import Derived.Laws.CopyOwn
import Derived.WalkLawsBesides
import Derived.WalkSpells
import Derived.Lib.AppendStr
import Derived.BigQuiet
import Derived.Deep.QuietTactic
set_option linter.unusedVariables false
set_option linter.unusedSimpArgs false
namespace Go.Proofs.Ytlafanbilodafaa
open Go Go.RowKit

theorem hid {p : Prop} (h : p) : Hid p := h
/-- A number's byte as a cell. -/
def cb (b : UInt8) : Value := .int .u8 b.toNat
/-- Bytes as cells. -/
def cells8 (l : List UInt8) : Array Value := (l.map cb).toArray
theorem cells8_size (l : List UInt8) : (cells8 l).size = l.length := by simp [cells8]
theorem cells8_get (l : List UInt8) (i : Nat) : (cells8 l)[i]? = l[i]?.map cb := by simp [cells8]
theorem cells8_toList (l : List UInt8) : (cells8 l).toList = l.map cb := by simp [cells8]
theorem cb_one (l : List UInt8) : ∀ v ∈ l.map cb, v.oneCell' = true := by
  intro v hv
  obtain ⟨b, _, rfl⟩ := List.mem_map.1 hv
  rfl
theorem cells8_set (l : List UInt8) (i : Nat) (b : UInt8) : (cells8 l).setIfInBounds i (cb b) = cells8 (l.set i b) := by
  simp [cells8, List.map_set]
theorem cells8_inj {l m : List UInt8} (h : cells8 l = cells8 m) : l = m := by
  have h2 : l.map cb = m.map cb := by have := congrArg Array.toList h; simpa [cells8] using this
  refine (List.map_inj_right (f := cb) ?_).1 h2
  intro x y hxy
  simp only [cb, Value.int.injEq, true_and] at hxy
  exact UInt8.toNat_inj.1 (by omega)

/-- Sixty-four bytes 0, behind a name. -/
def z64 : List UInt8 := List.replicate 64 0
theorem z64_length : z64.length = 64 := rfl

/-- w' is w with one block more. -/
structure New (w w' : World) (ob : Obj) : Prop where
  os : w'.os = w.os
  tape : w'.tape = w.tape
  output : w'.output = w.output
  size : w'.heap.size = w.heap.size + 1
  at_ : w'.heap[w.heap.size]? = some ob
  old : ∀ k, k < w.heap.size → w'.heap[k]? = w.heap[k]?
theorem New.alloc (w : World) (ob : Obj) : New w (w.alloc ob) ob :=
  ⟨rfl, rfl, rfl, by simp, heap_alloc_new w ob, fun k hk => Below.heap_alloc w ob k hk⟩
theorem New.below {w w' : World} {ob : Obj} (h : New w w' ob) : Below w.heap.size w w' := ⟨h.os, h.tape, h.output, by have := h.size; omega, h.old⟩
/-- w' is w, but that block g holds something else. -/
structure Upd (w w' : World) (g : Nat) (ob : Obj) : Prop where
  os : w'.os = w.os
  tape : w'.tape = w.tape
  output : w'.output = w.output
  size : w'.heap.size = w.heap.size
  at_ : w'.heap[g]? = some ob
  other : ∀ k, k ≠ g → w'.heap[k]? = w.heap[k]?
theorem Upd.setRow (w : World) (g : Nat) (cs old : Array Value) (t : TypeId) (fr : Nat × Nat) (hg : w.heap[g]? = some (.cells old t fr)) : Upd w (w.setRow g cs) g (.cells cs t fr) :=
  ⟨rfl, rfl, rfl, size_setRow _ _ _, setRow_heap w g old cs t fr hg, fun k hk => setRow_other w g k cs hk⟩
theorem Upd.below {w w' : World} {g : Nat} {ob : Obj} (h : Upd w w' g ob) (B : Nat) (hB : B ≤ g) : Below B w w' :=
  ⟨h.os, h.tape, h.output, by have := h.size; omega, fun k hk => h.other k (by omega)⟩

section
variable {P : Program} {w : World} {ops : Array Oper} {rest : List Oper} {o : Oper} {a : Act} {Q : Exit → Act → World → Prop}

theorem wpList_alloc_row (hgd : o.guard = none) (e : TypeId) (ho : o.op = .alloc e) (i : TypeInfo) (z : Value) (hi : P.info? e = some i) (hz : i.zero = some z) (vs : Array Value) (hv : z.cells = vs)
    (h : ∀ w', New w w' (.cells vs e (0, 0)) → wpList P ops Q rest (a.put o.dst (.pointer (some ⟨w.heap.size, 0, none⟩))) w') : wpList P ops Q (o :: rest) a w :=
  wpList_plain hgd fun K hK => by
    subst hv
    unfold Oper.wp execOp
    simp [ho, Instr.alloc, zeroValue, typeInfo, hi, hz, newVar, newRow, newObj, Result.andThen, Sem.run_bind]
    exact hK _ _ (h _ (New.alloc w _))

theorem wpList_box_row (hgd : o.guard = none) (e : TypeId) (x : Operand) (ho : o.op = .box e x) (vs : Array Value) (hv : (a.eval x).cells = vs)
    (h : ∀ w', New w w' (.cells vs e (0, 0)) → wpList P ops Q rest (a.put o.dst (.pointer (some ⟨w.heap.size, 0, none⟩))) w') : wpList P ops Q (o :: rest) a w :=
  wpList_plain hgd fun K hK => by
    subst hv
    unfold Oper.wp execOp
    simp [ho, Instr.box, newVar, newRow, newObj, Result.andThen, Sem.run_bind]
    exact hK _ _ (h _ (New.alloc w _))

theorem wpList_store_row (hgd : o.guard = none) (ty : TypeId) (x y : Operand) (ho : o.op = .store ty x y) (i : TypeInfo) (hi : P.info? ty = some i)
    (g : Nat) (hx : a.eval x = .pointer (some ⟨g, 0, none⟩)) (t : TypeId) (cs : Array Value) (hg : w.heap[g]? = some (.cells cs t (0, 0)))
    (vs : Array Value) (hy : (a.eval y).cells = vs) (hs : i.size = vs.size) (hc : vs.size = cs.size) (h1 : ∀ v ∈ vs.toList, v.oneCell' = true)
    (h : ∀ w', Upd w w' g (.cells vs t (0, 0)) → wpList P ops Q rest (a.put o.dst undef) w') : wpList P ops Q (o :: rest) a w :=
  wpList_plain hgd fun K hK => by
    have hst := run_storeCells_at P g 0 t vs.toList 0 cs w hg (by simp [hc]) h1
    have hl : ([] ++ vs.toList ++ cs.toList.drop vs.size).toArray = vs := by
      rw [List.drop_of_length_le (by simp [hc])]
      simp
    simp only [Nat.add_zero, List.take_zero, Nat.zero_add, Array.length_toList, hl] at hst
    unfold Oper.wp execOp
    simp [ho, hx, Instr.storeAt, Instr.sureAddr, storeVar, sizeOf, typeInfo, hi, hy, hs, Result.andThen, Sem.run_bind, hst]
    exact hK _ _ (h _ (Upd.setRow w g vs cs t (0, 0) hg))

/-- A row loaded by an operation that is guarded, its guard being met. -/
theorem wpList_load_row_g (hw : Region.wanted o (yielded ops a.tmps) = true) (ty : TypeId) (x : Operand) (ho : o.op = .load ty x)
    (g : Nat) (hx : a.eval x = .pointer (some ⟨g, 0, none⟩)) (t : TypeId) (cs : Array Value) (fr : Nat × Nat) (d : TypeDesc) (hg : w.heap[g]? = some (.cells cs t fr))
    (hu : P.underlying ty = some d) (hd : (match d with | .struct _ | .array _ _ => true | _ => false) = true) (hi : (P.info? ty).map (·.size) = some cs.size)
    (h : wpList P ops Q rest (a.put o.dst (.agg cs)) w) : wpList P ops Q (o :: rest) a w :=
  wpList_step fun _ hK => by
    rw [if_pos hw]
    exact wp_load_row ty x ho g hx t cs fr d hg hu hd hi (hK _ _ h)

/-- 'a[i]' of an array behind an address: the element's address. -/
theorem wpList_indexAddr_arr (hgd : o.guard = none) (ty : TypeId) (x y : Operand) (ho : o.op = .indexAddr ty x y) (n : Nat) (e : TypeId) (hu : P.underlying ty = some (.array n e))
    (i : TypeInfo) (hi : P.info? e = some i) (hs : i.size = 1) (g : Nat) (hx : a.eval x = .pointer (some ⟨g, 0, none⟩)) (k : IntKind) (j : Int) (hy : a.eval y = .int k j) (h0 : 0 ≤ j) (h1 : j < n)
    (h : wpList P ops Q rest (a.put o.dst (.pointer (some ⟨g, j.toNat, none⟩))) w) : wpList P ops Q (o :: rest) a w :=
  wpList_plain hgd fun K hK => by
    have hadd : ∀ m : Nat, (⟨g, 0, none⟩ : Addr).add m = ⟨g, m, none⟩ := fun m => by unfold Addr.add; split <;> simp_all
    unfold Oper.wp execOp
    simp [ho, hx, hy, Instr.indexAt, Instr.sureAddr, asIntOf, run_underlying hu, sizeOf, typeInfo, hi, hs, Result.andThen, Sem.run_bind, h0, h1, hadd]
    exact hK _ _ h

/-- A load of one cell of a known block. -/
theorem wpList_load_cell (hgd : o.guard = none) (ty : TypeId) (x : Operand) (ho : o.op = .load ty x) (d : TypeDesc) (hu : P.underlying ty = some d) (hd : (match d with | .struct _ | .array _ _ => true | _ => false) = false)
    (g j : Nat) (hx : a.eval x = .pointer (some ⟨g, j, none⟩)) (t : TypeId) (cs : Array Value) (fr : Nat × Nat) (hg : w.heap[g]? = some (.cells cs t fr)) (v : Value) (hv : cs[j]? = some v)
    (h : wpList P ops Q rest (a.put o.dst v) w) : wpList P ops Q (o :: rest) a w :=
  wpList_plain hgd fun K hK => by
    have hc : w.cell? ⟨g, j, none⟩ = some v := (cell_of_row w g j cs t fr hg).trans hv
    have hagg : (isAgg ty).run P w = .ok false w := by
      unfold isAgg
      rw [Sem.run_bind, run_underlying hu w]
      cases d <;> simp_all
    unfold Oper.wp execOp
    simp [ho, hx, Instr.loadAt, Instr.sureAddr, loadVar, hagg, Go.load, Sem.run, hc, Result.andThen, Sem.run_bind]
    exact hK _ _ h

/-- A store of one cell into a known block. -/
theorem wpList_store_cell (hgd : o.guard = none) (ty : TypeId) (x y : Operand) (ho : o.op = .store ty x y) (i : TypeInfo) (hi : P.info? ty = some i) (hs : i.size = 1)
    (g j : Nat) (hx : a.eval x = .pointer (some ⟨g, j, none⟩)) (t : TypeId) (cs : Array Value) (hg : w.heap[g]? = some (.cells cs t (0, 0))) (hj : j < cs.size)
    (v : Value) (hy : a.eval y = v) (h1 : v.oneCell' = true)
    (h : ∀ w', Upd w w' g (.cells (cs.setIfInBounds j v) t (0, 0)) → wpList P ops Q rest (a.put o.dst undef) w') : wpList P ops Q (o :: rest) a w :=
  wpList_plain hgd fun K hK => by
    have hcs : v.cells = #[v] := by cases v <;> simp_all [Value.cells, Value.oneCell']
    have hst := run_storeCells_at P g j t [v] 0 cs w hg (by simp; omega) (by simpa using h1)
    have hl : (cs.toList.take j ++ [v] ++ cs.toList.drop (j + 1)).toArray = cs.setIfInBounds j v := by
      apply Array.ext'
      rw [List.toList_toArray, Array.toList_setIfInBounds, List.set_eq_take_append_cons_drop, if_pos (by simpa using hj)]
      simp
    simp only [Nat.add_zero, List.length_cons, List.length_nil, Nat.zero_add, hl] at hst
    unfold Oper.wp execOp
    simp [ho, hx, Instr.storeAt, Instr.sureAddr, storeVar, sizeOf, typeInfo, hi, hy, hs, hcs, Result.andThen, Sem.run_bind, hst]
    exact hK _ _ (h _ (Upd.setRow w g _ cs t (0, 0) hg))

theorem data_take (s : ByteArray) (n : Nat) : ((s.extract 0 n).data.map fun b => Value.int .u8 b.toNat).toList = (s.data.toList.take n).map cb := by
  simp only [ByteArray.data_extract, Array.toList_map, Array.toList_extract]
  simp only [List.extract, List.drop_zero, Nat.sub_zero]
  rfl

theorem wpList_copy_string (hgd : o.guard = none) (x y : Operand) (t t2 : TypeId) (ho : o.op = .call { callee := .builtin .copy, args := #[x, y], argTypes := #[t, t2] })
    (e : TypeId) (ht : P.underlying t = some (.slice e)) (i : TypeInfo) (hi : P.info? e = some i) (hsz : i.size = 1)
    (g off n c : Nat) (hx : a.eval x = .slice (some ⟨g, off, none⟩) n c) (s : ByteArray) (hy : a.eval y = .string s)
    (te : TypeId) (cs : Array Value) (hg : w.heap[g]? = some (.cells cs te (0, 0))) (hb : off + n ≤ cs.size)
    (h : ∀ w', Upd w w' g (.cells (cs.toList.take off ++ (s.data.toList.take n).map cb ++ cs.toList.drop (off + Nat.min s.size n)).toArray te (0, 0)) → wpList P ops Q rest (a.put o.dst (goInt (Nat.min s.size n))) w') : wpList P ops Q (o :: rest) a w :=
  wpList_plain hgd fun K hK => by
    have hlen : ((s.data.toList.take n).map cb).length = Nat.min s.size n := by
      simp only [List.length_map, List.length_take, Array.length_toList]
      exact Nat.min_comm _ _
    have hst := run_storeCells_at P g off te ((s.data.toList.take n).map cb) 0 cs w hg (by rw [hlen]; have : Nat.min s.size n ≤ n := Nat.min_le_right _ _; omega) (cb_one _)
    simp only [Nat.add_zero, hlen] at hst
    have hn : s.data.toList.length = s.size := Array.length_toList
    have hd : (s.data.toList.take n).map cb = List.take (Nat.min s.size n) (Array.map (fun b => Value.int .u8 b.toNat) s.data).toList := by
      rw [Array.toList_map, List.map_take]
      have e : List.map cb s.data.toList = List.map (fun b => Value.int .u8 b.toNat) s.data.toList := rfl
      rw [e]
      by_cases hh : s.size ≤ n
      · rw [show Nat.min s.size n = s.size from Nat.min_eq_left hh, List.take_of_length_le (by simp; omega), List.take_of_length_le (by simp)]
      · rw [show Nat.min s.size n = n from Nat.min_eq_right (by omega)]
    have hrun : (Builtin.copy_ #[t, t2] o.type #[.slice (some ⟨g, off, none⟩) n c, .string s]).run P w = .ok (goInt (Nat.min s.size n)) (w.setRow g (cs.toList.take off ++ (s.data.toList.take n).map cb ++ cs.toList.drop (off + Nat.min s.size n)).toArray) := by
      rw [hd] at hst ⊢
      simp [Builtin.copy_, run_underlying ht, Builtin.lenOf, Builtin.firstCells, sizeOf, typeInfo, hi, hsz, hst, -Array.toList_map]
    unfold Oper.wp execOp
    simp only [ho, resolve, invoke, builtin, Sem.run_bind, Sem.run_pure, Result.andThen_ok, List.map_toArray, List.map_cons, List.map_nil, hx, hy, hrun]
    exact hK _ _ (h _ (Upd.setRow w g _ cs te (0, 0) hg))

/-- 'string(b)': a row's bytes as a string. -/
theorem wpList_convert_back (hgd : o.guard = none) (src dst : TypeId) (x : Operand) (ho : o.op = .convert src dst x) (e : TypeId) (hs : P.underlying src = some (.slice e)) (he : P.underlying e = some (.int .u8)) (hd : P.underlying dst = some .string)
    (g off c : Nat) (l : List UInt8) (n : Nat) (hn : n = l.length) (hx : a.eval x = .slice (some ⟨g, off, none⟩) n c) (t : TypeId) (cs : Array Value) (fr : Nat × Nat) (hg : w.heap[g]? = some (.cells cs t fr))
    (hc : ∀ j, j < l.length → cs[off + j]? = some (cb (l.getD j 0)))
    (h : wpList P ops Q rest (a.put o.dst (.string ⟨l.toArray⟩)) w) : wpList P ops Q (o :: rest) a w :=
  wpList_plain hgd fun K hK => by
    subst hn
    have hadd : ∀ m : Nat, (⟨g, off, none⟩ : Addr).add m = ⟨g, off + m, none⟩ := fun m => by unfold Addr.add; split <;> simp_all
    have hrun := run_convert_bytes_back (P := P) w src dst e ⟨g, off, none⟩ c l hs he hd (by
      intro j hj
      rw [hadd, cell_of_row w g (off + j) cs t fr hg, hc j hj]
      simp [cb, List.getD_eq_getElem?_getD, List.getElem?_eq_getElem hj])
    unfold Oper.wp execOp
    simp only [ho, hx, Sem.run_bind, hrun, Result.andThen_ok, Sem.run_pure]
    exact hK _ _ h
end

/-! A region that draws its order, all of whose operations are quiet in a class of worlds of one's own. -/
section
variable {P : Program} {ops : Array Oper} {C : World → Prop} {Q : Act → Prop} {rest : List Oper} {o : Oper} {a : Act}
theorem wpQuiet_val (hgd : o.guard = none) (v : Value) (hrun : ∀ w, C w → (execOp a.eval o).run P w = .ok (.value v) w) (h : wpQuiet P ops C Q rest (a.put o.dst v)) : wpQuiet P ops C Q (o :: rest) a :=
  wpQuiet_step fun K hK => by
    rw [if_pos (by simp [Region.wanted, hgd])]
    refine ⟨v, fun w hw => ?_, hK _ h⟩
    unfold Oper.quietAt
    rw [hrun w hw]
    exact ⟨rfl, rfl⟩
theorem wpQuiet_move (hgd : o.guard = none) (x : Operand) (v : Value) (ho : o.op = .move x ∨ o.op = .assign x) (hx : a.eval x = v) (h : wpQuiet P ops C Q rest (a.put o.dst v)) : wpQuiet P ops C Q (o :: rest) a :=
  wpQuiet_val hgd v (fun w _ => by subst hx; unfold execOp; rcases ho with ho | ho <;> simp [ho]) h
theorem wpQuiet_load_row (hgd : o.guard = none) (ty : TypeId) (x : Operand) (ho : o.op = .load ty x) (g : Nat) (hx : a.eval x = .pointer (some ⟨g, 0, none⟩)) (t : TypeId) (cs : Array Value) (fr : Nat × Nat) (d : TypeDesc)
    (hg : ∀ w, C w → w.heap[g]? = some (.cells cs t fr)) (hu : P.underlying ty = some d) (hd : (match d with | .struct _ | .array _ _ => true | _ => false) = true) (hi : (P.info? ty).map (·.size) = some cs.size)
    (h : wpQuiet P ops C Q rest (a.put o.dst (.agg cs))) : wpQuiet P ops C Q (o :: rest) a :=
  wpQuiet_val hgd _ (fun w hw => by
    unfold execOp
    simp only [ho, hx, Instr.loadAt, Instr.sureAddr, Sem.run_bind, Sem.run_pure, Result.andThen_ok, run_loadVar_row w g t ty cs fr d (hg w hw) hu hd hi]) h
theorem wpQuiet_call (hgd : o.guard = none) (f : FuncId) (args : Array Value) (v : Value) (hrun : ∀ w, (execOp a.eval o).run P w = .ok (.enter f args) w)
    (hc : ∀ w, C w → Calls P f args w fun e w'' => e = .returned v ∧ C w'') (h : wpQuiet P ops C Q rest (a.put o.dst v)) : wpQuiet P ops C Q (o :: rest) a :=
  wpQuiet_step fun K hK => by
    rw [if_pos (by simp [Region.wanted, hgd])]
    refine ⟨v, fun w hw => ?_, hK _ h⟩
    unfold Oper.quietAt
    rw [hrun w]
    exact ⟨rfl, hc w hw⟩
end
end Go.Proofs.Ytlafanbilodafaa
