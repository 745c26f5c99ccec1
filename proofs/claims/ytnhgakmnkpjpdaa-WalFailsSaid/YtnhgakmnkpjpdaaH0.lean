import Derived.Test.YtnhgakmnkpjpdaaQ0
import Derived.WalkKit
import Derived.Laws.CopyOwn
import Derived.WalkLawsBesides
import Derived.WalkSpells
import Derived.Lib.AppendStr
import Derived.BigQuiet
import Derived.Deep.QuietTactic
/- Plain lemmas on byte strings as lists. No condition beyond each lemma's own. -/
set_option linter.unusedVariables false
set_option linter.unusedSimpArgs false
namespace Go.Proofs.Ytnhgakmnkpjpdaa
open Go Go.RowKit Go.Proofs.YtnhgakmnkpjpdaaW.PrintWords
/-- A string of these bytes. -/
def B (l : List UInt8) : ByteArray := ⟨l.toArray⟩
theorem B_ex (s : ByteArray) : ∃ l, s = B l ∧ s.data.toList = l := ⟨s.data.toList, by simp [B], rfl⟩
theorem B_data (l : List UInt8) : (B l).data.toList = l := by simp [B]
theorem B_size (l : List UInt8) : (B l).size = l.length := by simp [B, ByteArray.size]
theorem B_toList (l : List UInt8) : (B l).toList = l := by unfold B; exact ByteArray.toList_mk l
theorem B_inj {l m : List UInt8} (h : B l = B m) : l = m := by have := congrArg (fun s => s.data.toList) h; simpa [B] using this
theorem B_append (l m : List UInt8) : B l ++ B m = B (l ++ m) := ByteArray.mk_append_mk l m
theorem B_extract (l : List UInt8) (a b : Nat) : (B l).extract a b = B ((l.drop a).take (b - a)) := ByteArray.extract_mk l a b
theorem wrap64_in' (n : Int) (h0 : -9223372036854775808 ≤ n) (h1 : n < 9223372036854775808) : wrap64 n = n := by unfold wrap64; omega
end Go.Proofs.Ytnhgakmnkpjpdaa

/- Plain lemmas on numbers in eight bytes, and bits of 64-bit numbers. No condition beyond each lemma's own. -/
set_option linter.unusedVariables false
set_option linter.unusedSimpArgs false
namespace Go.Proofs.Ytnhgakmnkpjpdaa
open Go Go.RowKit

/-- The number of the first j of some bytes, the lowest first. -/
def leNum (f : Nat → UInt8) : Nat → Nat
  | 0 => 0
  | j + 1 => leNum f j + (f j).toNat * 256 ^ j
theorem leNum_lt (f : Nat → UInt8) : ∀ j, leNum f j < 256 ^ j
  | 0 => by simp [leNum]
  | j + 1 => by
    have h := leNum_lt f j
    have hb := (f j).toNat_lt
    rw [leNum, Nat.pow_succ]
    have : (f j).toNat * 256 ^ j ≤ 255 * 256 ^ j := Nat.mul_le_mul_right _ (by omega)
    omega
theorem pow256 (j : Nat) : (256 : Nat) ^ j = 2 ^ (8 * j) := by rw [Nat.pow_mul]
theorem u64w (n : Int) (h0 : 0 ≤ n) (h1 : n < 18446744073709551616) : IntKind.u64.wrap n = n := by
  have e : IntKind.u64.wrap n = n % 18446744073709551616 := by simp [IntKind.wrap, IntKind.bits, IntKind.signed]
  rw [e]
  exact Int.emod_eq_of_lt h0 h1
theorem le256 (j : Nat) (hj : j ≤ 8) : 256 ^ j ≤ 18446744073709551616 := by
  have : (256 : Nat) ^ j ≤ 256 ^ 8 := Nat.pow_le_pow_right (by decide) hj
  exact Nat.le_trans this (by decide)
/-- One round of 'number'. -/
theorem le_round (f : Nat → UInt8) (j : Nat) (hj : j < 8) (b : UInt8) (hb : f j = b) :
    bits BinOp.or IntKind.u64 (leNum f j : Nat) (IntKind.u64.wrap (IntKind.u64.wrap (b.toNat : Nat) * 2 ^ (8 * j))) = ((leNum f (j + 1) : Nat) : Int) := by
  have h1 := leNum_lt f j
  have h2 := leNum_lt f (j + 1)
  have h3 := le256 j (by omega)
  have h4 := le256 (j + 1) (by omega)
  have hbl := b.toNat_lt
  have e1 : IntKind.u64.wrap ((b.toNat : Nat) : Int) = b.toNat := u64w _ (by omega) (by omega)
  have e2 : ((b.toNat : Int) * 2 ^ (8 * j)) = ((b.toNat * 256 ^ j : Nat) : Int) := by rw [pow256, Int.natCast_mul, Int.natCast_pow]; rfl
  have hle : b.toNat * 256 ^ j < 18446744073709551616 := by
    rw [leNum, hb] at h2
    omega
  rw [e1, e2, u64w _ (by omega) (by omega), u64_or_nat _ _ (by omega) hle]
  congr 1
  rw [Nat.or_comm, nat_join (8 * j) _ _ (by rw [pow256]; exact Nat.mul_mod_left _ _) (by rw [← pow256]; exact h1), leNum, hb]
  omega
end Go.Proofs.Ytnhgakmnkpjpdaa

/- Numbers as bytes of the package tally, plain. -/
namespace Go.Proofs.Ytnhgakmnkpjpdaa
/-- The bytes ahead: of the number a less one, all of them at least 128; none for 0. -/
def hA (a : Nat) : List UInt8 := if a = 0 then [] else hA ((a - 1) / 128) ++ [UInt8.ofNat (128 + (a - 1) % 128)]
termination_by a
decreasing_by exact Nat.lt_of_le_of_lt (Nat.div_le_self _ _) (by omega)
theorem hA_zero : hA 0 = [] := by rw [hA]; rfl
theorem hA_pos {a : Nat} (h : a ≠ 0) : hA a = hA ((a - 1) / 128) ++ [UInt8.ofNat (128 + (a - 1) % 128)] := by rw [hA, if_neg h]
/-- A number's bytes. -/
def tnum (n : Nat) : List UInt8 := hA (n / 128) ++ [UInt8.ofNat (n % 128)]
def edge : Nat := 144115188075855872
/-- What is taken: a is one more than what was read, 0 at the start. -/
def tk (a : Nat) : List UInt8 → Option (Nat × List UInt8)
  | [] => none
  | c :: l => if edge ≤ a then none else if c.toNat < 128 then some (128 * a + c.toNat, l) else tk (128 * a + c.toNat % 128 + 1) l
def takeN (l : List UInt8) : Option (Nat × List UInt8) := tk 0 l
theorem tk_hA (a : Nat) (ha : a ≤ edge) (rest : List UInt8) : tk 0 (hA a ++ rest) = tk a rest := by
  induction a using Nat.strongRecOn generalizing rest with
  | ind a ih =>
    by_cases h : a = 0
    · subst h; rw [hA_zero]; rfl
    · have hl : (a - 1) / 128 < a := Nat.lt_of_le_of_lt (Nat.div_le_self _ _) (by omega)
      rw [hA_pos h, List.append_assoc, ih _ hl (by omega), List.singleton_append, tk, if_neg (by unfold edge at *; omega), UInt8.toNat_ofNat', if_neg (by omega)]
      congr 1
      omega
theorem takeN_tnum (n : Nat) (hn : n < 18446744073709551616) (rest : List UInt8) : takeN (tnum n ++ rest) = some (n, rest) := by
  unfold takeN tnum
  rw [List.append_assoc, tk_hA _ (by unfold edge; omega), List.singleton_append, tk, if_neg (by unfold edge; omega), UInt8.toNat_ofNat', if_pos (by omega)]
  congr 2
  omega
theorem tk_once (l : List UInt8) : ∀ a n r, tk a l = some (n, r) → n < 18446744073709551616 ∧ hA a ++ l = tnum n ++ r := by
  induction l with
  | nil => intro a n r h; cases h
  | cons c l ih =>
    intro a n r h
    rw [tk] at h
    by_cases he : edge ≤ a
    · rw [if_pos he] at h; cases h
    · rw [if_neg he] at h
      have hc := c.toNat_lt
      by_cases h8 : c.toNat < 128
      · rw [if_pos h8] at h
        obtain ⟨rfl, rfl⟩ := Prod.mk.inj (Option.some.inj h)
        refine ⟨by unfold edge at he; omega, ?_⟩
        unfold tnum
        rw [show (128 * a + c.toNat) / 128 = a by omega, show (128 * a + c.toNat) % 128 = c.toNat by omega, List.append_assoc, List.singleton_append, UInt8.ofNat_toNat]
      · rw [if_neg h8] at h
        obtain ⟨h1, h2⟩ := ih _ _ _ h
        refine ⟨h1, ?_⟩
        rw [← h2, hA_pos (a := 128 * a + c.toNat % 128 + 1) (by omega), List.append_assoc, List.singleton_append]
        rw [show (128 * a + c.toNat % 128 + 1 - 1) / 128 = a by omega, show 128 + (128 * a + c.toNat % 128 + 1 - 1) % 128 = c.toNat by omega, UInt8.ofNat_toNat]
theorem takeN_once {l : List UInt8} {n : Nat} {r : List UInt8} (h : takeN l = some (n, r)) : n < 18446744073709551616 ∧ l = tnum n ++ r := by
  obtain ⟨h1, h2⟩ := tk_once l 0 n r h
  rw [hA_zero] at h2
  exact ⟨h1, h2⟩
theorem tnum_length_pos (n : Nat) : 0 < (tnum n).length := by unfold tnum; simp
/-- The number that bytes ahead say, and one more. -/
def vA (a : Nat) : List UInt8 → Nat
  | [] => a
  | c :: l => vA (128 * a + c.toNat % 128 + 1) l
theorem vA_snoc (l : List UInt8) (c : UInt8) : ∀ a, vA a (l ++ [c]) = 128 * vA a l + c.toNat % 128 + 1 := by
  induction l with
  | nil => intro a; rfl
  | cons d l ih => intro a; exact ih _
theorem vA_hA (a : Nat) : vA 0 (hA a) = a := by
  induction a using Nat.strongRecOn with
  | ind a ih =>
    by_cases h : a = 0
    · subst h; rw [hA_zero]; rfl
    · have hl : (a - 1) / 128 < a := Nat.lt_of_le_of_lt (Nat.div_le_self _ _) (by omega)
      rw [hA_pos h, vA_snoc, ih _ hl, UInt8.toNat_ofNat']
      omega
theorem vA_pow (l : List UInt8) : ∀ a, a * 128 ^ l.length ≤ vA a l := by
  induction l with
  | nil => intro a; simp [vA]
  | cons c l ih =>
    intro a
    refine Nat.le_trans ?_ (ih _)
    rw [List.length_cons, Nat.pow_succ, Nat.mul_comm (128 ^ l.length) 128, ← Nat.mul_assoc]
    exact Nat.mul_le_mul_right _ (by omega)
theorem tk_edge (a : Nat) (l : List UInt8) (h : edge ≤ a) : tk a l = none := by
  cases l with
  | nil => rfl
  | cons c l => rw [tk, if_pos h]
end Go.Proofs.Ytnhgakmnkpjpdaa

/- General laws, over any program, on whole arrays in memory: alloc, box, load, store of a row; copy of a string's bytes into a row; a row's bytes as a string. No condition beyond each law's own. -/
set_option linter.unusedVariables false
set_option linter.unusedSimpArgs false
namespace Go.Proofs.Ytnhgakmnkpjpdaa
open Go Go.RowKit

theorem hid {p : Prop} (h : p) : Hid p := h
/-- A number's byte as a cell. -/
def cb (b : UInt8) : Value := .int .u8 b.toNat
/-- Bytes as cells. -/
def cells8 (l : List UInt8) : Array Value := (l.map cb).toArray
theorem cells8_size (l : List UInt8) : (cells8 l).size = l.length := by simp [cells8]
theorem cells8_get (l : List UInt8) (i : Nat) : (cells8 l)[i]? = l[i]?.map cb := by simp [cells8]
theorem cells8_toList (l : List UInt8) : (cells8 l).toList = l.map cb := by simp [cells8]
theorem cb_one (l : List UInt8) : ∀ v ∈ l.map cb, v.oneCell' = true := by
  intro v hv
  obtain ⟨b, _, rfl⟩ := List.mem_map.1 hv
  rfl
theorem cells8_set (l : List UInt8) (i : Nat) (b : UInt8) : (cells8 l).setIfInBounds i (cb b) = cells8 (l.set i b) := by
  simp [cells8, List.map_set]
/-- Sixty-four bytes 0, behind a name. -/
def z64 : List UInt8 := List.replicate 64 0
theorem z64_length : z64.length = 64 := rfl

/-- w' is w with one block more. -/
structure New (w w' : World) (ob : Obj) : Prop where
  os : w'.os = w.os
  tape : w'.tape = w.tape
  output : w'.output = w.output
  size : w'.heap.size = w.heap.size + 1
  at_ : w'.heap[w.heap.size]? = some ob
  old : ∀ k, k < w.heap.size → w'.heap[k]? = w.heap[k]?
theorem New.alloc (w : World) (ob : Obj) : New w (w.alloc ob) ob :=
  ⟨rfl, rfl, rfl, by simp, heap_alloc_new w ob, fun k hk => Below.heap_alloc w ob k hk⟩
theorem New.below {w w' : World} {ob : Obj} (h : New w w' ob) : Below w.heap.size w w' := ⟨h.os, h.tape, h.output, by have := h.size; omega, h.old⟩
/-- w' is w, but that block g holds something else. -/
structure Upd (w w' : World) (g : Nat) (ob : Obj) : Prop where
  os : w'.os = w.os
  tape : w'.tape = w.tape
  output : w'.output = w.output
  size : w'.heap.size = w.heap.size
  at_ : w'.heap[g]? = some ob
  other : ∀ k, k ≠ g → w'.heap[k]? = w.heap[k]?
theorem Upd.setRow (w : World) (g : Nat) (cs old : Array Value) (t : TypeId) (fr : Nat × Nat) (hg : w.heap[g]? = some (.cells old t fr)) : Upd w (w.setRow g cs) g (.cells cs t fr) :=
  ⟨rfl, rfl, rfl, size_setRow _ _ _, setRow_heap w g old cs t fr hg, fun k hk => setRow_other w g k cs hk⟩
theorem Upd.below {w w' : World} {g : Nat} {ob : Obj} (h : Upd w w' g ob) (B : Nat) (hB : B ≤ g) : Below B w w' :=
  ⟨h.os, h.tape, h.output, by have := h.size; omega, fun k hk => h.other k (by omega)⟩

section
variable {P : Program} {w : World} {ops : Array Oper} {rest : List Oper} {o : Oper} {a : Act} {Q : Exit → Act → World → Prop}

theorem wpList_alloc_row (hgd : o.guard = none) (e : TypeId) (ho : o.op = .alloc e) (i : TypeInfo) (z : Value) (hi : P.info? e = some i) (hz : i.zero = some z) (vs : Array Value) (hv : z.cells = vs)
    (h : ∀ w', New w w' (.cells vs e (0, 0)) → wpList P ops Q rest (a.put o.dst (.pointer (some ⟨w.heap.size, 0, none⟩))) w') : wpList P ops Q (o :: rest) a w :=
  wpList_plain hgd fun K hK => by
    subst hv
    unfold Oper.wp execOp
    simp [ho, Instr.alloc, zeroValue, typeInfo, hi, hz, newVar, newRow, newObj, Result.andThen, Sem.run_bind]
    exact hK _ _ (h _ (New.alloc w _))

theorem wpList_box_row (hgd : o.guard = none) (e : TypeId) (x : Operand) (ho : o.op = .box e x) (vs : Array Value) (hv : (a.eval x).cells = vs)
    (h : ∀ w', New w w' (.cells vs e (0, 0)) → wpList P ops Q rest (a.put o.dst (.pointer (some ⟨w.heap.size, 0, none⟩))) w') : wpList P ops Q (o :: rest) a w :=
  wpList_plain hgd fun K hK => by
    subst hv
    unfold Oper.wp execOp
    simp [ho, Instr.box, newVar, newRow, newObj, Result.andThen, Sem.run_bind]
    exact hK _ _ (h _ (New.alloc w _))

theorem wpList_store_row (hgd : o.guard = none) (ty : TypeId) (x y : Operand) (ho : o.op = .store ty x y) (i : TypeInfo) (hi : P.info? ty = some i)
    (g : Nat) (hx : a.eval x = .pointer (some ⟨g, 0, none⟩)) (t : TypeId) (cs : Array Value) (hg : w.heap[g]? = some (.cells cs t (0, 0)))
    (vs : Array Value) (hy : (a.eval y).cells = vs) (hs : i.size = vs.size) (hc : vs.size = cs.size) (h1 : ∀ v ∈ vs.toList, v.oneCell' = true)
    (h : ∀ w', Upd w w' g (.cells vs t (0, 0)) → wpList P ops Q rest (a.put o.dst undef) w') : wpList P ops Q (o :: rest) a w :=
  wpList_plain hgd fun K hK => by
    have hst := run_storeCells_at P g 0 t vs.toList 0 cs w hg (by simp [hc]) h1
    have hl : ([] ++ vs.toList ++ cs.toList.drop vs.size).toArray = vs := by
      rw [List.drop_of_length_le (by simp [hc])]
      simp
    simp only [Nat.add_zero, List.take_zero, Nat.zero_add, Array.length_toList, hl] at hst
    unfold Oper.wp execOp
    simp [ho, hx, Instr.storeAt, Instr.sureAddr, storeVar, sizeOf, typeInfo, hi, hy, hs, Result.andThen, Sem.run_bind, hst]
    exact hK _ _ (h _ (Upd.setRow w g vs cs t (0, 0) hg))

/-- A row loaded by an operation that is guarded, its guard being met. -/
theorem wpList_load_row_g (hw : Region.wanted o (yielded ops a.tmps) = true) (ty : TypeId) (x : Operand) (ho : o.op = .load ty x)
    (g : Nat) (hx : a.eval x = .pointer (some ⟨g, 0, none⟩)) (t : TypeId) (cs : Array Value) (fr : Nat × Nat) (d : TypeDesc) (hg : w.heap[g]? = some (.cells cs t fr))
    (hu : P.underlying ty = some d) (hd : (match d with | .struct _ | .array _ _ => true | _ => false) = true) (hi : (P.info? ty).map (·.size) = some cs.size)
    (h : wpList P ops Q rest (a.put o.dst (.agg cs)) w) : wpList P ops Q (o :: rest) a w :=
  wpList_step fun _ hK => by
    rw [if_pos hw]
    exact wp_load_row ty x ho g hx t cs fr d hg hu hd hi (hK _ _ h)

theorem wpList_copy_string (hgd : o.guard = none) (x y : Operand) (t t2 : TypeId) (ho : o.op = .call { callee := .builtin .copy, args := #[x, y], argTypes := #[t, t2] })
    (e : TypeId) (ht : P.underlying t = some (.slice e)) (i : TypeInfo) (hi : P.info? e = some i) (hsz : i.size = 1)
    (g off n c : Nat) (hx : a.eval x = .slice (some ⟨g, off, none⟩) n c) (s : ByteArray) (hy : a.eval y = .string s)
    (te : TypeId) (cs : Array Value) (hg : w.heap[g]? = some (.cells cs te (0, 0))) (hb : off + n ≤ cs.size)
    (h : ∀ w', Upd w w' g (.cells (cs.toList.take off ++ (s.data.toList.take n).map cb ++ cs.toList.drop (off + Nat.min s.size n)).toArray te (0, 0)) → wpList P ops Q rest (a.put o.dst (goInt (Nat.min s.size n))) w') : wpList P ops Q (o :: rest) a w :=
  wpList_plain hgd fun K hK => by
    have hlen : ((s.data.toList.take n).map cb).length = Nat.min s.size n := by
      simp only [List.length_map, List.length_take, Array.length_toList]
      exact Nat.min_comm _ _
    have hst := run_storeCells_at P g off te ((s.data.toList.take n).map cb) 0 cs w hg (by rw [hlen]; have : Nat.min s.size n ≤ n := Nat.min_le_right _ _; omega) (cb_one _)
    simp only [Nat.add_zero, hlen] at hst
    have hn : s.data.toList.length = s.size := Array.length_toList
    have hd : (s.data.toList.take n).map cb = List.take (Nat.min s.size n) (Array.map (fun b => Value.int .u8 b.toNat) s.data).toList := by
      rw [Array.toList_map, List.map_take]
      have e : List.map cb s.data.toList = List.map (fun b => Value.int .u8 b.toNat) s.data.toList := rfl
      rw [e]
      by_cases hh : s.size ≤ n
      · rw [show Nat.min s.size n = s.size from Nat.min_eq_left hh, List.take_of_length_le (by simp; omega), List.take_of_length_le (by simp)]
      · rw [show Nat.min s.size n = n from Nat.min_eq_right (by omega)]
    have hrun : (Builtin.copy_ #[t, t2] o.type #[.slice (some ⟨g, off, none⟩) n c, .string s]).run P w = .ok (goInt (Nat.min s.size n)) (w.setRow g (cs.toList.take off ++ (s.data.toList.take n).map cb ++ cs.toList.drop (off + Nat.min s.size n)).toArray) := by
      rw [hd] at hst ⊢
      simp [Builtin.copy_, run_underlying ht, Builtin.lenOf, Builtin.firstCells, sizeOf, typeInfo, hi, hsz, hst, -Array.toList_map]
    unfold Oper.wp execOp
    simp only [ho, resolve, invoke, builtin, Sem.run_bind, Sem.run_pure, Result.andThen_ok, List.map_toArray, List.map_cons, List.map_nil, hx, hy, hrun]
    exact hK _ _ (h _ (Upd.setRow w g _ cs te (0, 0) hg))

/-- 'string(b)': a row's bytes as a string. -/
theorem wpList_convert_back (hgd : o.guard = none) (src dst : TypeId) (x : Operand) (ho : o.op = .convert src dst x) (e : TypeId) (hs : P.underlying src = some (.slice e)) (he : P.underlying e = some (.int .u8)) (hd : P.underlying dst = some .string)
    (g off c : Nat) (l : List UInt8) (n : Nat) (hn : n = l.length) (hx : a.eval x = .slice (some ⟨g, off, none⟩) n c) (t : TypeId) (cs : Array Value) (fr : Nat × Nat) (hg : w.heap[g]? = some (.cells cs t fr))
    (hc : ∀ j, j < l.length → cs[off + j]? = some (cb (l.getD j 0)))
    (h : wpList P ops Q rest (a.put o.dst (.string ⟨l.toArray⟩)) w) : wpList P ops Q (o :: rest) a w :=
  wpList_plain hgd fun K hK => by
    subst hn
    have hadd : ∀ m : Nat, (⟨g, off, none⟩ : Addr).add m = ⟨g, off + m, none⟩ := fun m => by unfold Addr.add; split <;> simp_all
    have hrun := run_convert_bytes_back (P := P) w src dst e ⟨g, off, none⟩ c l hs he hd (by
      intro j hj
      rw [hadd, cell_of_row w g (off + j) cs t fr hg, hc j hj]
      simp [cb, List.getD_eq_getElem?_getD, List.getElem?_eq_getElem hj])
    unfold Oper.wp execOp
    simp only [ho, hx, Sem.run_bind, hrun, Result.andThen_ok, Sem.run_pure]
    exact hK _ _ h
end

/-! A region that draws its order, all of whose operations are quiet in a class of worlds of one's own. -/
section
variable {P : Program} {ops : Array Oper} {C : World → Prop} {Q : Act → Prop} {rest : List Oper} {o : Oper} {a : Act}
theorem wpQuiet_val (hgd : o.guard = none) (v : Value) (hrun : ∀ w, C w → (execOp a.eval o).run P w = .ok (.value v) w) (h : wpQuiet P ops C Q rest (a.put o.dst v)) : wpQuiet P ops C Q (o :: rest) a :=
  wpQuiet_step fun K hK => by
    rw [if_pos (by simp [Region.wanted, hgd])]
    refine ⟨v, fun w hw => ?_, hK _ h⟩
    unfold Oper.quietAt
    rw [hrun w hw]
    exact ⟨rfl, rfl⟩
theorem wpQuiet_move (hgd : o.guard = none) (x : Operand) (v : Value) (ho : o.op = .move x ∨ o.op = .assign x) (hx : a.eval x = v) (h : wpQuiet P ops C Q rest (a.put o.dst v)) : wpQuiet P ops C Q (o :: rest) a :=
  wpQuiet_val hgd v (fun w _ => by subst hx; unfold execOp; rcases ho with ho | ho <;> simp [ho]) h
theorem wpQuiet_load_row (hgd : o.guard = none) (ty : TypeId) (x : Operand) (ho : o.op = .load ty x) (g : Nat) (hx : a.eval x = .pointer (some ⟨g, 0, none⟩)) (t : TypeId) (cs : Array Value) (fr : Nat × Nat) (d : TypeDesc)
    (hg : ∀ w, C w → w.heap[g]? = some (.cells cs t fr)) (hu : P.underlying ty = some d) (hd : (match d with | .struct _ | .array _ _ => true | _ => false) = true) (hi : (P.info? ty).map (·.size) = some cs.size)
    (h : wpQuiet P ops C Q rest (a.put o.dst (.agg cs))) : wpQuiet P ops C Q (o :: rest) a :=
  wpQuiet_val hgd _ (fun w hw => by
    unfold execOp
    simp only [ho, hx, Instr.loadAt, Instr.sureAddr, Sem.run_bind, Sem.run_pure, Result.andThen_ok, run_loadVar_row w g t ty cs fr d (hg w hw) hu hd hi]) h
theorem wpQuiet_call (hgd : o.guard = none) (f : FuncId) (args : Array Value) (v : Value) (hrun : ∀ w, (execOp a.eval o).run P w = .ok (.enter f args) w)
    (hc : ∀ w, C w → Calls P f args w fun e w'' => e = .returned v ∧ C w'') (h : wpQuiet P ops C Q rest (a.put o.dst v)) : wpQuiet P ops C Q (o :: rest) a :=
  wpQuiet_step fun K hK => by
    rw [if_pos (by simp [Region.wanted, hgd])]
    refine ⟨v, fun w hw => ?_, hK _ h⟩
    unfold Oper.quietAt
    rw [hrun w]
    exact ⟨rfl, hc w hw⟩
end
end Go.Proofs.Ytnhgakmnkpjpdaa
