import Derived.Test.YtnhgakmnkpjpdaaD4
import Derived.Deep.RegionHeld3
import Derived.Deep.RegionLaw
import Derived.Deep.AppendLies
import Derived.RegionTactic
import Derived.Outline
/- A drive: Write$1: one sector written. -/
set_option maxRecDepth 100000
set_option linter.unusedVariables false
set_option linter.unusedSimpArgs false
namespace Go.Proofs.Ytnhgakmnkpjpdaa
open Go Go.RowKit Go.Proofs.YtnhgakmnkpjpdaaW.PrintWords Go.Proofs.YtnhgakmnkpjpdaaW.PrintLast Go.Proofs.YtnhgakmnkpjpdaaW.PrintMore
attribute [local go_sem] Oper.semAt_some max2_int min2_int max_two min_two max_three min_three max_four min_four
theorem setCells_upd (b : Nat) (t : TypeId) : ∀ (vs : List Value) (o : Nat) (w : World) (cs : Array Value), w.heap[b]? = some (.cells cs t (0, 0)) → o + vs.length ≤ cs.size →
    Upd w (w.setCells b o vs) b (.cells (cs.toList.take o ++ vs ++ cs.toList.drop (o + vs.length)).toArray t (0, 0)) := by
  intro vs
  induction vs with
  | nil =>
    intro o w cs hg ho
    refine ⟨rfl, rfl, rfl, rfl, ?_, fun _ _ => rfl⟩
    show w.heap[b]? = _
    rw [hg]; simp
  | cons v vs ih =>
    intro o w cs hg ho
    rw [List.length_cons] at ho
    have u := ih (o + 1) (w.setCell ⟨b, o, none⟩ v) (cs.setIfInBounds o v) (setCell_at hg o v) (by simp; omega)
    refine ⟨u.os, u.tape, u.output, u.size.trans (by simp [World.setCell]), ?_, fun k hk => (u.other k hk).trans (heap_setCell_other _ _ _ _ hk)⟩
    refine u.at_.trans ?_
    congr 3
    have e : (cs.setIfInBounds o v).toList = cs.toList.take o ++ v :: cs.toList.drop (o + 1) := by
      rw [Array.toList_setIfInBounds, List.set_eq_take_append_cons_drop, if_pos (by simp; omega)]
    have hlo : (cs.toList.take o).length = o := by rw [List.length_take, Array.length_toList]; omega
    rw [e, List.length_cons]
    have e1 : (cs.toList.take o ++ v :: cs.toList.drop (o + 1)).take (o + 1) = cs.toList.take o ++ [v] := by
      rw [List.take_append, hlo, List.take_of_length_le (by omega), Nat.add_sub_cancel_left]; rfl
    have e2 : (cs.toList.take o ++ v :: cs.toList.drop (o + 1)).drop (o + 1 + vs.length) = cs.toList.drop (o + (vs.length + 1)) := by
      rw [List.drop_append, hlo, List.drop_of_length_le (by omega), List.nil_append, show o + 1 + vs.length - o = vs.length + 1 by omega, List.drop_succ_cons, List.drop_drop]
      congr 1; omega
    rw [e1, e2]
    simp
theorem flat_take {α : Type} (f : α → List Value) (n : Nat) (l : List α) (hf : ∀ x ∈ l, (f x).length = n) (i : Nat) : (l.flatMap f).take (i * n) = (l.take i).flatMap f := by
  induction i generalizing l with
  | zero => simp
  | succ i ih =>
    cases l with
    | nil => simp
    | cons x r =>
      have hx := hf x (by simp)
      rw [List.flatMap_cons, List.take_append, hx, List.take_of_length_le (by rw [hx, Nat.succ_mul]; omega), show (i + 1) * n - n = i * n by rw [Nat.succ_mul]; omega, ih r (fun y hy => hf y (List.mem_cons_of_mem _ hy))]
      rfl
theorem flat_set {α : Type} (f : α → List Value) (n : Nat) (l : List α) (hf : ∀ x ∈ l, (f x).length = n) (i : Nat) (x : α) (hi : i < l.length) :
    (l.set i x).flatMap f = (l.flatMap f).take (i * n) ++ f x ++ (l.flatMap f).drop (i * n + n) := by
  rw [List.set_eq_take_append_cons_drop, if_pos hi, List.flatMap_append, List.flatMap_cons, flat_take f n l hf, show i * n + n = (i + 1) * n by rw [Nat.succ_mul], flat_drop f n l hf, List.append_assoc]
theorem own_set {α : Type} (f : α → List Value) (n : Nat) {cur : List Value} {l : List α} (hx : cur.take (l.length * n) = l.flatMap f) (hf : ∀ x ∈ l, (f x).length = n) (i : Nat) (x : α) (hi : i < l.length) (hfx : (f x).length = n) :
    (cur.take (i * n) ++ f x ++ cur.drop (i * n + n)).take (l.length * n) = (l.set i x).flatMap f := by
  have hn : (i + 1) * n ≤ l.length * n := Nat.mul_le_mul_right _ hi
  rw [Nat.succ_mul] at hn
  have hlen := flat_length f n l hf
  have hs := flat_set f n l hf i x hi
  have e1 : cur.take (i * n) = (l.flatMap f).take (i * n) := by rw [← hx, List.take_take, Nat.min_eq_left (by omega)]
  have e2 : cur.drop (i * n + n) = (l.flatMap f).drop (i * n + n) ++ cur.drop (l.length * n) := by
    conv => lhs; rw [← List.take_append_drop (l.length * n) cur]
    rw [hx, List.drop_append_of_le_length (by omega)]
  have hf' : ∀ y ∈ l.set i x, (f y).length = n := by
    intro y hy
    rcases List.mem_or_eq_of_mem_set hy with h | h
    · exact hf y h
    · rw [h]; exact hfx
  have hlen' := flat_length f n _ hf'
  rw [List.length_set] at hlen'
  rw [e1, e2, ← List.append_assoc, ← hs, List.take_append_of_le_length (by omega), List.take_of_length_le (by omega)]
/-- A string as a sector. -/
def padS (t : ByteArray) : List UInt8 := t.data.toList.take 64 ++ List.replicate (64 - t.data.toList.length) 0
theorem padS_length (t : ByteArray) : (padS t).length = 64 := by unfold padS; simp; omega
def writeS (s : DS) (n : Nat) (L : List UInt8) : DS := { s with now := s.now.set n L, opn := s.opn ++ [(n, L)] }
theorem fold_fill (L : List Value) : ∀ (k : Nat) (Z : Array Value), k + L.length ≤ Z.size →
    (L.zipIdx k).foldl (fun (cs : Array Value) (x : Value × Nat) => cs.setIfInBounds (0 + x.2) x.1) Z = (Z.toList.take k ++ L ++ Z.toList.drop (k + L.length)).toArray := by
  induction L with
  | nil => intro k Z h; simp
  | cons v L ih =>
    intro k Z h
    rw [List.length_cons] at h
    rw [List.zipIdx_cons, List.foldl_cons, Nat.zero_add, ih (k + 1) _ (by simp; omega)]
    have e : (Z.setIfInBounds k v).toList = Z.toList.take k ++ v :: Z.toList.drop (k + 1) := by
      rw [Array.toList_setIfInBounds, List.set_eq_take_append_cons_drop, if_pos (by simp; omega)]
    have hlo : (Z.toList.take k).length = k := by rw [List.length_take, Array.length_toList]; omega
    rw [e, List.length_cons]
    have e1 : (Z.toList.take k ++ v :: Z.toList.drop (k + 1)).take (k + 1) = Z.toList.take k ++ [v] := by
      rw [List.take_append, hlo, List.take_of_length_le (by omega), Nat.add_sub_cancel_left]; rfl
    have e2 : (Z.toList.take k ++ v :: Z.toList.drop (k + 1)).drop (k + 1 + L.length) = Z.toList.drop (k + (L.length + 1)) := by
      rw [List.drop_append, hlo, List.drop_of_length_le (by omega), List.nil_append, show k + 1 + L.length - k = L.length + 1 by omega, List.drop_succ_cons, List.drop_drop]
      congr 1; omega
    rw [e1, e2]
    simp
theorem fill_whole (cs : List Value) (Z : Array Value) (n : Nat) (hl : cs.length = n) (hz : Z.size = n) (place : Nat → Option (Nat × Nat)) (hp : place 0 = some (0, n)) : Instr.fill place Z [(0, .agg cs.toArray)] = some cs.toArray := by
  have e : (Value.agg cs.toArray).cells = cs.toArray := rfl
  rw [Instr.fill, hp]
  simp only [e]
  rw [if_neg (by simp; omega), Instr.fill]
  congr 1
  have h := fold_fill cs 0 Z (by omega)
  rw [Nat.zero_add, List.take_zero, List.nil_append, List.drop_of_length_le (by simp; omega), List.append_nil] at h
  refine Eq.trans ?_ h
  rw [← Array.foldl_toList]
  simp
theorem run_build67 (cs : List Value) (W : World) (hl : cs.length = 65) : (Instr.buildSlice 63 1 #[(0, .agg cs.toArray)]).run Try.prog W = .ok (.slice (some ⟨W.heap.size, 0, none⟩) 1 1) (W.alloc (.cells cs.toArray 72)) := by
  obtain ⟨ti, hti, htz, hts, -⟩ := info_three info67
  have hz : (zeroValue 72).run Try.prog W = .ok (.agg (wrC (0, z64)).toArray) W := by simp [zeroValue, typeInfo, hti, htz, Sem.run_bind]
  have hu : (underlying 63).run Try.prog W = .ok (.slice 72) W := run_underlying Try.underlying63 W
  have hs : (Go.sizeOf 72).run Try.prog W = .ok 65 W := by simp [Go.sizeOf, typeInfo, hti, hts, Sem.run_bind]
  unfold Instr.buildSlice
  rw [Sem.run_bind, hu]
  simp only [Result.andThen_ok]
  rw [Sem.run_bind, hs]
  simp only [Result.andThen_ok]
  simp [Sem.run_bind, hz]
  rw [fill_whole cs _ 65 hl (by simp) _ (by simp)]
  simp [newRow, newObj, Sem.run_bind]
  rfl
/-- 'xs[:1]' of one write, as append takes it; kept from being taken apart. -/
@[irreducible] def build67 (v : Value) : Sem Next := do pure (.value (← Instr.buildSlice 63 1 #[(0, v)]))
theorem exec_build67 (ev : Operand → Value) (dst : Option Tmp) (x : Operand) (ty : TypeId) (pos : String) (after : Array Edge) (g : Option (Nat × Bool)) : execOp ev ⟨dst, .buildSlice 63 1 #[(0, x)], ty, pos, after, g⟩ = build67 (ev x) := by
  unfold build67 execOp; simp
theorem run_build67' (cs : List Value) (W : World) (hl : cs.length = 65) : (build67 (.agg cs.toArray)).run Try.prog W = .ok (.value (.slice (some ⟨W.heap.size, 0, none⟩) 1 1)) (W.alloc (.cells cs.toArray 72)) := by
  unfold build67
  rw [Sem.run_bind, run_build67 cs W hl]
  rfl
/-- A load of a whole open write, kept from being taken apart. -/
@[irreducible] def load67 (v : Value) : Sem Next := do pure (.value (← Instr.loadAt 72 v))
theorem exec_load67 (ev : Operand → Value) (dst : Option Tmp) (x : Operand) (ty : TypeId) (pos : String) (after : Array Edge) (g : Option (Nat × Bool)) : execOp ev ⟨dst, .load 72 x, ty, pos, after, g⟩ = load67 (ev x) := by
  unfold load67 execOp; rfl
theorem run_load67 (W : World) (b : Nat) (cs : List Value) (hc : W.rangeAt b 0 cs) (hl : cs.length = 65) : (load67 (.pointer (some ⟨b, 0, none⟩))).run Try.prog W = .ok (.value (.agg cs.toArray)) W := by
  unfold load67
  rw [Sem.run_bind, run_loadAt_mid W b 0 72 cs _ hc Try.underlying72 rfl (by rw [hl]; kernel_rfl)]
  rfl
section
variable {w : World} {ops : Array Oper} {rest : List Oper} {o : Oper} {a : Act} {Q : Exit → Act → World → Prop}
theorem wpList_build_write (hgd : o.guard = none) (x : Operand) (ho : o.op = .build 72 #[(0, x)]) (n : Nat) (hx : a.eval x = .int .i64 (n : Int))
    (h : wpList Try.prog ops Q rest (a.put o.dst (.agg (wrC (n, z64)).toArray)) w) : wpList Try.prog ops Q (o :: rest) a w :=
  wpList_plain hgd fun K hK => by
    obtain ⟨ti, hti, htz, hts, -⟩ := info_three info67
    have hz : (zeroValue 72).run Try.prog w = .ok (.agg (wrC (0, z64)).toArray) w := by simp [zeroValue, typeInfo, hti, htz, Sem.run_bind]
    unfold Oper.wp execOp
    simp [ho, hx, hz, Instr.build, Result.andThen, Sem.run_bind, wrC]
    exact hK _ _ h
end
theorem wrC_one (n : Nat) (L : List UInt8) : ∀ v ∈ wrC (n, L), v.oneCell' = true := by
  intro v hv
  unfold wrC at hv
  rcases List.mem_cons.1 hv with rfl | h
  · rfl
  · exact cb_one L v h
theorem wrC_length (n : Nat) (L : List UInt8) (h : L.length = 64) : (wrC (n, L)).length = 65 := by unfold wrC; simp [h]
theorem pad_cells (n : Nat) (t : ByteArray) : ((wrC (n, z64)).toArray.toList.take 1 ++ (t.data.toList.take 64).map cb ++ (wrC (n, z64)).toArray.toList.drop (1 + Nat.min t.size 64)).toArray = (wrC (n, padS t)).toArray := by
  have hs : t.data.toList.length = t.size := Array.length_toList
  congr 1
  unfold wrC padS
  have e : Nat.min t.size 64 = min t.data.toList.length 64 := by rw [hs]
  rw [List.toList_toArray, e, Nat.add_comm 1]
  show [Value.int .i64 ((n : Nat) : Int)] ++ _ ++ ((z64.map cb).drop _) = _
  rw [← List.map_drop, List.map_append]
  have e2 : z64.drop (min t.data.toList.length 64) = List.replicate (64 - t.data.toList.length) 0 := by
    unfold z64
    rw [List.drop_replicate]
    congr 1
    omega
  rw [e2]
  rfl
/-- One sector of what is seen. -/
theorem Drv.stored {base : Nat} {w w4 : World} {d : DV} {s : DS} (h : Drv base w d s) {gn cn : Nat} {curn : Array Value} (hvn : d.vn = .slice (some ⟨gn, 0, none⟩) s.now.length cn)
    (hbn : base ≤ gn) (hcn : s.now.length ≤ cn) (hmn : cn ≤ maxLen) (hsz : curn.size = cn * 64) (hxn : curn.toList.take (s.now.length * 64) = rowC s.now) (n : Nat) (hn : n < s.now.length) (L : List UInt8) (hL : L.length = 64)
    (u : Upd w w4 gn (.cells (curn.toList.take (n * 64) ++ L.map cb ++ curn.toList.drop (n * 64 + (L.map cb).length)).toArray 70 (0, 0))) :
    Drv base w4 d { s with now := s.now.set n L } := by
  obtain ⟨gs, caps, curs, hvs, -⟩ := ownsRow_slice h.sure (by have := h.len; omega)
  obtain ⟨n1, n2, n3, n4, n5, m1, m2, m3⟩ := h.ne hvn hvs
  have ho : Only [gn] w w4 := .of_upd u (by simp)
  have hset := own_set (fun s => s.map cb) 64 hxn (fun x hx => by rw [List.length_map]; exact h.secN x hx) n L hn (by rw [List.length_map]; exact hL)
  have hmem : ∀ x ∈ s.now.set n L, x.length = 64 := by
    intro y hy
    rcases List.mem_or_eq_of_mem_set hy with h' | h'
    · exact h.secN y h'
    · rw [h']; exact hL
  rw [List.length_map, hL] at u
  refine ⟨h.hD, (u.other _ n1).trans h.obj, ?_, ownsRow_kept h.sure ho (fun k hk e => ?_), ownsRow_kept h.opn ho (fun k hk e => ?_), h.fuse.kept ho (fun k hk e => ?_), h.nodup, ?_, hmem, h.secS, ?_⟩
  · show w4.ownsRow base 70 64 d.vn (s.now.set n L).length (rowC (s.now.set n L))
    refine ⟨rowC_length _ hmem, .inr ⟨gn, cn, _, by rw [hvn, List.length_set], hbn, u.at_, by rw [List.length_set]; exact hcn, hmn, ?_, ?_⟩⟩
    · have e : ((curn.toList.take (n * 64) ++ L.map cb ++ curn.toList.drop (n * 64 + 64)).toArray).size = min (n * 64) curn.size + 64 + (curn.size - (n * 64 + 64)) := by simp [hL]; omega
      have : (n + 1) * 64 ≤ cn * 64 := Nat.mul_le_mul_right _ (by omega)
      rw [Nat.succ_mul] at this
      rw [e, hsz]
      omega
    · rw [List.toList_toArray, List.length_set]
      exact hset
  · rw [hvs] at hk; simp [Value.ownBlock] at hk e; omega
  · rw [List.mem_singleton] at e; exact (n4 k hk).2.1 e
  · rw [List.mem_singleton] at e; exact (n5 k hk).2.1 e
  · show s.sure.length = (s.now.set n L).length ∧ _
    rw [List.length_set]; exact h.len
  · intro x hx
    show x.1 < (s.now.set n L).length ∧ _
    rw [List.length_set]; exact h.wr x hx
theorem nodup_vo' {d : DV} (h : d.fp.Nodup) (v' : Value) (hv : ∀ k, k ∈ v'.ownBlock.toList → k ∈ d.vo.ownBlock.toList ∨ k ∉ d.fp) : ({ d with vo := v' } : DV).fp.Nodup := by
  unfold DV.fp at *
  show (d.D :: (d.vn.ownBlock.toList ++ (d.vs.ownBlock.toList ++ (v'.ownBlock.toList ++ d.fz.toList)))).Nodup
  obtain ⟨a1, a2⟩ := List.nodup_cons.1 h
  obtain ⟨b1, b2, b3⟩ := List.nodup_append.1 a2
  obtain ⟨c1, c2, c3⟩ := List.nodup_append.1 b2
  obtain ⟨d1, d2, d3⟩ := List.nodup_append.1 c2
  have key : ∀ k, k ∈ v'.ownBlock.toList → k ≠ d.D ∧ k ∉ d.vn.ownBlock.toList ∧ k ∉ d.vs.ownBlock.toList ∧ k ∉ d.fz.toList := by
    intro k hk
    rcases hv k hk with h1 | h1
    · refine ⟨fun e => a1 ?_, fun e => b3 k e k ?_ rfl, fun e => c3 k e k ?_ rfl, fun e => d3 k h1 k e rfl⟩
      · rw [← e]; simp [h1]
      · simp [h1]
      · simp [h1]
    · simp only [List.mem_cons, List.mem_append, not_or] at h1
      exact ⟨h1.1, h1.2.1, h1.2.2.1, h1.2.2.2.2⟩
  have hv1 : v'.ownBlock.toList.Nodup := by cases v'.ownBlock <;> simp
  refine List.nodup_cons.2 ⟨?_, List.nodup_append.2 ⟨b1, List.nodup_append.2 ⟨c1, List.nodup_append.2 ⟨hv1, d2, ?_⟩, ?_⟩, ?_⟩⟩
  · intro e
    simp only [List.mem_append] at e a1
    rcases e with e | e | e | e
    · exact a1 (.inl e)
    · exact a1 (.inr (.inl e))
    · exact (key _ e).1 rfl
    · exact a1 (.inr (.inr (.inr e)))
  · intro x hx y hy e; exact (key x hx).2.2.2 (e ▸ hy)
  · intro x hx y hy e
    rcases List.mem_append.1 hy with hy | hy
    · exact (key y hy).2.2.1 (e ▸ hx)
    · exact c3 x hx y (List.mem_append_right _ hy) e
  · intro x hx y hy e
    rcases List.mem_append.1 hy with hy | hy
    · exact b3 x hx y (List.mem_append_left _ hy) e
    rcases List.mem_append.1 hy with hy | hy
    · exact (key y hy).2.1 (e ▸ hx)
    · exact b3 x hx y (List.mem_append_right _ (List.mem_append_right _ hy)) e
/-- One open write more. -/
theorem Drv.wrote {base : Nat} {w4 wa w' : World} {d : DV} {s : DS} (h : Drv base w4 d s) (hoa : Only [] w4 wa) {g cap : Nat} {x : Nat × List UInt8} (ho : w'.ownsRow base 72 65 (.slice (some ⟨g, 0, none⟩) (s.opn.length + 1) cap) (s.opn.length + 1) (opnC s.opn ++ wrC x))
    (hg : wa.grownBy w' d.vo.ownBlock) (hlie : d.vo.ownBlock = some g ∨ w4.heap.size ≤ g) (hx : x.1 < s.now.length ∧ x.2.length = 64) :
    Drv base (w'.setCell ⟨d.D, 2, none⟩ (.slice (some ⟨g, 0, none⟩) (s.opn.length + 1) cap)) { d with vo := .slice (some ⟨g, 0, none⟩) (s.opn.length + 1) cap } { s with opn := s.opn ++ [x] } ∧
    Only d.fp w4 (w'.setCell ⟨d.D, 2, none⟩ (.slice (some ⟨g, 0, none⟩) (s.opn.length + 1) cap)) ∧ (∀ k, k ∈ ({ d with vo := .slice (some ⟨g, 0, none⟩) (s.opn.length + 1) cap } : DV).fp → k ∈ d.fp ∨ w4.heap.size ≤ k) := by
  obtain ⟨gn, capn, curn, hvn, -⟩ := ownsRow_slice h.now (by have := h.len; omega)
  obtain ⟨gs, caps, curs, hvs, -⟩ := ownsRow_slice h.sure (by have := h.len; omega)
  obtain ⟨n1, n2, n3, n4, n5, m1, m2, m3⟩ := h.ne hvn hvs
  have ho1 : Only d.vo.ownBlock.toList w4 w' := (hoa.mono (by simp)).trans (Only.of_grown (fp := d.vo.ownBlock.toList) hg (fun k e => by simp [e])) (fun _ h _ => h)
  have ho2 : Only (d.D :: d.vo.ownBlock.toList) w4 (w'.setCell ⟨d.D, 2, none⟩ (.slice (some ⟨g, 0, none⟩) (s.opn.length + 1) cap)) :=
    (ho1.mono (fun k hk => List.mem_cons_of_mem _ hk)).trans (Only.setCell (fp := [d.D]) _ _ _ (by simp)) (fun k hk _ => by rw [List.mem_singleton] at hk; rw [hk]; simp)
  have hD : d.D < w4.heap.size := (h.fp_lt d.D m3).2
  have hDv : d.D ∉ d.vo.ownBlock.toList := fun e => (n4 _ e).1 rfl
  have hobj : w'.heap[d.D]? = some (.cells #[d.vn, d.vs, d.vo, fzV d.fz] 66 (0, 0)) := (ho1.block _ hD hDv).trans h.obj
  have hgv : ∀ k, k ∈ (Value.slice (some ⟨g, 0, none⟩) (s.opn.length + 1) cap).ownBlock.toList → k ∈ d.vo.ownBlock.toList ∨ k ∉ d.fp := by
    intro k hk
    have : k = g := by simpa [Value.ownBlock, eq_comm] using hk
    subst this
    rcases hlie with e | e
    · left; rw [e]; simp
    · right; intro e2; have := (h.fp_lt _ e2).2; omega
  have hne : ∀ k, k ∈ d.fp → k ≠ d.D → k ∉ d.vo.ownBlock.toList → k ∉ d.D :: d.vo.ownBlock.toList := by
    intro k _ h1 h2 e
    rcases List.mem_cons.1 e with e | e
    · exact h1 e
    · exact h2 e
  have hgD : d.D ≠ g := by
    rintro rfl
    rcases hlie with e | e
    · exact hDv (by rw [e]; simp)
    · omega
  refine ⟨⟨h.hD, (setCell_at hobj 2 _).trans rfl, ?_, ?_, ?_, ?_, nodup_vo' h.nodup _ hgv, h.len, h.secN, h.secS, ?_⟩, ho2.mono ?_, ?_⟩
  · refine ownsRow_kept h.now ho2 (fun k hk => ?_)
    rw [hvn] at hk
    have : k = gn := by simpa [Value.ownBlock, eq_comm] using hk
    subst this
    exact hne _ m1 (Ne.symm n1) (fun e => (n4 _ e).2.1 rfl)
  · refine ownsRow_kept h.sure ho2 (fun k hk => ?_)
    rw [hvs] at hk
    have : k = gs := by simpa [Value.ownBlock, eq_comm] using hk
    subst this
    exact hne _ m2 (Ne.symm n2) (fun e => (n4 _ e).2.2 rfl)
  · show (w'.setCell _ _).ownsRow base 72 65 _ (s.opn ++ [x]).length (opnC (s.opn ++ [x]))
    have e1 : (s.opn ++ [x]).length = s.opn.length + 1 := by simp
    have e2 : opnC (s.opn ++ [x]) = opnC s.opn ++ wrC x := by unfold opnC; simp
    rw [e1, e2]
    exact ownsRow_kept (fp := [d.D]) ho (Only.setCell _ _ _ (by simp)) (fun k hk e => by
      have : k = g := by simpa [Value.ownBlock, eq_comm] using hk
      subst this
      rw [List.mem_singleton] at e
      exact hgD e.symm)
  · refine h.fuse.kept ho2 (fun k hk e => ?_)
    have := n5 k hk
    rcases List.mem_cons.1 e with e | e
    · exact this.1 e
    · exact this.2.2.2 e
  · intro y hy
    rcases List.mem_append.1 hy with hy | hy
    · exact h.wr y hy
    · rw [List.mem_singleton] at hy; subst hy; exact hx
  · intro k hk
    rcases List.mem_cons.1 hk with rfl | hk
    · exact m3
    · unfold DV.fp; simp only [List.mem_cons, List.mem_append]; exact .inr (.inr (.inr (.inl hk)))
  · intro k hk
    unfold DV.fp at hk ⊢
    simp only [List.mem_cons, List.mem_append] at hk ⊢
    rcases hk with e | e | e | e | e
    · exact .inl (.inl e)
    · exact .inl (.inr (.inl e))
    · exact .inl (.inr (.inr (.inl e)))
    · have : k = g := by simpa [Value.ownBlock, eq_comm] using e
      subst this
      rcases hlie with e | e
      · exact .inl (.inr (.inr (.inr (.inl (by rw [e]; simp)))))
      · exact .inr e
    · exact .inl (.inr (.inr (.inr (.inr e))))
theorem frozen_of_block {w w' : World} {a : Addr} {b : Bool} (hb : w'.heap[a.block]? = w.heap[a.block]?) (h : w.frozen? a = b) : w'.frozen? a = b := by rw [World.frozen?_of_block hb]; exact h
attribute [local go_sem ↓] exec_load67 exec_build67
set_option maxRecDepth 100000 in
set_option maxHeartbeats 2000000 in
theorem Write1_calls {base : Nat} {w : World} {d : DV} {s : DS} (h : Drv base w d s) (hb : base ≤ w.heap.size) (hm : s.opn.length < 1000000) (n : Nat) (hn : n < s.now.length) (t : ByteArray) (bn bt bd : Nat)
    (h1 : w.heap[bn]? = some (.cells #[.int .i64 (n : Int)] 3 (0, 0))) (h2 : w.heap[bt]? = some (.cells #[.string t] 9 (0, 0))) (h3 : w.heap[bd]? = some (.cells #[ptr d.D] 23 (0, 0)))
    (hx : bn ∉ d.fp ∧ bt ∉ d.fp ∧ bd ∉ d.fp) :
    Calls Try.prog 30 #[ptr bn, ptr bt, ptr bd] w fun e w' => e = .returned (.tuple #[]) ∧ Goes base w w' d (writeS s n (padS t)) := by
  obtain ⟨ti, hti, htz, hts, -⟩ := info_three info67
  have c1 : w.cell? ⟨bn, 0, none⟩ = some (.int .i64 (n : Int)) := cell_of_row w _ _ _ _ _ h1
  have HD := hid h
  have HTS := hid hts
  have H1 := hid h1
  have H2 := hid h2
  have H3 := hid h3
  have l1 := (Array.getElem?_eq_some_iff.1 h1).1
  have l2 := (Array.getElem?_eq_some_iff.1 h2).1
  have l3 := (Array.getElem?_eq_some_iff.1 h3).1
  have HL := hid (And.intro l1 (And.intro l2 l3))
  obtain ⟨ti5, hti5, hts5⟩ : ∃ i, Try.prog.info? 5 = some i ∧ i.size = 1 := by
    have e : (Try.prog.info? 5).map (·.size) = some 1 := by kernel_rfl
    exact Option.map_eq_some_iff.1 e
  have HX := hid hx
  clear h h1 h2 h3 hx l1 l2 l3 hts
  unfold ptr
  go_enter Try.func30, Try.ntmps30
  go_wp2_with (first
    | (refine wpList_build_write rfl (.tmp 4) rfl n rfl ?_)
    | (refine wpList_alloc_row rfl 72 rfl ti _ hti htz (wrC (0, z64)).toArray rfl ?_; intro w1 u1)
    | (refine wpList_store_row rfl 72 (.tmp 3) (.tmp 5) rfl ti hti w.heap.size rfl 72 _ u1.at_ (wrC (n, z64)).toArray rfl HTS.out rfl (wrC_one n z64) ?_; intro w2 u2))
  have ho2 : Only [] w w2 := (Only.of_new u1).trans (Only.of_upd (fp := [w.heap.size]) u2 (by simp)) (by simp)
  have HO2 := hid ho2
  have HU2 := hid u2.at_
  have k2 : w2.cell? ⟨bt, 0, none⟩ = some (.string t) := cell_of_row w2 _ _ _ _ _ ((ho2.block bt HL.out.2.1 (by simp)).trans H2.out)
  clear u1 u2 ho2 c1
  go_wp2
  go_still_tail 3, (by kernel_rfl)
  change wpList _ _ _ _ _ w2.drew
  refine wpList_copy_string rfl (.tmp 7) (.tmp 8) 73 9 rfl 5 Try.underlying73 ti5 hti5 hts5 w.heap.size 1 64 64 rfl t rfl 72 (wrC (n, z64)).toArray HU2.out (by show 1 + 64 ≤ 65; decide) ?_
  intro w3 u3
  rw [pad_cells] at u3
  have ho3 : Only [] w w3 := (HO2.out.trans (Only.drew [] w2) (by simp)).trans (Only.of_upd (fp := [w.heap.size]) u3 (by simp)) (by simp)
  have HU3 := hid u3.at_
  have HO3 := hid ho3
  have hd3 : Drv base w3 d s := HD.out.kept ho3 (by simp)
  obtain ⟨gn, capn, curn, hvn, hbn, hgn, hcn, hmn, hszn, hxn⟩ := ownsRow_slice hd3.now (by have := hd3.len; omega)
  obtain ⟨j0, -, -, -, f0, -, -, -⟩ := hd3.cells
  rw [hvn] at j0
  have j1 : w3.cell? ⟨bd, 0, none⟩ = some (.pointer (some ⟨d.D, 0, none⟩)) := cell_of_row w3 _ _ _ _ _ ((ho3.block bd HL.out.2.2 (by simp)).trans H3.out)
  have j2 : w3.cell? ⟨bn, 0, none⟩ = some (.int .i64 (n : Int)) := cell_of_row w3 _ _ _ _ _ ((ho3.block bn HL.out.1 (by simp)).trans H1.out)
  have j3 : w3.rangeAt w.heap.size 1 ((padS t).map cb) := by
    intro j v hv
    rw [cell_of_row w3 _ _ _ _ _ HU3.out]
    show (wrC (n, padS t)).toArray[1 + j]? = some v
    rw [List.getElem?_toArray, Nat.add_comm, wrC, List.getElem?_cons_succ, hv]
  have hsz64 : n * 64 + 64 ≤ curn.size := by
    rw [hszn]
    have : (n + 1) * 64 ≤ capn * 64 := Nat.mul_le_mul_right _ (by omega)
    rw [Nat.succ_mul] at this
    omega
  have j4 : w3.there gn (n * 64) 64 := by
    intro j hj
    refine ⟨?_, frozen_of_row w3 _ _ _ _ hgn⟩
    rw [cell_of_row w3 _ _ _ _ _ hgn, Array.getElem?_eq_getElem (by omega)]
    rfl
  have q1 : (0 ≤ (n : Int)) = True := eq_true (by omega)
  have q2 : ((n : Int) < (s.now.length : Int)) = True := eq_true (by omega)
  have q3 := Try.underlying70
  have q4 : ((padS t).map cb).length = 64 := by rw [List.length_map, padS_length]
  have q5 : (Try.prog.info? 70).map (·.size) = some ((padS t).map cb).length := by rw [q4]; kernel_rfl
  have q6 : ∀ v ∈ (padS t).map cb, v.oneCell' = true := cb_one (padS t)
  have nx1 : bd ≠ gn := fun e => HX.out.2.2 (e ▸ (by unfold DV.fp; rw [hvn]; simp [Value.ownBlock]))
  have nx2 : bn ≠ gn := fun e => HX.out.1 (e ▸ (by unfold DV.fp; rw [hvn]; simp [Value.ownBlock]))
  have nx3 : w.heap.size ≠ gn := by
    have := (HD.out.fp_lt gn (by unfold DV.fp; rw [hvn]; simp [Value.ownBlock])).2
    omega
  have nx4 : d.D ≠ gn := by
    obtain ⟨gs, caps, curs, hvs, -⟩ := ownsRow_slice hd3.sure (by have := hd3.len; omega)
    exact (hd3.ne hvn hvs).1
  have u4 := setCells_upd gn 70 ((padS t).map cb) (n * 64) w3.drew curn hgn (by rw [q4]; exact hsz64)
  have hd4 := (hd3.kept (Only.drew [] w3) (by simp)).stored hvn hbn hcn hmn hszn hxn n hn (padS t) (padS_length t) u4
  obtain ⟨w4, hw4⟩ : ∃ w4, w4 = w3.drew.setCells gn (n * 64) ((padS t).map cb) := ⟨_, rfl⟩
  rw [← hw4] at u4 hd4
  have e1 : w4.heap[bd]? = some (.cells #[ptr d.D] 23 (0, 0)) := (u4.other _ nx1).trans ((ho3.block bd HL.out.2.2 (by simp)).trans H3.out)
  have e2 : w4.heap[bn]? = some (.cells #[.int .i64 (n : Int)] 3 (0, 0)) := (u4.other _ nx2).trans ((ho3.block bn HL.out.1 (by simp)).trans H1.out)
  have e3 : w4.heap[w.heap.size]? = some (.cells (wrC (n, padS t)).toArray 72 (0, 0)) := (u4.other _ nx3).trans HU3.out
  have e4 : w4.cell? ⟨d.D, 0, none⟩ = some (.slice (some ⟨gn, 0, none⟩) s.now.length capn) := by rw [← hvn]; exact hd4.cells.1
  have e5 : w4.rangeAt w.heap.size 1 ((padS t).map cb) := by
    intro j v hv
    rw [cell_of_row w4 _ _ _ _ _ e3]
    show (wrC (n, padS t)).toArray[1 + j]? = some v
    rw [List.getElem?_toArray, Nat.add_comm, wrC, List.getElem?_cons_succ, hv]
  have e6 : w4.there gn (n * 64) 64 := by rw [hw4]; exact World.there_setCells (w := w3.drew) j4 _ _ _
  have HK := hid (And.intro ((cell_of_row w4 _ _ _ _ _ e1).trans rfl : w4.cell? ⟨bd, 0, none⟩ = some (.pointer (some ⟨d.D, 0, none⟩))) (And.intro e4 (And.intro ((cell_of_row w4 _ _ _ _ _ e2).trans rfl : w4.cell? ⟨bn, 0, none⟩ = some (.int .i64 (n : Int))) (And.intro e5 e6))))
  have ho4 : Only d.fp w w4 := ((ho3.mono (fun _ h => by cases h)).trans (Only.drew d.fp w3) (fun _ h _ => h)).trans (Only.of_upd (fp := d.fp) u4 (by unfold DV.fp; rw [hvn]; simp [Value.ownBlock])) (fun _ h _ => h)
  have HD4 := hid hd4
  have HO4 := hid ho4
  have HE := hid (And.intro e1 e3)
  have HW4 := hid hw4
  rw [hw4] at HK
  clear u3 ho3 k2 hd3 hvn hbn hgn hcn hmn hszn hxn hsz64 hti htz hti5 hts5 u4 hd4 e1 e2 e3 e4 e5 e6 ho4 nx1 nx2 nx3 nx4 hw4
  go_wp2
  go_region_held3 (fun W => W.cell? ⟨bd, 0, none⟩ = some (.pointer (some ⟨d.D, 0, none⟩)) ∧ W.cell? ⟨d.D, 0, none⟩ = some (.slice (some ⟨gn, 0, none⟩) s.now.length capn) ∧ W.cell? ⟨bn, 0, none⟩ = some (.int .i64 (n : Int)) ∧ W.rangeAt w.heap.size 1 ((padS t).map cb) ∧ W.there gn (n * 64) 64) (first | exact HK.out | go_keep_ranges) (fail)
  rw [← HW4.out]
  clear HK HW4 j0 j1 j2 j3 j4 f0
  obtain ⟨-, -, j2, -, -, -, f2, -⟩ := HD4.out.cells
  have j1 : w4.cell? ⟨bd, 0, none⟩ = some (.pointer (some ⟨d.D, 0, none⟩)) := (cell_of_row w4 _ _ _ _ _ HE.out.1).trans rfl
  have j3 : w4.rangeAt w.heap.size 0 (wrC (n, padS t)) := by
    intro j v hv
    rw [cell_of_row w4 _ _ _ _ _ HE.out.2, Nat.zero_add, List.getElem?_toArray, hv]
  have hlt4 : d.D < w4.heap.size := (HD4.out.fp_lt d.D (by simp [DV.fp])).2
  obtain ⟨X, hX⟩ : ∃ X, X = Obj.cells (wrC (n, padS t)).toArray 72 (0, 0) := ⟨_, rfl⟩
  have q7 := Try.underlying72
  have q8 : (wrC (n, padS t)).length = 65 := wrC_length n _ (padS_length t)
  have q9 : (Try.prog.info? 72).map (·.size) = some (wrC (n, padS t)).length := by rw [q8]; kernel_rfl
  have hload : ∀ W : World, W.rangeAt w.heap.size 0 (wrC (n, padS t)) → (load67 (.pointer (some ⟨w.heap.size, 0, none⟩))).run Try.prog W = .ok (.value (.agg (wrC (n, padS t)).toArray)) W :=
    fun W hW => run_load67 W _ _ hW q8
  have hbuild : ∀ W : World, (build67 (.agg (wrC (n, padS t)).toArray)).run Try.prog W = .ok (.value (.slice (some ⟨W.heap.size, 0, none⟩) 1 1)) (W.alloc (.cells (wrC (n, padS t)).toArray 72)) := fun W => run_build67' _ W q8
  have q8' := hid q8
  clear q1 q2 q3 q4 q5 q6 q7 q8 q9
  go_wp2
  obtain ⟨ti, hti, htz, hts, htb⟩ := info_three info67
  have HTI := hid (And.intro hti (And.intro htz (And.intro hts htb)))
  clear hti htz hts htb
  have ne1 : some bd ≠ d.vo.ownBlock := fun e => HX.out.2.2 (by unfold DV.fp; rw [← e]; simp)
  have ne2 : some w.heap.size ≠ d.vo.ownBlock := fun e => by
    have := (HD.out.fp_lt w.heap.size (by unfold DV.fp; rw [← e]; simp)).2
    omega
  have ne3 : bd ≠ d.D := fun e => HX.out.2.2 (by rw [e]; simp [DV.fp])
  have ne4 : w.heap.size ≠ d.D := fun e => by
    have := (HD.out.fp_lt d.D (by simp [DV.fp])).2
    omega
  obtain ⟨wa, hwa⟩ : ∃ wa, wa = (w4.alloc (.cells (wrC (n, padS t)).toArray 72)).drew := ⟨_, rfl⟩
  have hoa : Only [] w4 wa := by rw [hwa]; exact (Only.alloc [] w4 _).trans (Only.drew [] _) (by simp)
  have hlt5 : bd < w4.heap.size := (Array.getElem?_eq_some_iff.1 HE.out.1).1
  have hlt6 : w.heap.size < w4.heap.size := (Array.getElem?_eq_some_iff.1 HE.out.2).1
  have k1 : wa.cell? ⟨bd, 0, none⟩ = some (.pointer (some ⟨d.D, 0, none⟩)) := by rw [World.cell?_of_block (a := ⟨bd, 0, none⟩) (hoa.block _ hlt5 (by simp))]; exact j1
  have k3 : wa.rangeAt w.heap.size 0 (wrC (n, padS t)) := fun j v hv => by rw [World.cell?_of_block (a := ⟨w.heap.size, 0 + j, none⟩) (hoa.block _ hlt6 (by simp))]; exact j3 j v hv
  have k2 : wa.cell? ⟨d.D, 2, none⟩ = some d.vo := by rw [World.cell?_of_block (a := ⟨d.D, 2, none⟩) (hoa.block _ hlt4 (by simp))]; exact j2
  have kf : wa.frozen? ⟨d.D, 2, none⟩ = false := frozen_of_block (hoa.block _ hlt4 (by simp)) f2
  have kn : wa.rangeAt w4.heap.size 0 (wrC (n, padS t)) := by
    rw [hwa]
    intro j v hv
    have e : (w4.alloc (.cells (wrC (n, padS t)).toArray 72)).drew.heap[w4.heap.size]? = some (.cells (wrC (n, padS t)).toArray 72 (0, 0)) := heap_alloc_new w4 _
    rw [cell_of_row _ _ _ _ _ _ e, Nat.zero_add, List.getElem?_toArray, hv]
  have ko : wa.ownsRow base 72 65 d.vo s.opn.length (opnC s.opn) := by
    rw [hwa]; exact (HD4.out.opn.alloc _).drew
  have KA := hid (And.intro k1 (And.intro k3 (And.intro k2 (And.intro kf (And.intro kn ko)))))
  have hsz : wa.heap.size = w4.heap.size + 1 := by rw [hwa]; exact (New.alloc w4 _).size
  have HSZ := hid hsz
  have HWA := hid hwa
  have HOA := hid hoa
  rw [hwa] at KA k2 kf
  have QL := hid (show (wrC (n, padS t)).length = 1 * 65 by rw [q8'.out])
  have QM := hid (show s.opn.length + 1 ≤ maxLen by unfold maxLen; omega)
  have QB := hid (show (s.opn.length + 1) * 72 ≤ 140737488355328 by omega)
  have ne5 : some d.D ≠ d.vo.ownBlock := fun e => by
    have hnd := (List.nodup_cons.1 HD.out.nodup).1
    exact hnd (by rw [← e]; simp)
  have QS := hid (show base ≤ wa.heap.size by have := HD4.out.fp_lt d.D (by simp [DV.fp]); omega)
  have QZ := hid hsz
  have QD := hid (show d.D < wa.heap.size by omega)
  rw [hwa] at QS QZ QD HOA
  clear hwa hoa k1 k3 kn ko hlt4 hlt5 hlt6 hsz hX
  have kb := KA.out.1
  go_region_law ((refine step_append_lies _ rfl (.tmp 22) (.tmp 24) 63 rfl base 72 ti _ 65 72 Try.underlying63 HTI.out.1 HTI.out.2.1 HTI.out.2.2.1 HTI.out.2.2.2 rfl (by decide) d.vo s.opn.length (opnC s.opn) rfl KA.out.2.2.2.2.2 ⟨w4.heap.size, 0, none⟩ 1 1 (wrC (n, padS t)) rfl QL.out (fun j v hv => by rw [Addr.add_mid]; exact KA.out.2.2.2.2.1 j v hv) (wrC_one n _) (by decide) QM.out QB.out QS.out (w4.heap.size + 1) QZ.out ?_; intro g cap w' ho hg hlie hgl; have kd := hg.cell KA.out.2.2.1 ne5; have kdf := frozen_of_block (hg.block d.D QD.out ne5) KA.out.2.2.2.1; have kb2 := hg.cell KA.out.1 ne1))
  all_goals
    have hfin := HD4.out.wrote (x := (n, padS t)) HOA.out ho hg (hlie.imp id (fun e => by omega)) ⟨by show n < (s.now.set n (padS t)).length; rw [List.length_set]; exact hn, padS_length t⟩
    have hlt4 := HO4.out.size
    refine bodyPost_end (v := .tuple #[]) (results_none rfl _ _ _) rfl ⟨rfl, _, ?_, hfin.1, HO4.out.trans hfin.2.1 (fun _ h _ => h), ?_⟩
    · rfl
    · intro k hk
      rcases hfin.2.2 k hk with e | e
      · exact .inl e
      · exact .inr (by omega)
end Go.Proofs.Ytnhgakmnkpjpdaa

/- A drive: Write whole. -/
set_option maxRecDepth 100000
set_option linter.unusedVariables false
set_option linter.unusedSimpArgs false
namespace Go.Proofs.Ytnhgakmnkpjpdaa
open Go Go.RowKit Go.Proofs.YtnhgakmnkpjpdaaW.PrintWords Go.Proofs.YtnhgakmnkpjpdaaW.PrintLast Go.Proofs.YtnhgakmnkpjpdaaW.PrintMore
attribute [local go_sem] Oper.semAt_some max2_int min2_int max_two min_two max_three min_three max_four min_four
/-- One that went on went on from what went on. -/
theorem Goes.after {base : Nat} {w w1 w' : World} {d : DV} {s' : DS} (hg : Goes base w1 w' d s') (ho : Only d.fp w w1) : Goes base w w' d s' := by
  obtain ⟨d', e, hd, h1, h2⟩ := hg
  refine ⟨d', e, hd, ho.trans h1 (fun _ h _ => h), fun k hk => (h2 k hk).imp id (fun h => Nat.le_trans ho.size h)⟩
theorem Goes.trans {base : Nat} {w w1 w' : World} {d d1 : DV} {s' : DS} (e : d1.D = d.D) (ho : Only d.fp w w1) (hf : ∀ k, k ∈ d1.fp → k ∈ d.fp ∨ w.heap.size ≤ k) (hg : Goes base w1 w' d1 s') : Goes base w w' d s' := by
  obtain ⟨d', e', hd, h1, h2⟩ := hg
  refine ⟨d', e'.trans e, hd, ho.trans h1 (fun k hk hl => (hf k hk).resolve_right (by omega)), fun k hk => ?_⟩
  rcases h2 k hk with h | h
  · exact hf k h
  · exact .inr (Nat.le_trans ho.size h)
def wrR (s : DS) (n : Nat) (L : List UInt8) : DS × Int := if s.fuse = some 0 then (s, 30) else (writeS { s with fuse := decF s.fuse } n L, 0)
def writeR (s : DS) (n : Int) (t : ByteArray) : DS × Int :=
  if hasE s.now.length n = 0 then (if t.size ≤ 64 then wrR s n.toNat (padS t) else (s, 3)) else (s, 2)
set_option maxRecDepth 100000 in
theorem on_write {base : Nat} {w : World} {d : DV} {s : DS} (h : Drv base w d s) (hb : base ≤ w.heap.size) (hm : s.opn.length < 1000000) (n : Nat) (hn : n < s.now.length) (t : ByteArray) (bn bt bd : Nat)
    (h1 : w.heap[bn]? = some (.cells #[.int .i64 (n : Int)] 3 (0, 0))) (h2 : w.heap[bt]? = some (.cells #[.string t] 9 (0, 0))) (h3 : w.heap[bd]? = some (.cells #[ptr d.D] 23 (0, 0)))
    (hx : bn ∉ d.fp ∧ bt ∉ d.fp ∧ bd ∉ d.fp) :
    Calls Try.prog 29 #[ptr d.D, .func (.func 30) #[] #[ptr bn, ptr bt, ptr bd]] w fun e w' => e = .returned (.int .i64 (wrR s n (padS t)).2) ∧ Goes base w w' d (wrR s n (padS t)).1 := by
  obtain ⟨-, -, -, i3, -, -, -, f3⟩ := h.cells
  have HD := hid h
  have HBX := hid (And.intro h1 (And.intro h2 h3))
  have HBF := hid hx
  have HB0 := hid hb
  unfold ptr
  rcases fuse_cases h.fuse with ⟨hz, hk⟩ | ⟨f, k, hz, hk, hcell⟩
  · have hs : ({ s with fuse := decF s.fuse } : DS) = s := by rw [hk, decF, ← hk]
    have hw : wrR s n (padS t) = (writeS s n (padS t), 0) := by unfold wrR; rw [if_neg (by rw [hk]; simp), hs]
    rw [hw]
    rw [hz] at i3
    clear h h1 h2 h3 hx hz hk hs hw
    unfold fzV at i3
    go_enter Try.func29, Try.ntmps29
    go_wp2_with (go_at_call 30; refine (Write1_calls HD.out HB0.out hm n hn t bn bt bd HBX.out.1 HBX.out.2.1 HBX.out.2.2 HBF.out).mono ?_; rintro e w' ⟨rfl, hd⟩; have HD2 := hid hd; clear hd)
    go_ret
    exact ⟨rfl, HD2.out⟩
  · have hcf : w.cell? ⟨f, 0, none⟩ = some (.int .i64 (k : Int)) := (cell_of_row w _ _ _ _ _ hcell).trans rfl
    rw [hz] at i3
    unfold fzV at i3
    by_cases h0 : k = 0
    · subst h0
      have hw : wrR s n (padS t) = (s, 30) := by unfold wrR; rw [if_pos hk]
      rw [hw]
      clear h h1 h2 h3 hx hz hk hcell hw
      go_enter Try.func29, Try.ntmps29
      go_wp2
      go_ret
      exact ⟨rfl, d, rfl, HD.out, Only.refl _ _, fun k hk => .inl hk⟩
    · obtain ⟨-, ff, hlt, hB, hO⟩ := h.burnt hz hk (by omega)
      have hw : wrR s n (padS t) = (writeS { s with fuse := decF s.fuse } n (padS t), 0) := by unfold wrR; rw [if_neg (by rw [hk]; simpa using h0)]
      rw [hw]
      have HB := hid hB
      have HOB := hid hO
      have hne : bn ≠ f ∧ bt ≠ f ∧ bd ≠ f := by
        have : f ∈ d.fp := by unfold DV.fp; rw [hz]; simp
        exact ⟨fun e => hx.1 (e ▸ this), fun e => hx.2.1 (e ▸ this), fun e => hx.2.2 (e ▸ this)⟩
      have HNE := hid hne
      have c0 : ((k : Int) == 0) = false := by rw [beq_eq_false_iff_ne]; omega
      have hpos : (0 : Int) < (k : Int) := by omega
      have HB1 := hid (show base ≤ (w.setCell ⟨f, 0, none⟩ (.int .i64 ((k : Int) - 1))).heap.size from Nat.le_trans hb hO.size)
      clear h h1 h2 h3 hx hz hk hcell hB hO hne h0 hw
      go_enter Try.func29, Try.ntmps29
      go_wp2_with (go_at_call 30; refine (Write1_calls HB.out HB1.out hm n hn t bn bt bd ((heap_setCell_other _ _ _ _ HNE.out.1).trans HBX.out.1) ((heap_setCell_other _ _ _ _ HNE.out.2.1).trans HBX.out.2.1) ((heap_setCell_other _ _ _ _ HNE.out.2.2).trans HBX.out.2.2) HBF.out).mono ?_; rintro e w' ⟨rfl, hd⟩; have HD2 := hid hd; clear hd)
      go_ret
      exact ⟨rfl, HD2.out.after HOB.out⟩
/-- Three boxes. -/
theorem boxes (w : World) (a b c : Obj) :
    (((w.alloc a).alloc b).alloc c).heap[w.heap.size]? = some a ∧ (((w.alloc a).alloc b).alloc c).heap[w.heap.size + 1]? = some b ∧ (((w.alloc a).alloc b).alloc c).heap[w.heap.size + 2]? = some c := by
  refine ⟨?_, ?_, ?_⟩
  · rw [heap_alloc_old _ _ (by simp; omega), heap_alloc_old _ _ (by simp), heap_alloc_new]
  · rw [heap_alloc_old _ _ (by simp)]; have := heap_alloc_new (w.alloc a) b; simpa using this
  · have := heap_alloc_new ((w.alloc a).alloc b) c; simpa using this
set_option maxRecDepth 100000 in
theorem Write_goes {base : Nat} {w : World} {d : DV} {s : DS} (h : Drv base w d s) (hb : base ≤ w.heap.size) (hm : s.opn.length < 1000000) (n : Int) (t : ByteArray) :
    Calls Try.prog 8 #[ptr d.D, .int .i64 n, .string t] w fun e w' => e = .returned (.int .i64 (writeR s n t).2) ∧ Goes base w w' d (writeR s n t).1 := by
  obtain ⟨hb1, hb2, hb3⟩ := boxes w (.cells #[ptr d.D] 23) (.cells #[.int .i64 n] 3) (.cells #[.string t] 9)
  obtain ⟨W, hW⟩ : ∃ W, W = ((w.alloc (.cells #[ptr d.D] 23)).alloc (.cells #[.int .i64 n] 3)).alloc (.cells #[.string t] 9) := ⟨_, rfl⟩
  have hO : Only d.fp w W := by rw [hW]; exact ((Only.alloc d.fp w _).trans (Only.alloc d.fp _ _) (fun _ h _ => h)).trans (Only.alloc d.fp _ _) (fun _ h _ => h)
  have hO0 : Only [] w W := by rw [hW]; exact ((Only.alloc [] w _).trans (Only.alloc [] _ _) (fun _ h _ => h)).trans (Only.alloc [] _ _) (fun _ h _ => h)
  have hD : Drv base W d s := h.kept hO0 (by simp)
  have hf : ∀ i, w.heap.size + i ∉ d.fp := fun i e => by have := (h.fp_lt _ e).2; omega
  rw [← hW] at hb1 hb2 hb3
  have HD := hid hD
  have HB := hid (Nat.le_trans hb hO.size)
  have HO := hid hO
  have HF := hid hf
  have HX := hid (And.intro hb1 (And.intro hb2 hb3))
  have c1 : W.cell? ⟨w.heap.size, 0, none⟩ = some (.pointer (some ⟨d.D, 0, none⟩)) := (cell_of_row W _ _ _ _ _ hb1).trans rfl
  have c2 : W.cell? ⟨w.heap.size + 1, 0, none⟩ = some (.int .i64 n) := (cell_of_row W _ _ _ _ _ hb2).trans rfl
  have c3 : W.cell? ⟨w.heap.size + 2, 0, none⟩ = some (.string t) := (cell_of_row W _ _ _ _ _ hb3).trans rfl
  by_cases c : 0 ≤ n ∧ n < (s.now.length : Int)
  · have he : hasE s.now.length n = 0 := by unfold hasE; rw [if_pos c]
    by_cases c4 : t.size ≤ 64
    · have e4 : decide (64 < (t.size : Int)) = false := decide_eq_false (by omega)
      have HE := hid he
      obtain ⟨m, rfl⟩ : ∃ m : Nat, n = (m : Int) := ⟨n.toNat, by omega⟩
      have hw : writeR s m t = wrR s m (padS t) := by unfold writeR; rw [if_pos he, if_pos c4, Int.toNat_natCast]
      rw [hw]
      have hmn : m < s.now.length := by omega
      unfold ptr at *
      rw [hW] at c1 c2 c3
      clear h hO hO0 hD hf hb1 hb2 hb3 he c c4 hw
      go_enter Try.func8, Try.ntmps8
      go_wp2_with (first
        | (go_at_call 28; rw [← hW]; refine (has_calls HD.out (m : Int)).mono ?_; rintro e w' ⟨rfl, rfl⟩; rw [HE.out, hW])
        | (go_at_call 29; rw [← hW]; refine (on_write HD.out HB.out hm m hmn t (w.heap.size + 1) (w.heap.size + 2) w.heap.size HX.out.2.1 HX.out.2.2 HX.out.1 ⟨HF.out 1, HF.out 2, HF.out 0⟩).mono ?_; rintro e w' ⟨rfl, hd⟩; have HD2 := hid hd; clear hd))
      go_ret
      exact ⟨rfl, HD2.out.after HO.out⟩
    · have e4 : decide (64 < (t.size : Int)) = true := decide_eq_true (by omega)
      have HE := hid he
      have hw : writeR s n t = (s, 3) := by unfold writeR; rw [if_pos he, if_neg c4]
      rw [hw]
      unfold ptr at *
      rw [hW] at c1 c2 c3
      clear h hO hO0 hD hf hb1 hb2 hb3 he c c4 hw
      go_enter Try.func8, Try.ntmps8
      go_wp2_with (go_at_call 28; rw [← hW]; refine (has_calls HD.out n).mono ?_; rintro e w' ⟨rfl, rfl⟩; rw [HE.out, hW])
      go_ret
      rw [hW] at HD HO
      exact ⟨rfl, d, rfl, HD.out, HO.out, fun k hk => .inl hk⟩
  · have he : hasE s.now.length n = 2 := by unfold hasE; rw [if_neg c]
    have HE := hid he
    have hw : writeR s n t = (s, 2) := by unfold writeR; rw [if_neg (by rw [he]; decide)]
    rw [hw]
    unfold ptr at *
    rw [hW] at c1 c2 c3
    clear h hO hO0 hD hf hb1 hb2 hb3 he c hw
    go_enter Try.func8, Try.ntmps8
    go_wp2_with (go_at_call 28; rw [← hW]; refine (has_calls HD.out n).mono ?_; rintro e w' ⟨rfl, rfl⟩; rw [HE.out, hW])
    go_ret
    rw [hW] at HD HO
    exact ⟨rfl, d, rfl, HD.out, HO.out, fun k hk => .inl hk⟩
end Go.Proofs.Ytnhgakmnkpjpdaa

/- A drive: New. -/
set_option maxRecDepth 100000
set_option linter.unusedVariables false
set_option linter.unusedSimpArgs false
namespace Go.Proofs.Ytnhgakmnkpjpdaa
open Go Go.RowKit Go.Proofs.YtnhgakmnkpjpdaaW.PrintWords Go.Proofs.YtnhgakmnkpjpdaaW.PrintLast Go.Proofs.YtnhgakmnkpjpdaaW.PrintMore
attribute [local go_sem] Oper.semAt_some max2_int min2_int max_two min_two max_three min_three max_four min_four
theorem rowC_zero (n : Nat) : rowC (List.replicate n z64) = List.replicate (n * 64) (cb 0) := by
  unfold rowC
  induction n with
  | zero => simp
  | succ n ih =>
    rw [List.replicate_succ, List.flatMap_cons, ih, Nat.succ_mul, Nat.add_comm, ← List.replicate_append_replicate]
    congr 1
theorem made_same (k m : Nat) (hk : 0 < k) (x : Value) : madeCells (List.replicate k x).toArray m = (List.replicate m x).toArray := by
  apply Array.ext'
  rw [List.toList_toArray]
  apply List.ext_getElem?
  intro j
  by_cases hj : j < m
  · have : j % k < k := Nat.mod_lt _ hk
    simp [madeCells, hj, this, List.getElem?_replicate, getElem!_def]
  · simp [madeCells, hj, List.getElem?_replicate]
theorem made_zero (n : Nat) : (madeCells (cells8 z64) (n * 64)) = (rowC (List.replicate n z64)).toArray := by
  have hs : (cells8 z64) = (List.replicate 64 (cb 0)).toArray := by unfold cells8 z64; rw [List.map_replicate]
  rw [rowC_zero, hs, made_same 64 _ (by decide)]
/-- 'make([]sector, n)', kept from being taken apart. -/
@[irreducible] def make57 (v u : Value) : Sem Next := do pure (.value (← Instr.makeSlice 62 v u))
theorem exec_make57 (ev : Operand → Value) (dst : Option Tmp) (x y : Operand) (ty : TypeId) (pos : String) (after : Array Edge) (g : Option (Nat × Bool)) : execOp ev ⟨dst, .makeSlice 62 x y, ty, pos, after, g⟩ = make57 (ev x) (ev y) := by
  unfold make57 execOp; rfl
theorem run_make57 (n : Nat) (hn : n ≤ 4096) (W : World) : (make57 (.int .i64 (n : Int)) (.int .i64 (n : Int))).run Try.prog W = .ok (.value (.slice (some ⟨W.heap.size, 0, none⟩) n n)) (W.alloc (.cells (rowC (List.replicate n z64)).toArray 70)) := by
  obtain ⟨ti, hti, htz, hts, htb⟩ := info_three info65
  unfold make57
  have h := run_make W 62 70 ti _ Try.underlying62 hti htz .i64 .i64 (n : Int) (n : Int) (by omega) (Int.le_refl _) (by rw [htb]; omega) (by omega)
  rw [Sem.run_bind, h]
  simp only [Int.toNat_natCast, hts]
  have e : (Value.agg (cells8 z64)).cells = cells8 z64 := rfl
  rw [e, made_zero]
  rfl
def newS (n : Nat) : DS := ⟨List.replicate n z64, List.replicate n z64, [], none⟩
/-- A new drive's blocks. -/
theorem Drv.made {W : World} (n a b c : Nat) (h8 : 8 ≤ n) (hn : n ≤ 4096) (base : Nat) (ha : base ≤ a) (hb : base ≤ b) (hc : base ≤ c) (hd : a ≠ b ∧ a ≠ c ∧ b ≠ c)
    (ka : W.heap[a]? = some (.cells (rowC (List.replicate n z64)).toArray 70 (0, 0))) (kb : W.heap[b]? = some (.cells (rowC (List.replicate n z64)).toArray 70 (0, 0)))
    (kc : W.heap[c]? = some (.cells #[.slice (some ⟨a, 0, none⟩) n n, .slice (some ⟨b, 0, none⟩) n n, .slice none 0 0, .pointer none] 66 (0, 0))) :
    Drv base W ⟨c, .slice (some ⟨a, 0, none⟩) n n, .slice (some ⟨b, 0, none⟩) n n, .slice none 0 0, none⟩ (newS n) := by
  have hz : ∀ x ∈ List.replicate n z64, x.length = 64 := fun x hx => by rw [List.eq_of_mem_replicate hx]; rfl
  have hl := rowC_length _ hz
  rw [List.length_replicate] at hl
  have key : ∀ g, base ≤ g → W.heap[g]? = some (.cells (rowC (List.replicate n z64)).toArray 70 (0, 0)) → W.ownsRow base 70 64 (.slice (some ⟨g, 0, none⟩) n n) n (rowC (List.replicate n z64)) := by
    intro g hg hk
    refine ⟨hl, .inr ⟨g, n, _, rfl, hg, hk, Nat.le_refl _, by unfold maxLen; omega, by rw [List.size_toArray, hl], ?_⟩⟩
    rw [List.toList_toArray, ← hl, List.take_length]
  refine ⟨hc, kc, ?_, ?_, World.ownsRow_nil _ _ _ _, trivial, ?_, ?_, hz, hz, fun x hx => by cases hx⟩
  · show W.ownsRow base 70 64 _ (List.replicate n z64).length _
    rw [List.length_replicate]; exact key a ha ka
  · show W.ownsRow base 70 64 _ (List.replicate n z64).length _
    rw [List.length_replicate]; exact key b hb kb
  · unfold DV.fp
    simp [Value.ownBlock]
    omega
  · show (List.replicate n z64).length = (List.replicate n z64).length ∧ _
    show _ ∧ 8 ≤ (List.replicate n z64).length ∧ (List.replicate n z64).length ≤ 4096
    rw [List.length_replicate]
    exact ⟨rfl, h8, hn⟩
/-- A drive is made. -/
def Made (w w' : World) (n : Nat) (v : Value) : Prop := ∃ d : DV, v = ptr d.D ∧ Drv w.heap.size w' d (newS n) ∧ Only [] w w'
theorem Made.of (w : World) (n : Nat) (h8 : 8 ≤ n) (hn : n ≤ 4096) (a b : Nat) (hab : a = w.heap.size ∧ b = w.heap.size + 1 ∨ a = w.heap.size + 1 ∧ b = w.heap.size) :
    Made w (((w.alloc (.cells (rowC (List.replicate n z64)).toArray 70)).alloc (.cells (rowC (List.replicate n z64)).toArray 70)).alloc (.cells #[.slice (some ⟨a, 0, none⟩) n n, .slice (some ⟨b, 0, none⟩) n n, .slice none 0 0, .pointer none] 66)).drew n (ptr (w.heap.size + 2)) := by
  obtain ⟨h1, h2, h3⟩ := boxes w (.cells (rowC (List.replicate n z64)).toArray 70) (.cells (rowC (List.replicate n z64)).toArray 70) (.cells #[.slice (some ⟨a, 0, none⟩) n n, .slice (some ⟨b, 0, none⟩) n n, .slice none 0 0, .pointer none] 66)
  refine ⟨_, rfl, Drv.made n a b (w.heap.size + 2) h8 hn w.heap.size ?_ ?_ (by omega) (by omega) ?_ ?_ h3, ?_⟩
  · rcases hab with ⟨rfl, rfl⟩ | ⟨rfl, rfl⟩ <;> omega
  · rcases hab with ⟨rfl, rfl⟩ | ⟨rfl, rfl⟩ <;> omega
  · rcases hab with ⟨rfl, rfl⟩ | ⟨rfl, rfl⟩
    · exact h1
    · exact h2
  · rcases hab with ⟨rfl, rfl⟩ | ⟨rfl, rfl⟩
    · exact h2
    · exact h1
  · exact (((Only.alloc [] w _).trans (Only.alloc [] _ _) (fun _ h _ => h)).trans (Only.alloc [] _ _) (fun _ h _ => h)).trans (Only.drew [] _) (fun _ h _ => h)
attribute [local go_sem ↓] exec_make57
theorem New_calls (w : World) (n : Nat) (h8 : 8 ≤ n) (hn : n ≤ 4096) :
    Calls Try.prog 5 #[.int .i64 (n : Int)] w fun e w' => ∃ v, e = .returned (.tuple #[v, .int .i64 0]) ∧ Made w w' n v := by
  have HM := hid (And.intro h8 hn)
  have c1 : decide ((n : Int) < 8) = false := decide_eq_false (by omega)
  have c2 : decide (4096 < (n : Int)) = false := decide_eq_false (by omega)
  have HR := run_make57 n hn
  clear h8 hn
  go_enter Try.func5, Try.ntmps5
  go_wp2
  go_region
  · go_wp2
    go_ret2
    exact ⟨_, rfl, Made.of w n HM.out.1 HM.out.2 w.heap.size (w.heap.size + 1) (.inl ⟨rfl, rfl⟩)⟩
  · go_wp2
    go_ret2
    exact ⟨_, rfl, Made.of w n HM.out.1 HM.out.2 (w.heap.size + 1) w.heap.size (.inr ⟨rfl, rfl⟩)⟩
end Go.Proofs.Ytnhgakmnkpjpdaa
