/- Chapter 03: the document's drive in memory: zero, blown, Write. -/
import Derived.Test.YtlafanbilodafaaDB
import Derived.Test.YtlafanbilodafaaE1
import Derived.StillTailTactics
import Derived.Deep.CutBlock
set_option linter.unusedVariables false
set_option linter.unusedSimpArgs false
namespace Go.Proofs.Ytlafanbilodafaa
open Go Go.RowKit Go.Proofs.YtlafanbilodafaaW.PrintWords Go.Proofs.YtlafanbilodafaaW.PrintLast Go.Proofs.YtlafanbilodafaaW.PrintMore
attribute [local go_sem] Oper.semAt_some max2_int min2_int max_two min_two max_three min_three max_four min_four
def strC (l : List (List UInt8)) : List Value := l.map fun x => .string (B x)
def fzI : Option Nat → Int
  | none => -1
  | some k => (k : Int)
structure QV where
  Q : Nat
  vN : Value
  vS : Value
  vA : Value
  vO : Value
def QV.rN (q : QV) (s : DS) : RowV := ⟨q.vN, 9, 1, s.now.length, strC s.now⟩
def QV.rS (q : QV) (s : DS) : RowV := ⟨q.vS, 9, 1, s.sure.length, strC s.sure⟩
def QV.rA (q : QV) (s : DS) : RowV := ⟨q.vA, 3, 1, s.opn.length, s.opn.map fun x => .int .i64 (x.1 : Int)⟩
def QV.rO (q : QV) (s : DS) : RowV := ⟨q.vO, 9, 1, s.opn.length, s.opn.map fun x => .string (B x.2)⟩
def QV.cs (q : QV) (s : DS) : Array Value := #[q.vN, q.vS, q.vA, q.vO, .int .i64 (fzI s.fuse)]
def QV.fp (q : QV) (s : DS) : List Nat := obFp q.Q [q.rN s, q.rS s, q.rA s, q.rO s]
structure Rd (base : Nat) (W : World) (q : QV) (s : DS) : Prop where
  ob : Ob base W q.Q 54 (q.cs s) [q.rN s, q.rS s, q.rA s, q.rO s]
  len : s.sure.length = s.now.length ∧ 8 ≤ s.now.length ∧ s.now.length ≤ 4096
  secN : ∀ x ∈ s.now, x.length = 64
  secS : ∀ x ∈ s.sure, x.length = 64
  wr : ∀ x ∈ s.opn, x.1 < s.now.length ∧ x.2.length = 64
  fuse : ∀ k, s.fuse = some k → k < 9223372036854775808
def RGoes (base : Nat) (w w' : World) (q : QV) (s s' : DS) : Prop := ∃ q' : QV, q'.Q = q.Q ∧ Rd base w' q' s' ∧ Only (q.fp s) w w' ∧ ∀ k, k ∈ q'.fp s' → k ∈ q.fp s ∨ w.heap.size ≤ k
theorem Rd.cells {base : Nat} {W : World} {q : QV} {s : DS} (h : Rd base W q s) :
    W.cell? ⟨q.Q, 0, none⟩ = some q.vN ∧ W.cell? ⟨q.Q, 1, none⟩ = some q.vS ∧ W.cell? ⟨q.Q, 2, none⟩ = some q.vA ∧ W.cell? ⟨q.Q, 3, none⟩ = some q.vO ∧ W.cell? ⟨q.Q, 4, none⟩ = some (.int .i64 (fzI s.fuse)) ∧
    ∀ j, W.frozen? ⟨q.Q, j, none⟩ = false :=
  ⟨h.ob.cell 0, h.ob.cell 1, h.ob.cell 2, h.ob.cell 3, h.ob.cell 4, h.ob.free⟩
def zsB (i : Nat) : ByteArray := B (List.replicate i 0)
theorem zsB_succ (i : Nat) : zsB i ++ (⟨#[0]⟩ : ByteArray) = zsB (i + 1) := by
  have : (⟨#[0]⟩ : ByteArray) = B [0] := rfl
  unfold zsB
  rw [this, B_append, List.replicate_succ']
theorem zero_calls (w : World) : Calls Try.prog 27 #[] w fun e w' => e = .returned (.string (B z64)) ∧ w' = w := by
  go_enter Try.func27, Try.ntmps27
  go_wp2
  go_loop [1, 2] (fun v q => ∃ i : Nat, q = .int .i64 (i : Int) ∧ i ≤ 64 ∧ v = .string (zsB i)) (fun _ q => 64 - (intOf q).toNat)
  case atStart => exact ⟨0, rfl, by decide, rfl⟩
  case round =>
    obtain ⟨i, rfl, hi, rfl⟩ := hrel
    by_cases c : i < 64
    · have c1 : decide ((i : Int) < 64) = true := decide_eq_true (by omega)
      have hz := zsB_succ i
      have hzs : (zsB i).size ≤ 64 := by unfold zsB; rw [B_size, List.length_replicate]; exact hi
      go_wp2
      go_round
      case rel => exact ⟨i + 1, by go_num, by omega, rfl⟩
      case measure => simp [intOf]; omega
    · have c1 : decide ((i : Int) < 64) = false := decide_eq_false (by omega)
      have HI := hid (show i = 64 by omega)
      clear c hi
      go_wp2
      go_ret
      exact ⟨by rw [HI.out]; rfl, rfl⟩
def isZ (f : Option Nat) : Bool := f == some 0
def blS (s : DS) : DS := if s.fuse = some 0 then s else { s with fuse := decF s.fuse }
theorem Rd.fused {base : Nat} {w : World} {q : QV} {s : DS} (h : Rd base w q s) (k : Option Nat) (hk : ∀ j, k = some j → j < 9223372036854775808) :
    RGoes base w (w.setCell ⟨q.Q, 4, none⟩ (.int .i64 (fzI k))) q s { s with fuse := k } := by
  obtain ⟨h1, h2⟩ := h.ob.set 4 (.int .i64 (fzI k))
  exact ⟨q, rfl, ⟨h1, h.len, h.secN, h.secS, h.wr, hk⟩, h2.mono (by simp [QV.fp, obFp]), fun k hk => .inl hk⟩
theorem blown_calls {base : Nat} {w : World} {q : QV} {s : DS} (h : Rd base w q s) :
    Calls Try.prog 28 #[ptr q.Q] w fun e w' => e = .returned (.bool (isZ s.fuse)) ∧ RGoes base w w' q s (blS s) := by
  have HD := hid h
  obtain ⟨-, -, -, -, c4, f⟩ := h.cells
  have f4 := f 4
  unfold ptr
  clear f
  rcases hs : s.fuse with _ | k
  · rw [hs] at c4
    have hb : blS s = s := by unfold blS; rw [if_neg (by rw [hs]; simp)]; cases s; simp only at hs; subst hs; rfl
    have HZ := hid (show isZ none = false from rfl)
    have HBB := hid hb
    have HS := hid hs
    clear h hs hb
    unfold fzI at c4
    go_enter Try.func28, Try.ntmps28
    go_wp2
    go_ret
    exact ⟨by rw [HZ.out]; rfl, by rw [HBB.out]; exact ⟨q, rfl, HD.out, Only.refl _ _, fun k hk => .inl hk⟩⟩
  · rw [hs] at c4
    unfold fzI at c4
    have hkb := h.fuse k hs
    by_cases h0 : k = 0
    · subst h0
      have hb : blS s = s := by unfold blS; rw [if_pos hs]
      have HZ := hid (show isZ (some 0) = true from rfl)
      have HBB := hid hb
      clear h hs hb
      go_enter Try.func28, Try.ntmps28
      go_wp2
      go_ret
      exact ⟨by rw [HZ.out]; rfl, by rw [HBB.out]; exact ⟨q, rfl, HD.out, Only.refl _ _, fun k hk => .inl hk⟩⟩
    · have hb : blS s = { s with fuse := some (k - 1) } := by unfold blS; rw [if_neg (by rw [hs]; simpa using h0), hs]; rfl
      have hf := HD.out.fused (some (k - 1)) (fun j hj => by injection hj; omega)
      have e1 : (fzI (some (k - 1))) = (k : Int) - 1 := by show ((k - 1 : Nat) : Int) = _; omega
      rw [e1, ← hb] at hf
      have HF := hid hf
      have c1 : ((k : Int) == 0) = false := by rw [beq_eq_false_iff_ne]; omega
      have c2 : decide (0 < (k : Int)) = true := decide_eq_true (by omega)
      have HZ := hid (show isZ (some k) = false by unfold isZ; simpa using h0)
      have hp : 0 < (k : Int) := by omega
      clear h hs hb hf e1 h0
      go_enter Try.func28, Try.ntmps28
      go_wp2
      go_ret
      exact ⟨by rw [HZ.out]; rfl, HF.out⟩
theorem RGoes.refl {base : Nat} {w : World} {q : QV} {s : DS} (h : Rd base w q s) : RGoes base w w q s s := ⟨q, rfl, h, Only.refl _ _, fun k hk => .inl hk⟩
theorem strC_len (l : List (List UInt8)) : (strC l).length = l.length := by unfold strC; rw [List.length_map]
theorem Rd.size {base : Nat} {w : World} {q : QV} {s : DS} (h : Rd base w q s) : base ≤ w.heap.size := by
  have := h.ob.fp_lt q.Q (by simp [obFp]); omega
/-! The document's drive on the way: its rows' cells as they are. -/
def QV.rows (q : QV) (nw su at_ op : List Value) : List RowV := [⟨q.vN, 9, 1, nw.length, nw⟩, ⟨q.vS, 9, 1, su.length, su⟩, ⟨q.vA, 3, 1, at_.length, at_⟩, ⟨q.vO, 9, 1, op.length, op⟩]
structure Rp (base : Nat) (fp0 : List Nat) (w W : World) (q : QV) (nw su at_ op : List Value) (fz : Int) : Prop where
  ob : Ob base W q.Q 54 #[q.vN, q.vS, q.vA, q.vO, .int .i64 fz] (q.rows nw su at_ op)
  only : Only fp0 w W
  fp : ∀ k, k ∈ obFp q.Q (q.rows nw su at_ op) → k ∈ fp0 ∨ w.heap.size ≤ k
section
variable {base : Nat} {fp0 : List Nat} {w W W' : World} {q : QV} {nw su at_ op : List Value} {fz : Int}
theorem Rp.cells (h : Rp base fp0 w W q nw su at_ op fz) : W.cell? ⟨q.Q, 0, none⟩ = some q.vN ∧ W.cell? ⟨q.Q, 1, none⟩ = some q.vS ∧ W.cell? ⟨q.Q, 2, none⟩ = some q.vA ∧ W.cell? ⟨q.Q, 3, none⟩ = some q.vO ∧ W.cell? ⟨q.Q, 4, none⟩ = some (.int .i64 fz) ∧
    ∀ j, W.frozen? ⟨q.Q, j, none⟩ = false := ⟨h.ob.cell 0, h.ob.cell 1, h.ob.cell 2, h.ob.cell 3, h.ob.cell 4, h.ob.free⟩
theorem Rp.ownN (h : Rp base fp0 w W q nw su at_ op fz) : W.ownsRow base 9 1 q.vN nw.length nw := h.ob.own ⟨q.vN, 9, 1, nw.length, nw⟩ (by simp [QV.rows])
theorem Rp.ownS (h : Rp base fp0 w W q nw su at_ op fz) : W.ownsRow base 9 1 q.vS su.length su := h.ob.own ⟨q.vS, 9, 1, su.length, su⟩ (by simp [QV.rows])
theorem Rp.ownA (h : Rp base fp0 w W q nw su at_ op fz) : W.ownsRow base 3 1 q.vA at_.length at_ := h.ob.own ⟨q.vA, 3, 1, at_.length, at_⟩ (by simp [QV.rows])
theorem Rp.ownO (h : Rp base fp0 w W q nw su at_ op fz) : W.ownsRow base 9 1 q.vO op.length op := h.ob.own ⟨q.vO, 9, 1, op.length, op⟩ (by simp [QV.rows])
theorem Rp.baseW (h : Rp base fp0 w W q nw su at_ op fz) : base ≤ W.heap.size := by have := h.ob.fp_lt q.Q (by simp [obFp]); omega
/-- One step: what it writes is the struct's, or new. -/
theorem Rp.next (h : Rp base fp0 w W q nw su at_ op fz) {q' : QV} {nw' su' at' op' : List Value} {fz' : Int} (ob : Ob base W' q'.Q 54 #[q'.vN, q'.vS, q'.vA, q'.vO, .int .i64 fz'] (q'.rows nw' su' at' op'))
    (ho : Only (obFp q.Q (q.rows nw su at_ op)) W W') (hf : ∀ k, k ∈ obFp q'.Q (q'.rows nw' su' at' op') → k ∈ obFp q.Q (q.rows nw su at_ op) ∨ W.heap.size ≤ k) : Rp base fp0 w W' q' nw' su' at' op' fz' := by
  refine ⟨ob, h.only.trans ho (fun k hk hl => (h.fp k hk).resolve_right (by omega)), fun k hk => ?_⟩
  rcases hf k hk with e | e
  · exact h.fp k e
  · exact .inr (Nat.le_trans h.only.size e)
theorem Rp.drew (h : Rp base fp0 w W q nw su at_ op fz) : Rp base fp0 w W.drew q nw su at_ op fz := h.next (h.ob.new (Only.drew [] _)) (Only.drew _ _) (fun k hk => .inl hk)
theorem Rp.newW (h : Rp base fp0 w W q nw su at_ op fz) (ho : Only [] W W') : Rp base fp0 w W' q nw su at_ op fz := h.next (h.ob.new ho) (ho.mono (by simp)) (fun k hk => .inl hk)
theorem Rp.setN (h : Rp base fp0 w W q nw su at_ op fz) {g cap : Nat} (hv : q.vN = .slice (some ⟨g, 0, none⟩) nw.length cap) (j : Nat) (u : Value) : Rp base fp0 w (W.setCell ⟨g, j, none⟩ u) q (nw.set j u) su at_ op fz := by
  obtain ⟨h1, h2⟩ := h.ob.stored (a := []) (r := ⟨q.vN, 9, 1, nw.length, nw⟩) (b := [⟨q.vS, 9, 1, su.length, su⟩, ⟨q.vA, 3, 1, at_.length, at_⟩, ⟨q.vO, 9, 1, op.length, op⟩]) hv j u
  have e : q.rows (nw.set j u) su at_ op = [] ++ (⟨q.vN, 9, 1, nw.length, nw.set j u⟩ : RowV) :: [⟨q.vS, 9, 1, su.length, su⟩, ⟨q.vA, 3, 1, at_.length, at_⟩, ⟨q.vO, 9, 1, op.length, op⟩] := by unfold QV.rows; rw [List.length_set]; rfl
  exact h.next (by rw [e]; exact h1) h2 (fun k hk => .inl (by rw [e] at hk; exact hk))
theorem Rp.setS (h : Rp base fp0 w W q nw su at_ op fz) {g cap : Nat} (hv : q.vS = .slice (some ⟨g, 0, none⟩) su.length cap) (j : Nat) (u : Value) : Rp base fp0 w (W.setCell ⟨g, j, none⟩ u) q nw (su.set j u) at_ op fz := by
  obtain ⟨h1, h2⟩ := h.ob.stored (a := [⟨q.vN, 9, 1, nw.length, nw⟩]) (r := ⟨q.vS, 9, 1, su.length, su⟩) (b := [⟨q.vA, 3, 1, at_.length, at_⟩, ⟨q.vO, 9, 1, op.length, op⟩]) hv j u
  have e : q.rows nw (su.set j u) at_ op = [⟨q.vN, 9, 1, nw.length, nw⟩] ++ (⟨q.vS, 9, 1, su.length, su.set j u⟩ : RowV) :: [⟨q.vA, 3, 1, at_.length, at_⟩, ⟨q.vO, 9, 1, op.length, op⟩] := by unfold QV.rows; rw [List.length_set]; rfl
  exact h.next (by rw [e]; exact h1) h2 (fun k hk => .inl (by rw [e] at hk; exact hk))
theorem Rp.setF (h : Rp base fp0 w W q nw su at_ op fz) (x : Int) : Rp base fp0 w (W.setCell ⟨q.Q, 4, none⟩ (.int .i64 x)) q nw su at_ op x := by
  obtain ⟨h1, h2⟩ := h.ob.set 4 (.int .i64 x)
  exact h.next h1 (h2.mono (by simp [obFp])) (fun k hk => .inl hk)
/-- 'x.f = append(x.f, v)' of each of the four rows: the append, and the store of the new slice. -/
theorem Rp.appN (h : Rp base fp0 w W q nw su at_ op fz) {ob : Obj} {g cap : Nat} {u : Value} (hown : W'.ownsRow base 9 1 (.slice (some ⟨g, 0, none⟩) (nw.length + 1) cap) (nw.length + 1) (nw ++ [u]))
    (hg : (W.alloc ob).grownBy W' q.vN.ownBlock) (hat : q.vN.ownBlock = some g ∨ g = W.heap.size + 1) :
    Rp base fp0 w (W'.setCell ⟨q.Q, 0, none⟩ (.slice (some ⟨g, 0, none⟩) (nw.length + 1) cap)) { q with vN := .slice (some ⟨g, 0, none⟩) (nw.length + 1) cap } (nw ++ [u]) su at_ op fz := by
  obtain ⟨h1, h2, h3⟩ := h.ob.appended (a := []) (r := ⟨q.vN, 9, 1, nw.length, nw⟩) (b := [⟨q.vS, 9, 1, su.length, su⟩, ⟨q.vA, 3, 1, at_.length, at_⟩, ⟨q.vO, 9, 1, op.length, op⟩]) hown hg hat
  obtain ⟨h4, h5⟩ := h1.set 0 (.slice (some ⟨g, 0, none⟩) (nw.length + 1) cap)
  have e : (nw ++ [u]).length = nw.length + 1 := by simp
  refine h.next (by unfold QV.rows; rw [e]; exact h4) (h2.trans (h5.mono (fp' := obFp q.Q (q.rows nw su at_ op)) (by simp [obFp])) (fun _ h _ => h)) (fun k hk => h3 k (by unfold QV.rows at hk; rw [e] at hk; exact hk))
theorem Rp.appS (h : Rp base fp0 w W q nw su at_ op fz) {ob : Obj} {g cap : Nat} {u : Value} (hown : W'.ownsRow base 9 1 (.slice (some ⟨g, 0, none⟩) (su.length + 1) cap) (su.length + 1) (su ++ [u]))
    (hg : (W.alloc ob).grownBy W' q.vS.ownBlock) (hat : q.vS.ownBlock = some g ∨ g = W.heap.size + 1) :
    Rp base fp0 w (W'.setCell ⟨q.Q, 1, none⟩ (.slice (some ⟨g, 0, none⟩) (su.length + 1) cap)) { q with vS := .slice (some ⟨g, 0, none⟩) (su.length + 1) cap } nw (su ++ [u]) at_ op fz := by
  obtain ⟨h1, h2, h3⟩ := h.ob.appended (a := [⟨q.vN, 9, 1, nw.length, nw⟩]) (r := ⟨q.vS, 9, 1, su.length, su⟩) (b := [⟨q.vA, 3, 1, at_.length, at_⟩, ⟨q.vO, 9, 1, op.length, op⟩]) hown hg hat
  obtain ⟨h4, h5⟩ := h1.set 1 (.slice (some ⟨g, 0, none⟩) (su.length + 1) cap)
  have e : (su ++ [u]).length = su.length + 1 := by simp
  refine h.next (by unfold QV.rows; rw [e]; exact h4) (h2.trans (h5.mono (fp' := obFp q.Q (q.rows nw su at_ op)) (by simp [obFp])) (fun _ h _ => h)) (fun k hk => h3 k (by unfold QV.rows at hk; rw [e] at hk; exact hk))
theorem Rp.appA (h : Rp base fp0 w W q nw su at_ op fz) {ob : Obj} {g cap : Nat} {u : Value} (hown : W'.ownsRow base 3 1 (.slice (some ⟨g, 0, none⟩) (at_.length + 1) cap) (at_.length + 1) (at_ ++ [u]))
    (hg : (W.alloc ob).grownBy W' q.vA.ownBlock) (hat : q.vA.ownBlock = some g ∨ g = W.heap.size + 1) :
    Rp base fp0 w (W'.setCell ⟨q.Q, 2, none⟩ (.slice (some ⟨g, 0, none⟩) (at_.length + 1) cap)) { q with vA := .slice (some ⟨g, 0, none⟩) (at_.length + 1) cap } nw su (at_ ++ [u]) op fz := by
  obtain ⟨h1, h2, h3⟩ := h.ob.appended (a := [⟨q.vN, 9, 1, nw.length, nw⟩, ⟨q.vS, 9, 1, su.length, su⟩]) (r := ⟨q.vA, 3, 1, at_.length, at_⟩) (b := [⟨q.vO, 9, 1, op.length, op⟩]) hown hg hat
  obtain ⟨h4, h5⟩ := h1.set 2 (.slice (some ⟨g, 0, none⟩) (at_.length + 1) cap)
  have e : (at_ ++ [u]).length = at_.length + 1 := by simp
  refine h.next (by unfold QV.rows; rw [e]; exact h4) (h2.trans (h5.mono (fp' := obFp q.Q (q.rows nw su at_ op)) (by simp [obFp])) (fun _ h _ => h)) (fun k hk => h3 k (by unfold QV.rows at hk; rw [e] at hk; exact hk))
theorem Rp.appO (h : Rp base fp0 w W q nw su at_ op fz) {ob : Obj} {g cap : Nat} {u : Value} (hown : W'.ownsRow base 9 1 (.slice (some ⟨g, 0, none⟩) (op.length + 1) cap) (op.length + 1) (op ++ [u]))
    (hg : (W.alloc ob).grownBy W' q.vO.ownBlock) (hat : q.vO.ownBlock = some g ∨ g = W.heap.size + 1) :
    Rp base fp0 w (W'.setCell ⟨q.Q, 3, none⟩ (.slice (some ⟨g, 0, none⟩) (op.length + 1) cap)) { q with vO := .slice (some ⟨g, 0, none⟩) (op.length + 1) cap } nw su at_ (op ++ [u]) fz := by
  obtain ⟨h1, h2, h3⟩ := h.ob.appended (a := [⟨q.vN, 9, 1, nw.length, nw⟩, ⟨q.vS, 9, 1, su.length, su⟩, ⟨q.vA, 3, 1, at_.length, at_⟩]) (r := ⟨q.vO, 9, 1, op.length, op⟩) (b := []) hown hg hat
  obtain ⟨h4, h5⟩ := h1.set 3 (.slice (some ⟨g, 0, none⟩) (op.length + 1) cap)
  have e : (op ++ [u]).length = op.length + 1 := by simp
  refine h.next (by unfold QV.rows; rw [e]; exact h4) (h2.trans (h5.mono (fp' := obFp q.Q (q.rows nw su at_ op)) (by simp [obFp])) (fun _ h _ => h)) (fun k hk => h3 k (by unfold QV.rows at hk; rw [e] at hk; exact hk))
/-- The open writes are none. -/
theorem Rp.clear2 (h : Rp base fp0 w W q nw su at_ op fz) : Rp base fp0 w ((W.setCell ⟨q.Q, 2, none⟩ (.slice none 0 0)).setCell ⟨q.Q, 3, none⟩ (.slice none 0 0)) { q with vA := .slice none 0 0, vO := .slice none 0 0 } nw su [] [] fz := by
  obtain ⟨h1, h2⟩ := h.ob.cleared (a := [⟨q.vN, 9, 1, nw.length, nw⟩, ⟨q.vS, 9, 1, su.length, su⟩]) (r := ⟨q.vA, 3, 1, at_.length, at_⟩) (b := [⟨q.vO, 9, 1, op.length, op⟩])
  obtain ⟨h3, h4⟩ := h1.cleared (a := [⟨q.vN, 9, 1, nw.length, nw⟩, ⟨q.vS, 9, 1, su.length, su⟩, ⟨.slice none 0 0, 3, 1, 0, []⟩]) (r := ⟨q.vO, 9, 1, op.length, op⟩) (b := [])
  obtain ⟨h5, h6⟩ := h3.set 2 (.slice none 0 0)
  obtain ⟨h7, h8⟩ := h5.set 3 (.slice none 0 0)
  exact h.next h7 ((h6.mono (fp' := obFp q.Q (q.rows nw su at_ op)) (by simp [obFp])).trans (h8.mono (fp' := obFp q.Q (q.rows nw su at_ op)) (by simp [obFp])) (fun _ h _ => h)) (fun k hk => .inl (h2 k (h4 k hk)))
end
def atC (l : List (Nat × List UInt8)) : List Value := l.map fun x => .int .i64 (x.1 : Int)
def opC (l : List (Nat × List UInt8)) : List Value := l.map fun x => .string (B x.2)
theorem QV.rows_eq (q : QV) (s : DS) : q.rows (strC s.now) (strC s.sure) (atC s.opn) (opC s.opn) = [q.rN s, q.rS s, q.rA s, q.rO s] := by
  unfold QV.rows QV.rN QV.rS QV.rA QV.rO atC opC
  rw [strC_len, strC_len, List.length_map, List.length_map]
theorem Rd.rp {base : Nat} {w : World} {q : QV} {s : DS} (h : Rd base w q s) : Rp base (q.fp s) w w q (strC s.now) (strC s.sure) (atC s.opn) (opC s.opn) (fzI s.fuse) :=
  ⟨by rw [QV.rows_eq]; exact h.ob, Only.refl _ _, fun k hk => .inl (by rw [QV.rows_eq] at hk; exact hk)⟩
theorem Rp.goes {base : Nat} {w W : World} {q q' : QV} {s s' : DS} (h : Rp base (q.fp s) w W q' (strC s'.now) (strC s'.sure) (atC s'.opn) (opC s'.opn) (fzI s'.fuse)) (hq : q'.Q = q.Q) (len : s'.sure.length = s'.now.length ∧ 8 ≤ s'.now.length ∧ s'.now.length ≤ 4096)
    (secN : ∀ x ∈ s'.now, x.length = 64) (secS : ∀ x ∈ s'.sure, x.length = 64) (wr : ∀ x ∈ s'.opn, x.1 < s'.now.length ∧ x.2.length = 64) (fuse : ∀ k, s'.fuse = some k → k < 9223372036854775808) : RGoes base w W q s s' := by
  have e := QV.rows_eq q' s'
  exact ⟨q', hq, ⟨by have := h.ob; rw [e] at this; exact this, len, secN, secS, wr, fuse⟩, h.only, fun k hk => h.fp k (by rw [e]; exact hk)⟩
theorem writeR_bad (s : DS) (n : Int) (t : ByteArray) (h : ¬ (0 ≤ n ∧ n < (s.now.length : Int))) : writeR s n t = (s, 2) := by
  unfold writeR hasE; rw [if_neg h, if_neg (by decide)]
theorem writeR_long (s : DS) (n : Int) (t : ByteArray) (h : 0 ≤ n ∧ n < (s.now.length : Int)) (ht : ¬ t.size ≤ 64) : writeR s n t = (s, 3) := by
  unfold writeR hasE; rw [if_pos h, if_pos rfl, if_neg ht]
theorem writeR_down (s : DS) (n : Int) (t : ByteArray) (h : 0 ≤ n ∧ n < (s.now.length : Int)) (ht : t.size ≤ 64) (hf : s.fuse = some 0) : writeR s n t = (s, 30) := by
  unfold writeR hasE wrR; rw [if_pos h, if_pos rfl, if_pos ht, if_pos hf]
theorem writeR_good (s : DS) (n : Int) (t : ByteArray) (h : 0 ≤ n ∧ n < (s.now.length : Int)) (ht : t.size ≤ 64) (hf : s.fuse ≠ some 0) : writeR s n t = (writeS (blS s) n.toNat (padS t), 0) := by
  unfold writeR hasE wrR blS; rw [if_pos h, if_pos rfl, if_pos ht, if_neg hf, if_neg hf]
theorem pad_str (t : ByteArray) (ht : t.size ≤ 64) : t ++ (B z64).extract t.size (B z64).size = B (padS t) := by
  obtain ⟨l, rfl, -⟩ := B_ex t
  rw [B_size] at ht
  rw [B_extract, B_append, B_size, B_size]
  unfold padS
  have e64 : z64.length = 64 := rfl
  rw [B_data, List.take_of_length_le (l := l) (by omega), e64]
  congr 2
  unfold z64
  rw [List.drop_replicate, List.take_replicate, Nat.min_self]
theorem isZ_false {f : Option Nat} (h : f ≠ some 0) : isZ f = false := by unfold isZ; simpa using h
theorem info3 : (Try.prog.info? 3).map (fun i => (i.zero, i.size, i.bytes)) = some (some (.int .i64 0), 1, 8) := by kernel_rfl
theorem info9 : (Try.prog.info? 9).map (fun i => (i.zero, i.size, i.bytes)) = some (some (.string ⟨#[]⟩), 1, 16) := by kernel_rfl
end Go.Proofs.Ytlafanbilodafaa
