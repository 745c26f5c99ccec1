/- A log is opened. -/
import Derived.Test.YtnhgakmnkpjpdaaX6
import Derived.Test.YtnhgakmnkpjpdaaPT
set_option maxRecDepth 100000
set_option linter.unusedVariables false
set_option linter.unusedSimpArgs false
namespace Go.Proofs.Ytnhgakmnkpjpdaa
open Go Go.RowKit Go.Proofs.YtnhgakmnkpjpdaaW.PrintWords Go.Proofs.YtnhgakmnkpjpdaaW.PrintLast Go.Proofs.YtnhgakmnkpjpdaaW.PrintMore
attribute [local go_sem] Oper.semAt_some max2_int min2_int max_two min_two max_three min_three max_four min_four
def openH (s : DS) : Bool → RS := fun b => cond b (openRS s (s.now.length / 2) (s.now.length / 2)) (openRS s 0 (s.now.length / 2))
def logOf (h : Bool → RS) : Bool := decide ((h false).first < (h true).first)
def openW (s : DS) : Option WS := (Pure.parseA [] (openH s (logOf (openH s))).texts).map fun L => ⟨openH s, logOf (openH s), L, false⟩
def walBox (D : Nat) (c1 c2 : Value) : Obj := .cells #[ptr D, c1, c2, .int .i64 0, .slice none 0 0, .bool false] 78 (0, 0)
section
variable {w0 w w' : World} {l : List (Nat × DS)} {F : List Nat} {i D : Nat} {s : DS} {m : WM} {q : WS}
theorem RowAt.weaken {b b' : Nat} {W : World} {R : Nat} {tv : Value} {r : RS} (h : RowAt b W R D tv r) (hb : b' ≤ b) : RowAt b' W R D tv r :=
  ⟨⟨Nat.le_trans hb h.ob.hO, h.ob.obj, fun x hx => ownsRow_weaken (h.ob.own x hx) hb, h.ob.nd⟩, h.lay, h.num⟩
theorem Wl.opened (h : Dr w0 w l F) (hi : l[i]? = some (D, s)) {wr : World} (ho : Only [] w wr) {O mid R0 R1 : Nat} {tv0 tv1 : Value} {h0 h1 : RS} (hO : w.heap.size ≤ O) (hb : wr.heap[O]? = some (walBox D (ptr R0) (ptr R1)))
    (r0 : RowAt (O + 1) wr R0 D tv0 h0) (hm : ∀ k ∈ rwFp R0 tv0, k < mid) (r1 : RowAt mid wr R1 D tv1 h1) (hmid : O + 1 ≤ mid) :
    Wl w0 wr l (O :: (rwFp R0 tv0 ++ (rwFp R1 tv1 ++ F))) i D s ⟨O, fun b => cond b R1 R0, fun b => cond b tv1 tv0, .slice none 0 0, [], []⟩ ⟨fun b => cond b h1 h0, false, [], false⟩ := by
  have hbase := h.below.size
  have hOl : O < wr.heap.size := (Array.getElem?_eq_some_iff.1 hb).1
  have l0 := r0.fp_lt
  have l1 := r1.fp_lt
  have hdr : Dr w0 wr l (O :: (rwFp R0 tv0 ++ (rwFp R1 tv1 ++ F))) := h.grow [] _ ho (by simp) (fun k hk => by
    rcases List.mem_cons.1 hk with e | e
    · exact .inr ⟨by omega, by omega⟩
    · rcases List.mem_append.1 e with e | e
      · have := l0 k e; exact .inr ⟨by omega, by omega⟩
      · rcases List.mem_append.1 e with e | e
        · have := l1 k e; exact .inr ⟨by omega, by omega⟩
        · exact .inl e)
  refine ⟨fun b => ?_, ⟨by show w0.heap.size ≤ O; omega, hb, fun r hr => ?_, by simp [obFp, WS.rows, RowV.fp, Value.ownBlock]⟩, Txs.none _ _, fun k hk => ?_, fun k hk => (by cases hk), fun b k hk => ⟨fun e => ?_, fun e => (by cases e)⟩, fun k hk e => ?_, fun k hk e => (by cases e)⟩
  · cases b with
    | true => exact ⟨hdr, hi, r1.weaken (by omega), fun k hk => List.mem_cons_of_mem _ (List.mem_append_right _ (List.mem_append_left _ hk))⟩
    | false => exact ⟨hdr, hi, r0.weaken (by omega), fun k hk => List.mem_cons_of_mem _ (List.mem_append_left _ hk)⟩
  · simp only [WS.rows, List.mem_singleton] at hr
    rw [hr]; exact World.ownsRow_nil _ _ _ _
  · have e : k = O := by simpa [WM.own, Value.ownBlock] using hk
    rw [e]; simp
  · have e2 : k = O := by simpa [WM.own, Value.ownBlock] using e
    cases b with
    | true => have := l1 k hk; omega
    | false => have := l0 k hk; omega
  · have h7 := hm k hk
    have h8 := l1 k e
    omega
/-- Other blocks are made beside. -/
theorem Wl.more (h : Wl w0 w l F i D s m q) (ho : Only [] w w') (G : List Nat) (hG : ∀ k ∈ G, w.heap.size ≤ k ∧ k < w'.heap.size) : Wl w0 w' l (G ++ F) i D s m q := by
  have h2 := h.new ho
  have hdr : Dr w0 w' l (G ++ F) := (h.rw false).dr.grow [] _ ho (by simp) (fun k hk => (List.mem_append.1 hk).elim (fun e => .inr (hG k e)) .inl)
  exact ⟨fun b => ⟨hdr, (h2.rw b).hi, (h2.rw b).row, fun k hk => List.mem_append_right _ ((h.rw b).fp k hk)⟩, h2.ob, h2.tx, fun k hk => List.mem_append_right _ (h.fpO k hk), fun k hk => List.mem_append_right _ (h.fpB k hk), h.d0, h.d1, h.d2⟩
/-- Under way: so many halves are opened. -/
inductive OpI (w : World) (O D : Nat) (h0 h1 : RS) : Nat → World → Prop
  | z {wr : World} : Only [] w wr → O < wr.heap.size → wr.heap[O]? = some (walBox D (.pointer none) (.pointer none)) → OpI w O D h0 h1 0 wr
  | o {wr : World} {R0 : Nat} {tv0 : Value} : Only [] w wr → O < wr.heap.size → wr.heap[O]? = some (walBox D (ptr R0) (.pointer none)) → RowAt (O + 1) wr R0 D tv0 h0 → OpI w O D h0 h1 1 wr
  | t {wr : World} {R0 R1 mid : Nat} {tv0 tv1 : Value} : Only [] w wr → O < wr.heap.size → wr.heap[O]? = some (walBox D (ptr R0) (ptr R1)) → RowAt (O + 1) wr R0 D tv0 h0 → (∀ k ∈ rwFp R0 tv0, k < mid) → RowAt mid wr R1 D tv1 h1 → O + 1 ≤ mid → OpI w O D h0 h1 2 wr
theorem OpI.only {O : Nat} {h0 h1 : RS} {n : Nat} {wr : World} (h : OpI w O D h0 h1 n wr) : Only [] w wr := by cases h <;> assumption
theorem OpI.box {O : Nat} {h0 h1 : RS} {n : Nat} {wr : World} (h : OpI w O D h0 h1 n wr) : ∃ c1 c2, wr.heap[O]? = some (walBox D c1 c2) := by cases h <;> exact ⟨_, _, by assumption⟩
theorem set_heap (w : World) (O j : Nat) (cs : Array Value) (ty : Nat) (x : Value) (h : w.heap[O]? = some (.cells cs ty (0, 0))) : (w.setCell ⟨O, j, none⟩ x).heap[O]? = some (.cells (cs.setIfInBounds j x) ty (0, 0)) := heap_setCell_same w O j cs ty x h
theorem OpI.first {O : Nat} {h0 h1 : RS} {wr w2 : World} (h : OpI w O D h0 h1 0 wr) (hO : w.heap.size ≤ O) (ho : Only [] wr w2) {R : Nat} {tv : Value} (hr : RowAt wr.heap.size w2 R D tv h0) : OpI w O D h0 h1 1 (w2.setCell ⟨O, 1, none⟩ (ptr R)) := by
  cases h with
  | z a1 a2 a3 =>
    have b3 : w2.heap[O]? = some (walBox D (.pointer none) (.pointer none)) := (ho.block O a2 (by simp)).trans a3
    have hs : Only [O] w2 (w2.setCell ⟨O, 1, none⟩ (ptr R)) := Only.setCell _ _ _ (by simp)
    have hsz := ho.size
    refine OpI.o (R0 := R) (tv0 := tv) ((a1.trans ho (fun _ h _ => h)).on hs (fun k hk => by rw [List.mem_singleton] at hk; omega)) (by have := hs.size; omega) (heap_setCell_same w2 O 1 _ 78 (ptr R) b3) ((hr.kept hs (fun k hk e => ?_)).weaken (by omega))
    rw [List.mem_singleton] at e
    have := (hr.fp_lt k hk).1
    omega
theorem OpI.second {O : Nat} {h0 h1 : RS} {wr w2 : World} (h : OpI w O D h0 h1 1 wr) (hO : w.heap.size ≤ O) (ho : Only [] wr w2) {R : Nat} {tv : Value} (hr : RowAt wr.heap.size w2 R D tv h1) : OpI w O D h0 h1 2 (w2.setCell ⟨O, 2, none⟩ (ptr R)) := by
  cases h with
  | @o _ R0 tv0 a1 a2 a3 a4 =>
    have b3 : w2.heap[O]? = some (walBox D (ptr R0) (.pointer none)) := (ho.block O a2 (by simp)).trans a3
    have hs : Only [O] w2 (w2.setCell ⟨O, 2, none⟩ (ptr R)) := Only.setCell _ _ _ (by simp)
    have hsz := ho.size
    refine OpI.t (R0 := R0) (R1 := R) (mid := wr.heap.size) (tv0 := tv0) (tv1 := tv) ((a1.trans ho (fun _ h _ => h)).on hs (fun k hk => by rw [List.mem_singleton] at hk; omega)) (by have := hs.size; omega) (heap_setCell_same w2 O 2 _ 78 (ptr R) b3) ((a4.new ho).kept hs (fun k hk e => ?_)) (fun k hk => (a4.fp_lt k hk).2) (hr.kept hs (fun k hk e => ?_)) (by omega)
    · rw [List.mem_singleton] at e
      have := (a4.fp_lt k hk).1
      omega
    · rw [List.mem_singleton] at e
      have := (hr.fp_lt k hk).1
      omega
/-- What an append of one more transaction leaves alone. -/
theorem Wl.appdO (h : Wl w0 w l F i D s m q) {w1 : World} (ho : Only [] w w1) {v2 : Value} {W4 : World} {g cap : Nat} {ob : Obj}
    (hown : W4.ownsRow w0.heap.size 22 1 (.slice (some ⟨g, 0, none⟩) (q.txns.length + 1) cap) (q.txns.length + 1) (m.vs ++ [v2])) (hg : (w1.alloc ob).grownBy W4 m.xv.ownBlock) (hat : m.xv.ownBlock = some g ∨ g = w1.heap.size + 1) :
    Only m.own w (W4.setCell ⟨m.O, 4, none⟩ (.slice (some ⟨g, 0, none⟩) (q.txns.length + 1) cap)) ∧ W4.cell? ⟨m.O, 4, none⟩ = some m.xv ∧ W4.frozen? ⟨m.O, 4, none⟩ = false := by
  have h1 := h.new ho
  have a := Ob.appended (a := []) (b := []) h1.ob hown hg hat
  have a2 : Only m.own w1 W4 := by
    have := a.2.1
    rwa [show ([] ++ (⟨m.xv, 22, 1, q.txns.length, m.vs⟩ : RowV) :: []) = q.rows m.xv m.vs from rfl, own_fp] at this
  have a1 := a.1.set 4 (.slice (some ⟨g, 0, none⟩) (q.txns.length + 1) cap)
  have hO : m.O ∈ m.own := by simp [WM.own]
  have hall : Only m.own w1 (W4.setCell ⟨m.O, 4, none⟩ (.slice (some ⟨g, 0, none⟩) (q.txns.length + 1) cap)) := a2.trans (a1.2.mono (fun k hk => by rw [List.mem_singleton] at hk; rw [hk]; exact hO)) (fun _ h _ => h)
  exact ⟨(ho.mono (by simp)).trans hall (fun _ h _ => h), a.1.cell 4, a.1.free 4⟩
/-- Under way: so many texts are taken. -/
structure Lp (w0 w wt : World) (l : List (Nat × DS)) (F : List Nat) (i D : Nat) (s : DS) (O : Nat) (hf : Bool → RS) (LG : Bool) (T : List ByteArray) (TB : List Nat) (j : Nat) (wr : World) (m : WM) (L : List (List ByteArray)) (F' : List Nat) : Prop where
  wl : Wl w0 wr l F' i D s m ⟨hf, LG, L, false⟩
  eO : m.O = O
  par : Pure.parseA [] T = Pure.parseA L (T.drop j)
  len : L.length = j
  only : Only [] w wr
  sub : ∀ k ∈ F, k ∈ F'
  new : ∀ k ∈ F', k ∈ F ∨ w.heap.size ≤ k
  fp : ∀ k ∈ m.fp, w.heap.size ≤ k
  tb : ∀ k ∈ TB, wr.heap[k]? = wt.heap[k]? ∧ k ∈ F' ∧ k ∉ m.fp
theorem Lp.step {wt wr w5 W4 : World} {O : Nat} {hf : Bool → RS} {LG : Bool} {T : List ByteArray} {TB F' B2 : List Nat} {j : Nat} {L : List (List ByteArray)} (h : Lp w0 w wt l F i D s O hf LG T TB j wr m L F') {t : ByteArray} {x : List ByteArray} (ht : T[j]? = some t) (hx : Pure.one t = some x)
    (ho : Only [] wr w5) {v2 : Value} (hv : StrAt w5 B2 v2 x) (hvl : ∀ k ∈ B2, wr.heap.size ≤ k ∧ k < w5.heap.size) {g cap : Nat} {ob : Obj}
    (hown : W4.ownsRow w0.heap.size 22 1 (.slice (some ⟨g, 0, none⟩) (L.length + 1) cap) (L.length + 1) (m.vs ++ [v2])) (hg : (w5.alloc ob).grownBy W4 m.xv.ownBlock) (hat : m.xv.ownBlock = some g ∨ g = w5.heap.size + 1) :
    ∃ m2 F2, Lp w0 w wt l F i D s O hf LG T TB (j + 1) (W4.setCell ⟨O, 4, none⟩ (.slice (some ⟨g, 0, none⟩) (L.length + 1) cap)) m2 (L ++ [x]) F2 := by
  have hW := h.wl.appdB ho hv hvl (q := ⟨hf, LG, L, false⟩) hown hg hat
  have hO := (h.wl.appdO ho (q := ⟨hf, LG, L, false⟩) hown hg hat).1
  rw [h.eO] at hW hO
  have hwl := hW.wl
  rw [set_self (h.wl.rw false).hi] at hwl
  have hjl : j < T.length := (List.getElem?_eq_some_iff.1 ht).1
  refine ⟨_, _, hwl, rfl, ?_, by rw [List.length_append, List.length_singleton, h.len], ?_, fun k hk => hW.sub k (h.sub k hk), fun k hk => ?_, fun k hk => ?_, fun k hk => ?_⟩
  · rw [h.par, List.drop_eq_getElem_cons hjl]
    have e : T[j] = t := by rw [List.getElem?_eq_getElem hjl] at ht; exact Option.some.inj ht
    rw [e]
    show (match Pure.one t with | some x => Pure.parseA (L ++ [x]) (T.drop (j + 1)) | none => none) = _
    rw [hx]
  · exact h.only.on hO (fun k hk => h.fp k (List.mem_append_left _ hk))
  · have hsz := h.only.size
    have hs5 := ho.size
    rcases List.mem_append.1 hk with e | e
    · have e2 : k = g := by simpa using e
      rcases hat with e3 | e3
      · exact .inr (h.fp k (List.mem_append_left _ (by rw [e2]; unfold WM.own; rw [e3]; simp)))
      · exact .inr (by omega)
    · rcases List.mem_append.1 e with e | e
      · rcases List.mem_append.1 e with e | e
        · have := hvl k e; exact .inr (by omega)
        · exact h.new k (h.wl.fpB k e)
      · exact h.new k e
  · rcases hW.fresh k hk with e | e
    · exact h.fp k e
    · have hsz := h.only.size
      have hk2 : k ∈ ([O, g] ++ (rwFp (m.R false) (m.v false) ++ rwFp (m.R true) (m.v true))) := by simpa [WM.fp, WM.own, Value.ownBlock] using hk
      rcases List.mem_append.1 hk2 with e5 | e5
      · rcases List.mem_cons.1 e5 with e6 | e6
        · have hO : m.O ∈ m.fp := by simp [WM.fp, WM.own]
          rw [h.eO] at hO
          rw [e6]; exact h.fp _ hO
        · have e7 : k = g := by simpa using e6
          have hs5 := ho.size
          rcases hat with e3 | e3
          · exact h.fp k (List.mem_append_left _ (by rw [e7]; unfold WM.own; rw [e3]; simp))
          · omega
      · exact h.fp k (List.mem_append_right _ e5)
  · obtain ⟨t1, t2, t3⟩ := h.tb k hk
    refine ⟨(hW.same k t2 t3).trans t1, hW.sub k t2, fun e => ?_⟩
    rcases hW.fresh k e with e2 | e2
    · exact t3 e2
    · exact e2 t2
theorem num_succ (j nt : Nat) (h : j < nt) (h2 : nt ≤ 4096) : Value.int .i64 (wrap64 ((j : Int) + 1)) = Value.int .i64 ((j + 1 : Nat) : Int) := by
  have e : wrap64 ((j : Int) + 1) = ((j + 1 : Nat) : Int) := by unfold wrap64; omega
  rw [e]
theorem str_ne {r : ByteArray} (h : r ≠ B []) : r.toList.isEmpty = false := by
  cases hl : r.toList with
  | nil =>
    exfalso
    refine h ?_
    rw [← Pure.B_self' r, ← ByteArray.toList_eq, hl]
  | cons x l => rfl
theorem Lp.start {wy wt : World} {O R0 R1 : Nat} {tv0 tv1 v : Value} {h0 h1 : RS} {LG : Bool} {n : Nat} {xs : List Value} (h : Wl w0 wy l (O :: (rwFp R0 tv0 ++ (rwFp R1 tv1 ++ F))) i D s ⟨O, fun b => cond b R1 R0, fun b => cond b tv1 tv0, .slice none 0 0, [], []⟩ ⟨fun b => cond b h1 h0, LG, [], false⟩)
    (hot : Only [] wy wt) (ho : Only [] w wy) (hown : wt.ownsRow wy.heap.size 9 1 v n xs) (hfr : ∀ k ∈ rwFp R0 tv0 ++ rwFp R1 tv1, w.heap.size ≤ k) (hO : w.heap.size ≤ O) (T : List ByteArray) :
    Lp w0 w wt l F i D s O (fun b => cond b h1 h0) LG T v.ownBlock.toList 0 wt ⟨O, fun b => cond b R1 R0, fun b => cond b tv1 tv0, .slice none 0 0, [], []⟩ [] (v.ownBlock.toList ++ (O :: (rwFp R0 tv0 ++ (rwFp R1 tv1 ++ F)))) := by
  have hsz := ho.size
  have hlow := (h.rw false).dr.lt
  have hbd : ∀ k ∈ v.ownBlock.toList, wy.heap.size ≤ k ∧ k < wt.heap.size := fun k hk => ownsRow_lt hown hk
  refine ⟨h.more hot _ hbd, rfl, by rw [List.drop_zero], rfl, ho.trans hot (fun _ h _ => h), fun k hk => ?_, fun k hk => ?_, fun k hk => ?_, fun k hk => ⟨rfl, List.mem_append_left _ hk, fun e => ?_⟩⟩
  · exact List.mem_append_right _ (List.mem_cons_of_mem _ (List.mem_append_right _ (List.mem_append_right _ hk)))
  · rcases List.mem_append.1 hk with e | e
    · have := hbd k e; exact .inr (by omega)
    · rcases List.mem_cons.1 e with e | e
      · exact .inr (by rw [e]; exact hO)
      · rw [← List.append_assoc] at e
        rcases List.mem_append.1 e with e | e
        · exact .inr (hfr k e)
        · exact .inl e
  · have hk2 : k ∈ [O] ++ (rwFp R0 tv0 ++ rwFp R1 tv1) := hk
    rcases List.mem_append.1 hk2 with e | e
    · rw [List.mem_singleton] at e; rw [e]; exact hO
    · exact hfr k e
  · have hk2 : k ∈ [O] ++ (rwFp R0 tv0 ++ rwFp R1 tv1) := e
    have h6 := hbd k hk
    have h7 : k ∈ O :: (rwFp R0 tv0 ++ (rwFp R1 tv1 ++ F)) := by
      rcases List.mem_append.1 hk2 with e | e
      · rw [List.mem_singleton] at e; rw [e]; exact List.mem_cons_self
      · rw [← List.append_assoc]; exact List.mem_cons_of_mem _ (List.mem_append_left _ e)
    have := hlow k h7
    omega
set_option maxHeartbeats 8000000 in
theorem Wal_Open (h : Dr w0 w l F) (hi : l[i]? = some (D, s)) (hn2 : 2 ≤ s.now.length) (hn3 : s.now.length ≤ 4096) :
    Calls Try.prog 11 #[ptr D] w fun e w' => Only [] w w' ∧ match openW s with
      | none => e = .returned (.tuple #[.pointer none, .int .i64 5])
      | some q => ∃ m F', e = .returned (.tuple #[ptr m.O, .int .i64 0]) ∧ Wl w0 w' l F' i D s m q ∧ (∀ k ∈ F, k ∈ F') ∧ (∀ k ∈ F', k ∈ F ∨ w.heap.size ≤ k) ∧ (∀ k ∈ m.fp, w.heap.size ≤ k) := by
  obtain ⟨Post, hPost⟩ : ∃ Post : Ending → World → Prop, Post = fun e w' => Only [] w w' ∧ match openW s with
      | none => e = .returned (.tuple #[.pointer none, .int .i64 5])
      | some q => ∃ m F', e = .returned (.tuple #[ptr m.O, .int .i64 0]) ∧ Wl w0 w' l F' i D s m q ∧ (∀ k ∈ F, k ∈ F') ∧ (∀ k ∈ F', k ∈ F ∨ w.heap.size ≤ k) ∧ (∀ k ∈ m.fp, w.heap.size ≤ k) := ⟨_, rfl⟩
  rw [← hPost]
  have HPN : Hid (∀ w', Only [] w w' → openW s = none → Post (.returned (.tuple #[.pointer none, .int .i64 5])) w') := fun w' h1 h2 => by rw [hPost]; refine ⟨h1, ?_⟩; rw [h2]
  have HPS : Hid (∀ (w' : World) (q : WS) (m : WM) (F' : List Nat), Only [] w w' → openW s = some q → Wl w0 w' l F' i D s m q → (∀ k ∈ F, k ∈ F') → (∀ k ∈ F', k ∈ F ∨ w.heap.size ≤ k) → (∀ k ∈ m.fp, w.heap.size ≤ k) → Post (.returned (.tuple #[ptr m.O, .int .i64 0])) w') := fun w' q m F' h1 h2 h3 h4 h5 h6 => by rw [hPost]; refine ⟨h1, ?_⟩; rw [h2]; exact ⟨m, F', rfl, h3, h4, h5, h6⟩
  have HS := hid (h.size hi)
  have HDR := hid (And.intro h hi)
  obtain ⟨n, hn⟩ : ∃ n, s.now.length = n := ⟨_, rfl⟩
  rw [hn] at HS hn2 hn3
  obtain ⟨mn, hmn⟩ : ∃ mn, mn = n / 2 := ⟨_, rfl⟩
  obtain ⟨h0, hh0⟩ : ∃ h0, h0 = openRS s 0 mn := ⟨_, rfl⟩
  obtain ⟨h1, hh1⟩ : ∃ h1, h1 = openRS s mn mn := ⟨_, rfl⟩
  have HH : Hid (openH s = fun b => cond b h1 h0) := by show openH s = _; unfold openH; rw [hn, ← hmn, hh0, hh1]
  have HOP0 := hid (fun (wr : World) (ho : Only [] w wr) => (hh0 ▸ Open_ok (h.new ho) hi 0 mn (by omega) (by omega) (by omega)))
  have HOP1 := hid (fun (wr : World) (ho : Only [] w wr) => (hh1 ▸ Open_ok (h.new ho) hi mn mn (by omega) (by omega) (by omega)))
  have HTX0 : Hid (∀ t ∈ h0.texts, t.size ≤ 98304) := fun t ht => (Pure.rowT_texts _ t (by rw [hh0] at ht; exact ht)).1
  have HTX1 : Hid (∀ t ∈ h1.texts, t.size ≤ 98304) := fun t ht => (Pure.rowT_texts _ t (by rw [hh1] at ht; exact ht)).1
  have e32 : ∀ args w, (callFunc 32 args).run Try.prog w = .ok (.enter 32 args) w := enters_of Try.func32 (by kernel_rfl) rfl
  have e33 : ∀ args w, (callFunc 33 args).run Try.prog w = .ok (.enter 33 args) w := enters_of Try.func33 (by kernel_rfl) rfl
  have e34 : ∀ args w, (callFunc 34 args).run Try.prog w = .ok (.enter 34 args) w := enters_of Try.func34 (by kernel_rfl) rfl
  have e35 : ∀ args w, (callFunc 35 args).run Try.prog w = .ok (.enter 35 args) w := enters_of Try.func35 (by kernel_rfl) rfl
  have e36 : ∀ args w, (callFunc 36 args).run Try.prog w = .ok (.enter 36 args) w := enters_of Try.func36 (by kernel_rfl) rfl
  have e37 : ∀ args w, (callFunc 37 args).run Try.prog w = .ok (.enter 37 args) w := enters_of Try.func37 (by kernel_rfl) rfl
  have eq1 : (n : Int).tdiv 2 = (mn : Int) := by rw [Int.tdiv_eq_ediv_of_nonneg (by omega)]; omega
  have eq2 : IntKind.i64.wrap (mn : Int) = (mn : Int) := by rw [IntKind.wrap_i64]; omega
  have eq3 : IntKind.i64.wrap (0 : Int) = 0 := by decide
  have eq4 : IntKind.i64.wrap (1 * (mn : Int)) = (mn : Int) := by rw [Int.one_mul]; exact eq2
  have eq5 : IntKind.i64.wrap (0 * (mn : Int)) = 0 := by rw [Int.zero_mul]; exact eq3
  have mixed : Try.prog.follows Departure.mixedOrders = true := by kernel_rfl
  unfold ptr at *
  clear h hi hPost hn hh0 hh1 hn2 hn3
  have HMN := hid hmn
  clear hmn
  go_enter Try.func11, Try.ntmps11
  go_wp2_with (go_at_call 32; refine HS.out.mono ?_; rintro e w' ⟨rfl, hw⟩; have hw2 := hw.symm; clear hw; subst hw2)
  go_loopg [20] 2 (fun kx s20 wr => ∃ (i : Nat), s20 = .int .i64 i ∧ i ≤ 2 ∧ 2 - i ≤ kx ∧ Hid (OpI w w.heap.size D h0 h1 i wr))
  case atStart => exact ⟨0, rfl, by omega, by omega, OpI.z (Only.alloc _ _ _) (by simp) (heap_alloc_new w _)⟩
  case round =>
    obtain ⟨i, rfl, hin, hk, HR⟩ := hrel
    have HN := hid hin
    rcases (show i = 0 ∨ i = 1 ∨ i = 2 by omega) with rfl | rfl | rfl
    · have q1 : decide ((0 : Int) < 2) = true := by decide
      obtain ⟨c1, c2, hb⟩ := HR.out.box
      have ho := HR.out.only
      have hop := HOP0.out wr ho
      clear HN
      unfold ptr at hop
      go_wp2_with fail
      go_at_call 33
      refine hop.mono ?_
      rintro e w2 ⟨R, tv, rfl, ho2, hra⟩
      have HR2 := hid (HR.out.first (Nat.le_refl _) ho2 hra)
      have hO2 : w2.heap[w.heap.size]? = some (walBox D c1 c2) := (ho2.block _ (Array.getElem?_eq_some_iff.1 hb).1 (by simp)).trans hb
      have k1 : w2.cell? ⟨w.heap.size, 1, none⟩ = some c1 := cell_of_row _ _ _ _ _ _ hO2
      have f1 : w2.frozen? ⟨w.heap.size, 1, none⟩ = false := frozen_of_row _ _ _ _ _ hO2
      clear hop ho2 hra hb ho
      go_wp2_with fail
      go_roundg (1)
      case measure => omega
      case rel => exact ⟨1, rfl, by omega, by omega, HR2⟩
    · have q1 : decide ((1 : Int) < 2) = true := by decide
      obtain ⟨c1, c2, hb⟩ := HR.out.box
      have ho := HR.out.only
      have hop := HOP1.out wr ho
      clear HN
      unfold ptr at hop
      go_wp2_with fail
      go_at_call 33
      refine hop.mono ?_
      rintro e w2 ⟨R, tv, rfl, ho2, hra⟩
      have HR2 := hid (HR.out.second (Nat.le_refl _) ho2 hra)
      have hO2 : w2.heap[w.heap.size]? = some (walBox D c1 c2) := (ho2.block _ (Array.getElem?_eq_some_iff.1 hb).1 (by simp)).trans hb
      have k1 : w2.cell? ⟨w.heap.size, 2, none⟩ = some c2 := cell_of_row _ _ _ _ _ _ hO2
      have f1 : w2.frozen? ⟨w.heap.size, 2, none⟩ = false := frozen_of_row _ _ _ _ _ hO2
      clear hop ho2 hra hb ho
      go_wp2_with fail
      go_roundg (0)
      case measure => omega
      case rel => exact ⟨2, rfl, by omega, by omega, HR2⟩
    · have q1 : decide ((2 : Int) < 2) = false := by decide
      clear HOP0 HOP1 HN
      cases HR.out with
      | @t _ R0 R1 mid tv0 tv1 a1 a2 a3 a4 a5 a6 a7 =>
        have HW := hid (Wl.opened HDR.out.1 HDR.out.2 a1 (Nat.le_refl _) a3 a4 a5 a6 a7)
        have HA1 := hid a1
        have HFR : Hid (∀ k ∈ rwFp R0 tv0 ++ rwFp R1 tv1, w.heap.size ≤ k) := fun k hk => by
          rcases List.mem_append.1 hk with e | e
          · have := a4.fp_lt k e; omega
          · have := a6.fp_lt k e; omega
        clear a1 a2 a3 a4 a5 a6 a7 HR
        obtain ⟨O, hO⟩ : ∃ O, w.heap.size = O := ⟨_, rfl⟩
        rw [hO] at HW
        have HOE := hid (Nat.le_of_eq hO)
        rw [hO]
        have HF0 := hid (fun n => Row_First ((HW.out.new (Only.drewN [] wr n)).rw false).row)
        have HF1 := hid (fun n => Row_First ((HW.out.new (Only.drewN [] wr n)).rw true).row)
        have k1 : wr.cell? ⟨O, 1, none⟩ = some (ptr R0) := HW.out.cells.2.1
        have k2 : wr.cell? ⟨O, 2, none⟩ = some (ptr R1) := HW.out.cells.2.2.1
        have k3 : wr.cell? ⟨O, 3, none⟩ = some (.int .i64 0) := HW.out.cells.2.2.2.1
        have f1 : wr.frozen? ⟨O, 1, none⟩ = false := HW.out.cells.2.2.2.2.2.2 1
        have f2 : wr.frozen? ⟨O, 2, none⟩ = false := HW.out.cells.2.2.2.2.2.2 2
        have f3 : wr.frozen? ⟨O, 3, none⟩ = false := HW.out.cells.2.2.2.2.2.2 3
        replace HF0 : Hid (∀ n, Calls Try.prog 34 #[.pointer (some ⟨R0, 0, none⟩)] (wr.drewN n) fun e w' => e = .returned (.int .u64 (h0.first : Int)) ∧ w' = wr.drewN n) := HF0
        replace HF1 : Hid (∀ n, Calls Try.prog 34 #[.pointer (some ⟨R1, 0, none⟩)] (wr.drewN n) fun e w' => e = .returned (.int .u64 (h1.first : Int)) ∧ w' = wr.drewN n) := HF1
        obtain ⟨z0, hz0⟩ : ∃ z0 : Nat, h0.first = z0 := ⟨_, rfl⟩
        obtain ⟨z1, hz1⟩ : ∃ z1 : Nat, h1.first = z1 := ⟨_, rfl⟩
        have HZ0 := hid hz0
        have HZ1 := hid hz1
        rw [hz0] at HF0
        rw [hz1] at HF1
        unfold ptr at k1 k2
        clear hO hz0 hz1 hk hin
        by_cases cz : z0 < z1
        · have q2 : decide ((z0 : Int) < (z1 : Int)) = true := decide_eq_true (by omega)
          have HOW : Hid (openW s = (Pure.parseA [] h1.texts).map fun L => ⟨fun b => cond b h1 h0, true, L, false⟩) := by
            show openW s = _
            have e : logOf (openH s) = true := by rw [HH.out]; show decide (h0.first < h1.first) = true; rw [HZ0.out, HZ1.out]; exact decide_eq_true cz
            unfold openW; rw [e, HH.out]; rfl
          go_wp2_with fail
          go_quiet (first | (go_at_call 34; with_reducible exact Calls.quiet_of_same (HF0.out _)) | (go_at_call 34; with_reducible exact Calls.quiet_of_same (HF1.out _)))
          have HWQ := hid (HW.out.new (Only.drewN [] wr nq))
          have HAQ := hid (HA1.out.trans (Only.drewN [] wr nq) (fun _ h _ => h))
          have k3 : (wr.drewN nq).cell? ⟨O, 3, none⟩ = some (.int .i64 0) := HWQ.out.cells.2.2.2.1
          have f3 : (wr.drewN nq).frozen? ⟨O, 3, none⟩ = false := HWQ.out.cells.2.2.2.2.2.2 3
          clear HF0 HF1 k1 k2 f1 f2
          generalize wr.drewN nq = wq at *
          obtain ⟨wx, hwx⟩ : ∃ wx, wx = wq.setCell ⟨O, 3, none⟩ (.int .i64 1) := ⟨_, rfl⟩
          have HWX := hid hwx
          have HWL : Hid (Wl w0 wx l (O :: (rwFp R0 tv0 ++ (rwFp R1 tv1 ++ F))) i D s ⟨O, fun b => cond b R1 R0, fun b => cond b tv1 tv0, .slice none 0 0, [], []⟩ ⟨fun b => cond b h1 h0, true, [], false⟩) := by
            rw [hwx]; exact HWQ.out.set (q' := ⟨fun b => cond b h1 h0, true, [], false⟩) 3 (.int .i64 1) rfl rfl rfl
          have HAX : Hid (Only [] w wx) := by
            rw [hwx]; exact HAQ.out.on (Only.setCell (fp := [O]) wq ⟨O, 3, none⟩ (.int .i64 1) (by simp)) (fun k hk => by rw [List.mem_singleton] at hk; rw [hk]; exact HOE.out)
          clear hwx HWQ HAQ
          have HHF := hid (show Calls Try.prog 35 #[.pointer (some ⟨O, 0, none⟩)] wx fun e w' => e = .returned (.pointer (some ⟨R1, 0, none⟩)) ∧ ∃ n, w' = wx.drewN n from Wal_half HWL.out)
          have HTXB := HTX1
          have HLAY := hid ((HWL.out.rw true).row.lay)
          go_wp2_with fail
          rw [← HWX.out]
          go_at_call 35
          refine HHF.out.mono ?_
          rintro e wy ⟨rfl, nn, rfl⟩
          have HWL2 := hid (HWL.out.new (Only.drewN [] wx nn))
          have HAY := hid (HAX.out.trans (Only.drewN [] wx nn) (fun _ h _ => h))
          have HTE := hid (show Calls Try.prog 36 #[.pointer (some ⟨R1, 0, none⟩)] (wx.drewN nn) fun e w' => ∃ v, e = .returned v ∧ w'.ownsRow (wx.drewN nn).heap.size 9 1 v h1.texts.length (strV h1.texts) ∧ Only [] (wx.drewN nn) w' from Row_Texts (HWL2.out.rw true).row)
          clear HHF HAX HWL
          generalize wx.drewN nn = wy at *
          go_wp2_with fail
          go_at_call 36
          refine HTE.out.mono ?_
          rintro e wt ⟨v, rfl, hown, hot⟩
          obtain ⟨T, hT⟩ : ∃ T, h1.texts = T := ⟨_, rfl⟩
          rw [hT] at hown HTXB HOW
          have hTl : T.length ≤ 4096 := by
            rw [← hT]
            have h7 : h1.texts.length ≤ _ := HLAY.out.2.2
            have h8 : h1.en ≤ _ := HLAY.out.2.1
            have h9 : h1.fr + h1.mn ≤ 4096 := HLAY.out.1
            have h6 : h1.texts.length ≤ h1.en := h7
            have h5 : h1.en ≤ h1.mn := h8
            omega
          have HTL := hid hTl
          obtain ⟨A, c, hA⟩ : ∃ A c, v = .slice A T.length c := by
            obtain ⟨A, c, e, -⟩ := StrAt.of_own hown
            exact ⟨A, c, e⟩
          subst hA
          obtain ⟨nt, hnt⟩ : ∃ nt, T.length = nt := ⟨_, rfl⟩
          have HNT := hid hnt
          have HTV := hid hown
          have HLP0 := hid (show Lp w0 w wt l F i D s O (fun b => cond b h1 h0) true T (Value.slice A T.length c).ownBlock.toList 0 wt ⟨O, fun b => cond b R1 R0, fun b => cond b tv1 tv0, .slice none 0 0, [], []⟩ [] ((Value.slice A T.length c).ownBlock.toList ++ (O :: (rwFp R0 tv0 ++ (rwFp R1 tv1 ++ F)))) from
            Lp.start HWL2.out hot HAY.out hown HFR.out HOE.out T)
          clear hown hot HTE HWL2 HAY hT hTl HFR HOE HLAY
          rw [hnt] at HTV HLP0 HTL
          rw [hnt]
          clear hnt
          obtain ⟨TB, hTB⟩ : ∃ TB, TB = (Value.slice A nt c).ownBlock.toList := ⟨_, rfl⟩
          rw [← hTB] at HLP0
          have HTB := hid hTB
          clear hTB
          go_wp2_with fail
          go_loopg [61] nt (fun kx s61 wr => ∃ (j : Nat) (m : WM) (L : List (List ByteArray)) (F' : List Nat), s61 = .int .i64 j ∧ j ≤ nt ∧ nt - j ≤ kx ∧ Hid (Lp w0 w wt l F i D s O (fun b => cond b h1 h0) true T TB j wr m L F'))
          case atStart => exact ⟨0, _, _, _, rfl, by omega, by omega, HLP0.out⟩
          case round =>
            obtain ⟨j, m, L, F', rfl, hjn, hk, HL⟩ := hrel
            clear HLP0
            by_cases hlt : j < nt
            · have q1 : decide ((j : Int) < (nt : Int)) = true := decide_eq_true (by omega)
              have q2 : (j : Int) < (nt : Int) := by omega
              have q3 : ((j : Int)).toNat = j := by omega
              obtain ⟨tx, ht⟩ : ∃ tx, T[j]? = some tx := ⟨T[j]'(by rw [HNT.out]; exact hlt), List.getElem?_eq_getElem _⟩
              obtain ⟨g, cap, cur, hA, -⟩ := ownsRow_slice HTV.out (by omega)
              cases hA
              have hsx : (strV T)[j]? = some (.string tx) := by unfold strV; rw [List.getElem?_map, ht]; rfl
              have hcell := World.ownsRow.cells HTV.out (g := g) rfl j _ hsx
              rw [Addr.add_lit, Nat.zero_add] at hcell
              have hs0 := (HL.out.tb g (by rw [HTB.out]; simp [Value.ownBlock])).1
              have hcw : wr.cell? ⟨g, j, none⟩ = some (.string tx) := by rw [cell_same (a := ⟨g, j, none⟩) hs0]; exact hcell
              have HT1 := hid ht
              have hres : tally_TakeRow.f tx = some (Pure.resR tx.data.toList) := by
                have h9 := Pure.TakeRow_res (L := tx.data.toList) (by have h8 := HTXB.out tx (List.mem_of_getElem? ht); rw [Array.length_toList]; have h7 : tx.data.size = tx.size := rfl; omega)
                rwa [Pure.B_self'] at h9
              obtain ⟨r1, r2, r3, hr⟩ : ∃ r1 r2 r3, Pure.resR tx.data.toList = (r1, r2, r3) := ⟨_, _, _, rfl⟩
              have HONE : Hid (Pure.one tx = if r3 = true ∧ r2 = B [] then some r1 else none) := by show Pure.one tx = _; unfold Pure.one; rw [hr]
              rw [hr] at hres
              have htk := tally_TakeRow.calls tx r1 r2 r3 wr hres
              clear hcell hs0 hsx ht hres hr
              obtain ⟨-, -, -, -, g4, -, f⟩ := HL.out.wl.cells
              have f4 := f 4
              rw [HL.out.eO] at g4 f4
              clear f
              by_cases good : r3 = true ∧ r2 = B []
              · rw [if_pos good] at HONE
                obtain ⟨rfl, hr2⟩ := good
                have hr3 : r2 = (⟨#[]⟩ : ByteArray) := hr2
                clear hr2
                subst hr3
                go_wp2_with fail
                go_at_call 37
                refine htk.mono ?_
                rintro e w5 ⟨v2, rfl, hR, hb⟩
                have HO5 := hid (Only.of_below (fp := []) hb)
                have HST := hid (StrAt.of_Kc hR)
                have HBD := hid (show ∀ k ∈ v2.ownBlock.toList, wr.heap.size ≤ k ∧ k < w5.heap.size from fun k hk => ⟨hR.2.2 k (by simpa using hk), hR.2.1 k (by simpa using hk)⟩)
                obtain ⟨A5, c5, e5⟩ : ∃ A5 c5, v2 = .slice A5 r1.length c5 := Kc.R_slice hR
                subst e5
                have HW5 := hid (HL.out.wl.new HO5.out)
                obtain ⟨xv, hxv⟩ : ∃ xv, m.xv = xv := ⟨_, rfl⟩
                have HXV := hid hxv
                rw [hxv] at g4
                have g5 := HW5.out.cells.2.2.2.2.1
                have f5 := HW5.out.cells.2.2.2.2.2.2 4
                rw [HL.out.eO] at g5 f5
                rw [hxv] at g5
                have hbox := HW5.out.new (Only.alloc [] w5 (.cells #[.slice A5 r1.length c5] 22))
                have g6 := hbox.cells.2.2.2.2.1
                have f6 := hbox.cells.2.2.2.2.2.2 4
                rw [HL.out.eO] at g6 f6
                rw [hxv] at g6
                have HOWN := hid (HW5.out.ob.own ⟨m.xv, 22, 1, L.length, m.vs⟩ (by simp [WS.rows]))
                rw [hxv] at HOWN
                have HLL := hid (show L.length ≤ 4096 by have := HL.out.len; have := HTL.out; omega)
                have HBS := hid (show w0.heap.size ≤ w5.heap.size from HW5.out.base.size)
                obtain ⟨tj, htj, hjz, hjs, hjb⟩ := info_three Q.info22
                have HTJ := hid (And.intro htj (And.intro hjz (And.intro hjs hjb)))
                clear htk hR hb hxv hbox htj hjz hjs hjb
                go_wp2_with (at_builtin; refine wpList_append_lies _ rfl (.tmp 81) (.tmp 83) 44 rfl w0.heap.size 22 tj _ 1 24 Try.underlying44 HTJ.out.1 HTJ.out.2.1 HTJ.out.2.2.1 HTJ.out.2.2.2 rfl (by decide) xv L.length m.vs rfl (World.ownsRow.alloc HOWN.out _) ⟨w5.heap.size, 0, none⟩ 1 1 [.slice A5 r1.length c5] rfl rfl (World.news_of_block (heap_alloc_new w5 _)) (by intro u hu; rw [List.mem_singleton] at hu; rw [hu]; rfl) (by decide) (by have := HLL.out; unfold maxLen; omega) (by have := HLL.out; omega) (by have := HBS.out; simp; omega) (w5.heap.size + 1) (by simp) ?_; intro g7 cap7 w6 hown7 hgrow hat hgl; have HSTEP := hid (HL.out.step HT1.out HONE.out HO5.out HST.out HBD.out hown7 (by rw [HXV.out]; exact hgrow) (by rw [HXV.out]; exact hat)); have hcz := (HL.out.wl.appdO HO5.out hown7 (by rw [HXV.out]; exact hgrow) (by rw [HXV.out]; exact hat)).2; rw [HL.out.eO, HXV.out] at hcz; obtain ⟨hcl6, hfz⟩ := hcz; clear hown7 hgrow hat hgl)
                have hnt4 : nt ≤ 4096 := HTL.out
                go_roundg (nt - (j + 1))
                case measure => omega
                case rel =>
                  obtain ⟨m2, F2, hst⟩ := HSTEP.out
                  exact ⟨j + 1, m2, _, F2, num_succ j nt hlt hnt4, hlt, Nat.le_refl _, hst⟩
              · rw [if_neg good] at HONE
                have HNONE : Hid (openW s = none) := by
                  show openW s = none
                  obtain ⟨hj2, he2⟩ := List.getElem?_eq_some_iff.1 HT1.out
                  rw [HOW.out, HL.out.par, List.drop_eq_getElem_cons hj2, he2]
                  show (match Pure.one tx with | some x => Pure.parseA (L ++ [x]) (T.drop (j + 1)) | none => none).map _ = none
                  rw [HONE.out]; rfl
                cases r3 with
                | false =>
                  go_wp2_with fail
                  go_at_call 37
                  refine htk.mono ?_
                  rintro e w5 ⟨v2, rfl, hR, hb⟩
                  have HFIN := hid (HPN.out w5 (HL.out.only.trans (Only.of_below (fp := []) hb) (fun _ h _ => h)) HNONE.out)
                  clear htk hR hb
                  go_wp2_with fail
                  exact HFIN.out
                | true =>
                  have hne : r2 ≠ B [] := fun e => good ⟨rfl, e⟩
                  have qs : r2.toList.isEmpty = false := str_ne hne
                  go_wp2_with fail
                  go_at_call 37
                  refine htk.mono ?_
                  rintro e w5 ⟨v2, rfl, hR, hb⟩
                  have HFIN := hid (HPN.out w5 (HL.out.only.trans (Only.of_below (fp := []) hb) (fun _ h _ => h)) HNONE.out)
                  clear htk hR hb
                  go_wp2_with fail
                  exact HFIN.out
            · have q1 : decide ((j : Int) < (nt : Int)) = false := decide_eq_false (by omega)
              have HFIN := hid (HPS.out wr ⟨fun b => cond b h1 h0, true, L, false⟩ m F' HL.out.only (by
                rw [HOW.out, HL.out.par, List.drop_eq_nil_of_le (by rw [HNT.out]; omega)]; rfl) HL.out.wl HL.out.sub HL.out.new HL.out.fp)
              rw [HL.out.eO] at HFIN
              go_wp2_with fail
              exact HFIN.out
        · have q2 : decide ((z0 : Int) < (z1 : Int)) = false := decide_eq_false (by omega)
          have HOW : Hid (openW s = (Pure.parseA [] h0.texts).map fun L => ⟨fun b => cond b h1 h0, false, L, false⟩) := by
            show openW s = _
            have e : logOf (openH s) = false := by rw [HH.out]; show decide (h0.first < h1.first) = false; rw [HZ0.out, HZ1.out]; exact decide_eq_false cz
            unfold openW; rw [e, HH.out]; rfl
          go_wp2_with fail
          go_quiet (first | (go_at_call 34; with_reducible exact Calls.quiet_of_same (HF0.out _)) | (go_at_call 34; with_reducible exact Calls.quiet_of_same (HF1.out _)))
          have HWL := hid (HW.out.new (Only.drewN [] wr nq))
          have HAX := hid (HA1.out.trans (Only.drewN [] wr nq) (fun _ h _ => h))
          clear HF0 HF1 k1 k2 f1 f2 k3 f3
          generalize wr.drewN nq = wx at *
          have HHF := hid (show Calls Try.prog 35 #[.pointer (some ⟨O, 0, none⟩)] wx fun e w' => e = .returned (.pointer (some ⟨R0, 0, none⟩)) ∧ ∃ n, w' = wx.drewN n from Wal_half HWL.out)
          have HTXB := HTX0
          have HLAY := hid ((HWL.out.rw false).row.lay)
          go_wp2_with fail
          skip
          go_at_call 35
          refine HHF.out.mono ?_
          rintro e wy ⟨rfl, nn, rfl⟩
          have HWL2 := hid (HWL.out.new (Only.drewN [] wx nn))
          have HAY := hid (HAX.out.trans (Only.drewN [] wx nn) (fun _ h _ => h))
          have HTE := hid (show Calls Try.prog 36 #[.pointer (some ⟨R0, 0, none⟩)] (wx.drewN nn) fun e w' => ∃ v, e = .returned v ∧ w'.ownsRow (wx.drewN nn).heap.size 9 1 v h0.texts.length (strV h0.texts) ∧ Only [] (wx.drewN nn) w' from Row_Texts (HWL2.out.rw false).row)
          clear HHF HAX HWL
          generalize wx.drewN nn = wy at *
          go_wp2_with fail
          go_at_call 36
          refine HTE.out.mono ?_
          rintro e wt ⟨v, rfl, hown, hot⟩
          obtain ⟨T, hT⟩ : ∃ T, h0.texts = T := ⟨_, rfl⟩
          rw [hT] at hown HTXB HOW
          have hTl : T.length ≤ 4096 := by
            rw [← hT]
            have h7 : h0.texts.length ≤ _ := HLAY.out.2.2
            have h8 : h0.en ≤ _ := HLAY.out.2.1
            have h9 : h0.fr + h0.mn ≤ 4096 := HLAY.out.1
            have h6 : h0.texts.length ≤ h0.en := h7
            have h5 : h0.en ≤ h0.mn := h8
            omega
          have HTL := hid hTl
          obtain ⟨A, c, hA⟩ : ∃ A c, v = .slice A T.length c := by
            obtain ⟨A, c, e, -⟩ := StrAt.of_own hown
            exact ⟨A, c, e⟩
          subst hA
          obtain ⟨nt, hnt⟩ : ∃ nt, T.length = nt := ⟨_, rfl⟩
          have HNT := hid hnt
          have HTV := hid hown
          have HLP0 := hid (show Lp w0 w wt l F i D s O (fun b => cond b h1 h0) false T (Value.slice A T.length c).ownBlock.toList 0 wt ⟨O, fun b => cond b R1 R0, fun b => cond b tv1 tv0, .slice none 0 0, [], []⟩ [] ((Value.slice A T.length c).ownBlock.toList ++ (O :: (rwFp R0 tv0 ++ (rwFp R1 tv1 ++ F)))) from
            Lp.start HWL2.out hot HAY.out hown HFR.out HOE.out T)
          clear hown hot HTE HWL2 HAY hT hTl HFR HOE HLAY
          rw [hnt] at HTV HLP0 HTL
          rw [hnt]
          clear hnt
          obtain ⟨TB, hTB⟩ : ∃ TB, TB = (Value.slice A nt c).ownBlock.toList := ⟨_, rfl⟩
          rw [← hTB] at HLP0
          have HTB := hid hTB
          clear hTB
          go_wp2_with fail
          go_loopg [61] nt (fun kx s61 wr => ∃ (j : Nat) (m : WM) (L : List (List ByteArray)) (F' : List Nat), s61 = .int .i64 j ∧ j ≤ nt ∧ nt - j ≤ kx ∧ Hid (Lp w0 w wt l F i D s O (fun b => cond b h1 h0) false T TB j wr m L F'))
          case atStart => exact ⟨0, _, _, _, rfl, by omega, by omega, HLP0.out⟩
          case round =>
            obtain ⟨j, m, L, F', rfl, hjn, hk, HL⟩ := hrel
            clear HLP0
            by_cases hlt : j < nt
            · have q1 : decide ((j : Int) < (nt : Int)) = true := decide_eq_true (by omega)
              have q2 : (j : Int) < (nt : Int) := by omega
              have q3 : ((j : Int)).toNat = j := by omega
              obtain ⟨tx, ht⟩ : ∃ tx, T[j]? = some tx := ⟨T[j]'(by rw [HNT.out]; exact hlt), List.getElem?_eq_getElem _⟩
              obtain ⟨g, cap, cur, hA, -⟩ := ownsRow_slice HTV.out (by omega)
              cases hA
              have hsx : (strV T)[j]? = some (.string tx) := by unfold strV; rw [List.getElem?_map, ht]; rfl
              have hcell := World.ownsRow.cells HTV.out (g := g) rfl j _ hsx
              rw [Addr.add_lit, Nat.zero_add] at hcell
              have hs0 := (HL.out.tb g (by rw [HTB.out]; simp [Value.ownBlock])).1
              have hcw : wr.cell? ⟨g, j, none⟩ = some (.string tx) := by rw [cell_same (a := ⟨g, j, none⟩) hs0]; exact hcell
              have HT1 := hid ht
              have hres : tally_TakeRow.f tx = some (Pure.resR tx.data.toList) := by
                have h9 := Pure.TakeRow_res (L := tx.data.toList) (by have h8 := HTXB.out tx (List.mem_of_getElem? ht); rw [Array.length_toList]; have h7 : tx.data.size = tx.size := rfl; omega)
                rwa [Pure.B_self'] at h9
              obtain ⟨r1, r2, r3, hr⟩ : ∃ r1 r2 r3, Pure.resR tx.data.toList = (r1, r2, r3) := ⟨_, _, _, rfl⟩
              have HONE : Hid (Pure.one tx = if r3 = true ∧ r2 = B [] then some r1 else none) := by show Pure.one tx = _; unfold Pure.one; rw [hr]
              rw [hr] at hres
              have htk := tally_TakeRow.calls tx r1 r2 r3 wr hres
              clear hcell hs0 hsx ht hres hr
              obtain ⟨-, -, -, -, g4, -, f⟩ := HL.out.wl.cells
              have f4 := f 4
              rw [HL.out.eO] at g4 f4
              clear f
              by_cases good : r3 = true ∧ r2 = B []
              · rw [if_pos good] at HONE
                obtain ⟨rfl, hr2⟩ := good
                have hr3 : r2 = (⟨#[]⟩ : ByteArray) := hr2
                clear hr2
                subst hr3
                go_wp2_with fail
                go_at_call 37
                refine htk.mono ?_
                rintro e w5 ⟨v2, rfl, hR, hb⟩
                have HO5 := hid (Only.of_below (fp := []) hb)
                have HST := hid (StrAt.of_Kc hR)
                have HBD := hid (show ∀ k ∈ v2.ownBlock.toList, wr.heap.size ≤ k ∧ k < w5.heap.size from fun k hk => ⟨hR.2.2 k (by simpa using hk), hR.2.1 k (by simpa using hk)⟩)
                obtain ⟨A5, c5, e5⟩ : ∃ A5 c5, v2 = .slice A5 r1.length c5 := Kc.R_slice hR
                subst e5
                have HW5 := hid (HL.out.wl.new HO5.out)
                obtain ⟨xv, hxv⟩ : ∃ xv, m.xv = xv := ⟨_, rfl⟩
                have HXV := hid hxv
                rw [hxv] at g4
                have g5 := HW5.out.cells.2.2.2.2.1
                have f5 := HW5.out.cells.2.2.2.2.2.2 4
                rw [HL.out.eO] at g5 f5
                rw [hxv] at g5
                have hbox := HW5.out.new (Only.alloc [] w5 (.cells #[.slice A5 r1.length c5] 22))
                have g6 := hbox.cells.2.2.2.2.1
                have f6 := hbox.cells.2.2.2.2.2.2 4
                rw [HL.out.eO] at g6 f6
                rw [hxv] at g6
                have HOWN := hid (HW5.out.ob.own ⟨m.xv, 22, 1, L.length, m.vs⟩ (by simp [WS.rows]))
                rw [hxv] at HOWN
                have HLL := hid (show L.length ≤ 4096 by have := HL.out.len; have := HTL.out; omega)
                have HBS := hid (show w0.heap.size ≤ w5.heap.size from HW5.out.base.size)
                obtain ⟨tj, htj, hjz, hjs, hjb⟩ := info_three Q.info22
                have HTJ := hid (And.intro htj (And.intro hjz (And.intro hjs hjb)))
                clear htk hR hb hxv hbox htj hjz hjs hjb
                go_wp2_with (at_builtin; refine wpList_append_lies _ rfl (.tmp 81) (.tmp 83) 44 rfl w0.heap.size 22 tj _ 1 24 Try.underlying44 HTJ.out.1 HTJ.out.2.1 HTJ.out.2.2.1 HTJ.out.2.2.2 rfl (by decide) xv L.length m.vs rfl (World.ownsRow.alloc HOWN.out _) ⟨w5.heap.size, 0, none⟩ 1 1 [.slice A5 r1.length c5] rfl rfl (World.news_of_block (heap_alloc_new w5 _)) (by intro u hu; rw [List.mem_singleton] at hu; rw [hu]; rfl) (by decide) (by have := HLL.out; unfold maxLen; omega) (by have := HLL.out; omega) (by have := HBS.out; simp; omega) (w5.heap.size + 1) (by simp) ?_; intro g7 cap7 w6 hown7 hgrow hat hgl; have HSTEP := hid (HL.out.step HT1.out HONE.out HO5.out HST.out HBD.out hown7 (by rw [HXV.out]; exact hgrow) (by rw [HXV.out]; exact hat)); have hcz := (HL.out.wl.appdO HO5.out hown7 (by rw [HXV.out]; exact hgrow) (by rw [HXV.out]; exact hat)).2; rw [HL.out.eO, HXV.out] at hcz; obtain ⟨hcl6, hfz⟩ := hcz; clear hown7 hgrow hat hgl)
                have hnt4 : nt ≤ 4096 := HTL.out
                go_roundg (nt - (j + 1))
                case measure => omega
                case rel =>
                  obtain ⟨m2, F2, hst⟩ := HSTEP.out
                  exact ⟨j + 1, m2, _, F2, num_succ j nt hlt hnt4, hlt, Nat.le_refl _, hst⟩
              · rw [if_neg good] at HONE
                have HNONE : Hid (openW s = none) := by
                  show openW s = none
                  obtain ⟨hj2, he2⟩ := List.getElem?_eq_some_iff.1 HT1.out
                  rw [HOW.out, HL.out.par, List.drop_eq_getElem_cons hj2, he2]
                  show (match Pure.one tx with | some x => Pure.parseA (L ++ [x]) (T.drop (j + 1)) | none => none).map _ = none
                  rw [HONE.out]; rfl
                cases r3 with
                | false =>
                  go_wp2_with fail
                  go_at_call 37
                  refine htk.mono ?_
                  rintro e w5 ⟨v2, rfl, hR, hb⟩
                  have HFIN := hid (HPN.out w5 (HL.out.only.trans (Only.of_below (fp := []) hb) (fun _ h _ => h)) HNONE.out)
                  clear htk hR hb
                  go_wp2_with fail
                  exact HFIN.out
                | true =>
                  have hne : r2 ≠ B [] := fun e => good ⟨rfl, e⟩
                  have qs : r2.toList.isEmpty = false := str_ne hne
                  go_wp2_with fail
                  go_at_call 37
                  refine htk.mono ?_
                  rintro e w5 ⟨v2, rfl, hR, hb⟩
                  have HFIN := hid (HPN.out w5 (HL.out.only.trans (Only.of_below (fp := []) hb) (fun _ h _ => h)) HNONE.out)
                  clear htk hR hb
                  go_wp2_with fail
                  exact HFIN.out
            · have q1 : decide ((j : Int) < (nt : Int)) = false := decide_eq_false (by omega)
              have HFIN := hid (HPS.out wr ⟨fun b => cond b h1 h0, false, L, false⟩ m F' HL.out.only (by
                rw [HOW.out, HL.out.par, List.drop_eq_nil_of_le (by rw [HNT.out]; omega)]; rfl) HL.out.wl HL.out.sub HL.out.new HL.out.fp)
              rw [HL.out.eO] at HFIN
              go_wp2_with fail
              exact HFIN.out
end
end Go.Proofs.Ytnhgakmnkpjpdaa
