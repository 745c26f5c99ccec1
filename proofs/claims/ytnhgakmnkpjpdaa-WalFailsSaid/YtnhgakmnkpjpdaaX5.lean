/- A log: Save, Commit. -/
import Derived.Test.YtnhgakmnkpjpdaaX4
set_option maxRecDepth 100000
set_option linter.unusedVariables false
set_option linter.unusedSimpArgs false
namespace Go.Proofs.Ytnhgakmnkpjpdaa
open Go Go.RowKit Go.Proofs.YtnhgakmnkpjpdaaW.PrintWords Go.Proofs.YtnhgakmnkpjpdaaW.PrintLast Go.Proofs.YtnhgakmnkpjpdaaW.PrintMore
attribute [local go_sem] Oper.semAt_some max2_int min2_int max_two min_two max_three min_three max_four min_four
section
variable {w0 w w1 w2 w' : World} {l : List (Nat × DS)} {F F1 F2 : List Nat} {i D : Nat} {s s1 s2 : DS} {m m1 m2 : WM} {q q1 q2 : WS}
theorem WWent.trans (h : WWent w0 w w1 l F F1 i D s1 m m1 q1) (h2 : WWent w0 w1 w2 (l.set i (D, s1)) F1 F2 i D s2 m1 m2 q2) : WWent w0 w w2 l F F2 i D s2 m m2 q2 := by
  refine ⟨by have := h2.wl; rwa [List.set_set] at this, fun k hk => h2.sub k (h.sub k hk), fun k hk hn => ?_, fun k hk => ?_, h2.obj.1.trans h.obj.1, h2.obj.2.trans h.obj.2⟩
  · refine (h2.same k (h.sub k hk) (fun e => ?_)).trans (h.same k hk hn)
    rcases h.fresh k e with q | q
    · exact hn q
    · exact q hk
  · rcases h2.fresh k hk with e | e
    · exact h.fresh k e
    · exact .inr (fun e2 => e (h.sub k e2))
theorem Wl.own_lt (h : Wl w0 w l F i D s m q) : ∀ k ∈ m.own, w0.heap.size ≤ k ∧ k < w.heap.size := fun k hk => h.ob.fp_lt k (by rw [own_fp]; exact hk)
/-- The transactions' slice is another one. -/
theorem Wl.turn (h : Wl w0 w l F i D s m q) {W : World} {xv' : Value} {vs' : List Value} {B' : List Nat} {q' : WS} (hob : Ob w0.heap.size W m.O 78 (q'.cs D m.R xv') (q'.rows xv' vs')) (ho : Only m.own w W)
    (htx : Txs w0.heap.size W B' vs' q'.txns) (hh : q'.h = q.h) (hx : ∀ k ∈ xv'.ownBlock.toList, k ∈ m.own ∨ w.heap.size ≤ k) (hB : ∀ k ∈ B', k ∈ m.B ∨ w.heap.size ≤ k) (hd : ∀ k ∈ m.O :: xv'.ownBlock.toList, k ∉ B') :
    WWent w0 w W l F (xv'.ownBlock.toList ++ (B' ++ F)) i D s m { m with xv := xv', vs := vs', B := B' } q' := by
  have hlow : ∀ k ∈ F, k < w.heap.size := (h.rw false).dr.lt
  have hO : m.O ∈ m.own := by simp [WM.own]
  have hxW : ∀ k ∈ xv'.ownBlock.toList, k < W.heap.size := fun k hk => (hob.fp_lt k (by unfold obFp WS.rows; simp only [List.flatMap_cons, List.flatMap_nil, List.append_nil]; exact List.mem_cons_of_mem _ hk)).2
  have hdr : Dr w0 W l (xv'.ownBlock.toList ++ (B' ++ F)) := (h.rw false).dr.grow m.own _ ho (fun k hk => ⟨h.fpO k hk, (h.own_lt k hk).1⟩) (fun k hk => by
    rcases List.mem_append.1 hk with e | e
    · rcases hx k e with e2 | e2
      · exact .inl (h.fpO k e2)
      · exact .inr ⟨e2, hxW k e⟩
    · rcases List.mem_append.1 e with e | e
      · rcases hB k e with e2 | e2
        · exact .inl (h.fpB k e2)
        · exact .inr ⟨e2, (htx.lt k e).2⟩
      · exact .inl e)
  have hrlow : ∀ b, ∀ k ∈ rwFp (m.R b) (m.v b), k < w.heap.size := fun b k hk => hlow k ((h.rw b).fp k hk)
  have hcO : ∀ k ∈ m.O :: xv'.ownBlock.toList, k ∈ m.own ∨ w.heap.size ≤ k := fun k hk => by
    rcases List.mem_cons.1 hk with e | e
    · rw [e]; exact .inl hO
    · exact hx k e
  refine ⟨⟨fun c => ?_, hob, htx, fun k hk => ?_, fun k hk => ?_, fun b k hk => ⟨fun e => ?_, fun e => ?_⟩, h.d1, hd⟩, fun k hk => List.mem_append_right _ (List.mem_append_right _ hk), fun k hk hn => ?_, fun k hk => ?_, rfl, rfl⟩
  · rw [set_self (h.rw false).hi]
    refine ⟨hdr, (h.rw c).hi, ?_, fun k hk => List.mem_append_right _ (List.mem_append_right _ ((h.rw c).fp k hk))⟩
    rw [hh]
    exact (h.rw c).row.kept ho (fun k hk e => (h.d0 c k hk).1 e)
  · have hk2 : k ∈ m.O :: xv'.ownBlock.toList := hk
    rcases List.mem_cons.1 hk2 with e | e
    · rw [e]; exact List.mem_append_right _ (List.mem_append_right _ (h.fpO _ hO))
    · exact List.mem_append_left _ e
  · exact List.mem_append_right _ (List.mem_append_left _ hk)
  · rcases hcO k e with e2 | e2
    · exact (h.d0 b k hk).1 e2
    · have := hrlow b k hk; omega
  · rcases hB k e with e2 | e2
    · exact (h.d0 b k hk).2 e2
    · have := hrlow b k hk; omega
  · exact ho.block k (hlow k hk) (fun e => hn (List.mem_append_left _ e))
  · have hk2 : k ∈ (m.O :: xv'.ownBlock.toList) ++ (rwFp (m.R false) (m.v false) ++ rwFp (m.R true) (m.v true)) := hk
    rcases List.mem_append.1 hk2 with e | e
    · rcases hcO k e with e2 | e2
      · exact .inl (List.mem_append_left _ e2)
      · exact .inr (fun e3 => by have := hlow k e3; omega)
    · exact .inl (List.mem_append_right _ e)
theorem strAt_lt {base : Nat} {v : Value} {t : List ByteArray} (h : w.ownsRow base 9 1 v t.length (strV t)) : ∀ k ∈ v.ownBlock.toList, base ≤ k ∧ k < w.heap.size := fun k hk => ownsRow_lt h hk
/-- One more transaction. -/
theorem Wl.appdB (h : Wl w0 w l F i D s m q) (ho : Only [] w w1) {v2 : Value} {x : List ByteArray} {B2 : List Nat} (hv : StrAt w1 B2 v2 x) (hvl : ∀ k ∈ B2, w.heap.size ≤ k ∧ k < w1.heap.size) {W4 : World} {g cap : Nat} {ob : Obj}
    (hown : W4.ownsRow w0.heap.size 22 1 (.slice (some ⟨g, 0, none⟩) (q.txns.length + 1) cap) (q.txns.length + 1) (m.vs ++ [v2])) (hg : (w1.alloc ob).grownBy W4 m.xv.ownBlock) (hat : m.xv.ownBlock = some g ∨ g = w1.heap.size + 1) :
    WWent w0 w (W4.setCell ⟨m.O, 4, none⟩ (.slice (some ⟨g, 0, none⟩) (q.txns.length + 1) cap)) l F ([g] ++ ((B2 ++ m.B) ++ F)) i D s m { m with xv := .slice (some ⟨g, 0, none⟩) (q.txns.length + 1) cap, vs := m.vs ++ [v2], B := B2 ++ m.B } { q with txns := q.txns ++ [x] } := by
  have h1 := h.new ho
  have a := Ob.appended (a := []) (b := []) h1.ob hown hg hat
  have a2 : Only m.own w1 W4 := by
    have := a.2.1
    rwa [show ([] ++ (⟨m.xv, 22, 1, q.txns.length, m.vs⟩ : RowV) :: []) = q.rows m.xv m.vs from rfl, own_fp] at this
  have a1 := a.1.set 4 (.slice (some ⟨g, 0, none⟩) (q.txns.length + 1) cap)
  have hO : m.O ∈ m.own := by simp [WM.own]
  have hall : Only m.own w1 (W4.setCell ⟨m.O, 4, none⟩ (.slice (some ⟨g, 0, none⟩) (q.txns.length + 1) cap)) := a2.trans (a1.2.mono (fun k hk => by rw [List.mem_singleton] at hk; rw [hk]; exact hO)) (fun _ h _ => h)
  have hall0 : Only m.own w (W4.setCell ⟨m.O, 4, none⟩ (.slice (some ⟨g, 0, none⟩) (q.txns.length + 1) cap)) := (ho.mono (by simp)).trans hall (fun _ h _ => h)
  have hbase : w0.heap.size ≤ w.heap.size := (h.rw false).dr.below.size
  have hgo : g ∈ m.own ∨ w1.heap.size + 1 = g := by
    rcases hat with e | e
    · exact .inl (by unfold WM.own; rw [e]; simp)
    · exact .inr e.symm
  have ht2 := (h1.tx.snoc (hv) (fun k hk => ⟨by have := (hvl k hk).1; omega, (hvl k hk).2⟩)).kept hall (fun k hk e => by
    have h7 := (h.own_lt k e).2
    rcases List.mem_append.1 hk with e2 | e2
    · have := (hvl k e2).1; omega
    · exact h.d2 k e e2)
  refine h.turn (xv' := .slice (some ⟨g, 0, none⟩) (q.txns.length + 1) cap) (q' := { q with txns := q.txns ++ [x] }) ?_ hall0 ht2 rfl (fun k hk => ?_) (fun k hk => ?_) (fun k hk e => ?_)
  · have e1 : (q.txns ++ [x]).length = q.txns.length + 1 := by simp
    show Ob _ _ _ _ _ [⟨_, 22, 1, (q.txns ++ [x]).length, m.vs ++ [v2]⟩]
    rw [e1]
    exact a1.1
  · have e : k = g := by simpa [Value.ownBlock, eq_comm] using hk
    subst e
    have := ho.size
    rcases hgo with e | e
    · exact .inl e
    · exact .inr (by omega)
  · rcases List.mem_append.1 hk with e | e
    · exact .inr (hvl k e).1
    · exact .inl e
  · have hk2 : k ∈ m.own ∨ w1.heap.size + 1 = k := by
      rcases List.mem_cons.1 hk with e3 | e3
      · rw [e3]; exact .inl hO
      · have e4 : k = g := by simpa [Value.ownBlock, eq_comm] using e3
        rw [e4]; exact hgo
    rcases hk2 with e3 | e3
    · have h7 := (h.own_lt k e3).2
      rcases List.mem_append.1 e with e2 | e2
      · have := (hvl k e2).1; omega
      · exact h.d2 k e3 e2
    · rcases List.mem_append.1 e with e2 | e2
      · have := (hvl k e2).2; omega
      · have := (h1.tx.lt k e2).2; omega
/-- One more transaction. -/
theorem Wl.appd (h : Wl w0 w l F i D s m q) (ho : Only [] w w1) {v2 : Value} {x : List ByteArray} (hv : w1.ownsRow w.heap.size 9 1 v2 x.length (strV x)) {W4 : World} {g cap : Nat} {ob : Obj}
    (hown : W4.ownsRow w0.heap.size 22 1 (.slice (some ⟨g, 0, none⟩) (q.txns.length + 1) cap) (q.txns.length + 1) (m.vs ++ [v2])) (hg : (w1.alloc ob).grownBy W4 m.xv.ownBlock) (hat : m.xv.ownBlock = some g ∨ g = w1.heap.size + 1) :
    WWent w0 w (W4.setCell ⟨m.O, 4, none⟩ (.slice (some ⟨g, 0, none⟩) (q.txns.length + 1) cap)) l F ([g] ++ ((v2.ownBlock.toList ++ m.B) ++ F)) i D s m { m with xv := .slice (some ⟨g, 0, none⟩) (q.txns.length + 1) cap, vs := m.vs ++ [v2], B := v2.ownBlock.toList ++ m.B } { q with txns := q.txns ++ [x] } :=
  h.appdB ho (StrAt.of_own hv) (strAt_lt hv) hown hg hat
/-- The transactions are one alone, of another half. -/
theorem Wl.saved (h : Wl w0 w l F i D s m q) (ho : Only [] w w1) {v2 : Value} {x : List ByteArray} (hv : w1.ownsRow w.heap.size 9 1 v2 x.length (strV x)) (b : Bool) {W2 : World} (h2 : Only [] w1 W2) {g : Nat} (hgl : w1.heap.size ≤ g) (hr : W2.ownsRow w0.heap.size 22 1 (.slice (some ⟨g, 0, none⟩) 1 1) 1 [v2]) :
    WWent w0 w ((W2.setCell ⟨m.O, 3, none⟩ (.int .i64 (bN b : Int))).setCell ⟨m.O, 4, none⟩ (.slice (some ⟨g, 0, none⟩) 1 1)) l F ([g] ++ ((v2.ownBlock.toList ++ []) ++ F)) i D s m { m with xv := .slice (some ⟨g, 0, none⟩) 1 1, vs := [v2], B := v2.ownBlock.toList ++ [] } { q with log := b, txns := [x] } := by
  have h12 := ho.trans h2 (fun _ h _ => h)
  have h3 := h.new h12
  have hO : m.O ∈ m.own := by simp [WM.own]
  have hs1 := ho.size
  have hs2 := h2.size
  have a0 : Ob w0.heap.size W2 m.O 78 (q.cs D m.R m.xv) [⟨.slice (some ⟨g, 0, none⟩) 1 1, 22, 1, 1, [v2]⟩] := by
    have := Ob.turn (a := []) (b := []) (r' := ⟨.slice (some ⟨g, 0, none⟩) 1 1, 22, 1, 1, [v2]⟩) (h.new ho).ob (h2.mono (by simp)) hr (fun k hk => by
      have e : k = g := by simpa [RowV.fp, Value.ownBlock, eq_comm] using hk
      exact .inr (by omega))
    exact this
  have a1 := a0.set 3 (.int .i64 (bN b : Int))
  have a2 := a1.1.set 4 (.slice (some ⟨g, 0, none⟩) 1 1)
  have hm : ∀ k ∈ [m.O], k ∈ m.own := fun k hk => by rw [List.mem_singleton] at hk; rw [hk]; exact hO
  have hall : Only m.own w1 ((W2.setCell ⟨m.O, 3, none⟩ (.int .i64 (bN b : Int))).setCell ⟨m.O, 4, none⟩ (.slice (some ⟨g, 0, none⟩) 1 1)) := ((h2.mono (by simp)).trans (a1.2.mono hm) (fun _ h _ => h)).trans (a2.2.mono hm) (fun _ h _ => h)
  have hall0 := (ho.mono (fp := []) (fp' := m.own) (by simp)).trans hall (fun _ h _ => h)
  have hvl := strAt_lt hv
  have hbase : w0.heap.size ≤ w.heap.size := (h.rw false).dr.below.size
  have ht2 := ((Txs.none w0.heap.size w1).snoc (StrAt.of_own hv) (fun k hk => ⟨by have := (hvl k hk).1; omega, (hvl k hk).2⟩)).kept hall (fun k hk e => by
    have h7 := (h.own_lt k e).2
    rcases List.mem_append.1 hk with e2 | e2
    · have := (hvl k e2).1; omega
    · cases e2)
  refine h.turn (xv' := .slice (some ⟨g, 0, none⟩) 1 1) (q' := { q with log := b, txns := [x] }) a2.1 hall0 ht2 rfl (fun k hk => ?_) (fun k hk => ?_) (fun k hk e => ?_)
  · have e : k = g := by simpa [Value.ownBlock, eq_comm] using hk
    exact .inr (by omega)
  · rcases List.mem_append.1 hk with e | e
    · exact .inr (hvl k e).1
    · cases e
  · rcases List.mem_append.1 e with e2 | e2
    · rcases List.mem_cons.1 hk with e3 | e3
      · have := (h.own_lt _ hO).2; have := (hvl k e2).1; omega
      · have e4 : k = g := by simpa [Value.ownBlock, eq_comm] using e3
        have := (hvl k e2).2; omega
    · cases e2
/-- A block that a log's calls leave alone. -/
def Far (w0 : World) (F : List Nat) (m : WM) (k : Nat) : Prop := k < w0.heap.size ∨ (k ∈ F ∧ k ∉ m.fp)
theorem WWent.far (h : WWent w0 w w1 l F F1 i D s1 m m1 q1) (hb : Below w0.heap.size w0 w) {k : Nat} (hk : Far w0 F m k) : w1.heap[k]? = w.heap[k]? ∧ Far w0 F1 m1 k := by
  rcases hk with e | ⟨e, e2⟩
  · exact ⟨((h.wl.rw false).dr.below.block k e).trans (hb.block k e).symm, .inl e⟩
  · refine ⟨h.same k e e2, .inr ⟨h.sub k e, fun e3 => ?_⟩⟩
    rcases h.fresh k e3 with q | q
    · exact e2 q
    · exact q e
end
def saveW (s : DS) (q : WS) (x : List ByteArray) : PW :=
  if q.down = true then ⟨s, q, 30⟩ else
  let b := if (q.h q.log).first = 0 then false else !q.log
  let P := putW beginR s q b (B (rowL x))
  if P.e = 0 then ⟨P.s, { P.q with log := b, txns := [x] }, 0⟩ else P
def commitW (s : DS) (q : WS) (x : List ByteArray) : PW :=
  if q.down = true then ⟨s, q, 30⟩ else
  if (q.h q.log).first = 0 then saveW s q x else
  let P := putW addR s q q.log (B (rowL x))
  if P.e = 0 then ⟨P.s, { P.q with txns := P.q.txns ++ [x] }, 0⟩ else P
theorem putW_log (act : DS → RS → Nat → ByteArray → ActR) (s : DS) (q : WS) (b : Bool) (S : ByteArray) : (putW act s q b S).q.log = q.log ∧ (putW act s q b S).q.txns = q.txns := by
  unfold putW
  split
  · exact ⟨rfl, rfl⟩
  · split
    · exact ⟨rfl, rfl⟩
    · exact ⟨rfl, rfl⟩
theorem one_own (w : World) (base : Nat) (e : TypeId) (v : Value) (hb : base ≤ w.heap.size) : (w.alloc (.cells #[v] e)).ownsRow base e 1 (.slice (some ⟨w.heap.size, 0, none⟩) 1 1) 1 [v] :=
  ⟨rfl, .inr ⟨w.heap.size, 1, #[v], rfl, hb, heap_alloc_new w _, Nat.le_refl _, by decide, rfl, rfl⟩⟩
theorem saveW_eq {s : DS} {q : WS} {x : List ByteArray} (hd : q.down = false) (b : Bool) (hb : (if (q.h q.log).first = 0 then false else !q.log) = b) {P : PW} (hP : P = putW beginR s q b (B (rowL x))) :
    saveW s q x = if P.e = 0 then ⟨P.s, { P.q with log := b, txns := [x] }, 0⟩ else P := by
  unfold saveW
  rw [if_neg (by rw [hd]; decide), hP, ← hb]
theorem commitW_eq {s : DS} {q : WS} {x : List ByteArray} (hd : q.down = false) (hb : (q.h q.log).first ≠ 0) {P : PW} (hP : P = putW addR s q q.log (B (rowL x))) :
    commitW s q x = if P.e = 0 then ⟨P.s, { P.q with txns := P.q.txns ++ [x] }, 0⟩ else P := by
  unfold commitW
  rw [if_neg (by rw [hd]; decide), if_neg hb, hP]
section
variable {w0 w : World} {l : List (Nat × DS)} {F : List Nat} {i D : Nat} {s : DS} {m : WM} {q : WS}
theorem Wl.base (h : Wl w0 w l F i D s m q) : Below w0.heap.size w0 w := (h.rw false).dr.below
set_option maxHeartbeats 4000000 in
theorem Wal_Save_fz (h : Wl w0 w l F i D s m q) (A : Option Addr) (c : Nat) (x : List ByteArray) (BX : List Nat) (hA : StrAt w BX (.slice A x.length c) x) (hF : ∀ k ∈ BX, Far w0 F m k) (hx : Pure.fine x) (hm : s.opn.length < 900000) (hd : q.down = false) (hlog : q.log = false) (hz : (q.h false).first = 0) :
    Calls Try.prog 22 #[ptr m.O, .slice A x.length c] w fun e w' => e = .returned (.int .i64 (saveW s q x).e) ∧ ∃ F' m', WWent w0 w w' l F F' i D (saveW s q x).s m m' (saveW s q x).q := by
  obtain ⟨P, hP⟩ : ∃ P, P = putW beginR s q false (B (rowL x)) := ⟨_, rfl⟩
  rw [saveW_eq hd false (by rw [hlog]; simp [hz]) hP]
  have hcx : x.length ≤ c ∧ Kd.C Kd.string w A x.length x := by
    obtain ⟨A2, c2, e, h1, h2⟩ := hA.C
    cases e
    exact ⟨h1, h2⟩
  have HM := hid (Wal_may h A c x hcx.2 hcx.1 hx)
  rw [hd] at HM
  have HX := hid hx
  have HXL : Hid (x.length ≤ 4096) := by have := hx.1; show _ ≤ _; omega
  have HW := hid h
  have HA := hid hA
  have HF := hid hF
  have HMM := hid hm
  have HP := hid hP
  have HLOG := hid hlog
  have HD := hid hd
  have HZ := hid (show ((q.h false).first : Int) = 0 by rw [hz]; rfl)
  have e43 : ∀ args w, (callFunc 43 args).run Try.prog w = .ok (.enter 43 args) w := enters_of Try.func43 (by kernel_rfl) rfl
  have e48 : ∀ args w, (callFunc 48 args).run Try.prog w = .ok (.enter 48 args) w := enters_of Try.func48 (by kernel_rfl) rfl
  have e49 : ∀ args w, (callFunc 49 args).run Try.prog w = .ok (.enter 49 args) w := enters_of Try.func49 (by kernel_rfl) rfl
  have e15 : ∀ args w, (callFunc 15 args).run Try.prog w = .ok (.enter 15 args) w := enters_of Try.func15 (by kernel_rfl) rfl
  obtain ⟨O, hO⟩ : ∃ O, m.O = O := ⟨_, rfl⟩
  have HO := hid hO
  obtain ⟨n, hn⟩ : ∃ n, x.length = n := ⟨_, rfl⟩
  have HN := hid hn
  rw [hO, hn] at HM ⊢
  unfold ptr at HM ⊢
  clear h hA hF hx hm hP hO hn hcx hd hlog hz
  have ew1 : IntKind.i64.wrap ((1 : Int) - 0) = 1 := by decide
  have ew2 : IntKind.i64.wrap ((1 : Int) - 1) = 0 := by decide
  by_cases c2 : P.e = 0
  · rw [if_pos c2]
    go_enter Try.func22, Try.ntmps22
    go_wp2_with fail
    go_at_call 48
    refine HM.out.mono ?_
    rintro e w1 ⟨rfl, ho1⟩
    have HW1 := hid (HW.out.new ho1)
    have HA1 := hid (HA.out.kept ho1 (by simp))
    have HAG := hid (Wal_Age (HW.out.new ho1))
    have HO1 := hid ho1
    obtain ⟨-, -, -, h3, -, -, f⟩ := HW1.out.cells
    have f3 := f 3
    rw [HLOG.out, HO.out] at h3 HAG
    have h3b : w1.cell? ⟨O, 3, none⟩ = some (.int .i64 0) := h3
    rw [HO.out] at f3
    unfold ptr at HAG
    clear HM ho1 f h3
    obtain ⟨ag, hag⟩ : ∃ ag : Int, ag = ((q.h false).first : Int) := ⟨_, rfl⟩
    have hagz : (ag == 0) = true := by rw [hag]; rw [beq_iff_eq]; exact HZ.out
    rw [← hag] at HAG
    clear hag
    go_wp2_with fail
    go_at_call 15
    refine HAG.out.mono ?_
    rintro e w2 ⟨rfl, ho2⟩
    have HW2 := hid (HW1.out.new ho2)
    have HA2 := hid (HA1.out.kept ho2 (by simp))
    have hcx : x.length ≤ c ∧ Kd.C Kd.string w2 A x.length x := by
      obtain ⟨A2, c2, e, h1, h2⟩ := (HN.out ▸ HA2.out : StrAt w2 BX (.slice A x.length c) x).C
      cases e
      exact ⟨h1, h2⟩
    have HPU := hid (Wal_put_begin HW2.out false A c x hcx.2 hcx.1 HX.out HMM.out)
    rw [← HP.out, HO.out, HN.out] at HPU
    have HO2 := hid (HO1.out.trans ho2 (fun _ h _ => h))
    obtain ⟨-, h1, h2, -, -, -, f⟩ := HW2.out.cells
    have f1 := f 1
    have f2 := f 2
    rw [HO.out] at f1 f2 h1 h2
    unfold ptr at h1 h2 HPU
    clear HAG ho2 f h3b f3 HW1 HA1 HO1 hcx
    obtain ⟨R0, hR0⟩ : ∃ R0, m.R false = R0 := ⟨_, rfl⟩
    obtain ⟨R1, hR1⟩ : ∃ R1, m.R true = R1 := ⟨_, rfl⟩
    rw [hR0] at h1
    rw [hR1] at h2
    rw [hR0] at HPU
    clear hR0 hR1
    rw [c2] at HPU
    go_wp2_with fail
    go_at_call 49
    refine HPU.out.mono ?_
    rintro e w3 ⟨rfl, F1, m1, hwent, hxv, hvs, hB⟩
    have HG := hid hwent
    have HST := hid (show StrAt w3 BX (.slice A x.length c) x from (HN.out ▸ HA2.out : StrAt w2 BX (.slice A x.length c) x).same (fun k hk => (hwent.far HW2.out.base (HF.out k hk)).1))
    have HCL := hid (Clone_str HST.out HXL.out)
    rw [HN.out] at HCL
    obtain ⟨-, -, -, g3, g4, -, f⟩ := hwent.wl.cells
    have f3 := f 3
    have f4 := f 4
    have HOM := hid (hwent.obj.1.trans HO.out)
    rw [HOM.out] at g3 g4 f3 f4
    clear HPU hwent f h1 h2 f1 f2 hxv hvs hB
    go_wp2_with fail
    go_at_call 43
    refine HCL.out.mono ?_
    rintro e w4 ⟨v2, rfl, hown, ho4⟩
    obtain ⟨A5, c5, e5⟩ : ∃ A5 c5, v2 = .slice A5 n c5 := by
      obtain ⟨A5, c5, e5, -⟩ := StrAt.of_own (HN.out ▸ hown)
      exact ⟨A5, c5, HN.out ▸ e5⟩
    subst e5
    have HV := hid hown
    have HO4 := hid ho4
    have HW4 := hid ((HG.out.wl.new ho4).new (Only.alloc [] w4 (.cells #[.slice A5 n c5] 22)))
    clear g3 g4 f3 f4 HCL hown ho4
    obtain ⟨-, -, -, g3, g4, -, f⟩ := HW4.out.cells
    have f3 := f 3
    have f4 := f 4
    rw [HOM.out] at g3 g4 f3 f4
    clear f
    go_wp2_with fail
    go_ret
    have hv := HN.out ▸ HV.out
    have h9 := HG.out.wl.saved HO4.out (x := x) (by rw [HN.out]; exact HV.out) false (Only.alloc [] w4 (.cells #[.slice A5 n c5] 22)) (Nat.le_refl _) (one_own w4 w0.heap.size 22 (.slice A5 n c5) (by have := HG.out.wl.base.size; have := HO4.out.size; omega))
    have h8 := (HW.out.stay HO2.out).trans ((set_self (HW2.out.rw false).hi).symm ▸ HG.out)
    have h7 := h8.trans h9
    rw [HOM.out] at h7
    exact ⟨rfl, _, _, h7⟩
  · rw [if_neg c2]
    obtain ⟨pe, hpe⟩ : ∃ pe, pe = P.e := ⟨_, rfl⟩
    have HPE := hid hpe
    rw [← hpe] at c2 ⊢
    have q2 : (pe == 0) = false := by rw [beq_eq_false_iff_ne]; exact c2
    clear hpe
    go_enter Try.func22, Try.ntmps22
    go_wp2_with fail
    go_at_call 48
    refine HM.out.mono ?_
    rintro e w1 ⟨rfl, ho1⟩
    have HW1 := hid (HW.out.new ho1)
    have HA1 := hid (HA.out.kept ho1 (by simp))
    have HAG := hid (Wal_Age (HW.out.new ho1))
    have HO1 := hid ho1
    obtain ⟨-, -, -, h3, -, -, f⟩ := HW1.out.cells
    have f3 := f 3
    rw [HLOG.out, HO.out] at h3 HAG
    have h3b : w1.cell? ⟨O, 3, none⟩ = some (.int .i64 0) := h3
    rw [HO.out] at f3
    unfold ptr at HAG
    clear HM ho1 f h3
    obtain ⟨ag, hag⟩ : ∃ ag : Int, ag = ((q.h false).first : Int) := ⟨_, rfl⟩
    have hagz : (ag == 0) = true := by rw [hag]; rw [beq_iff_eq]; exact HZ.out
    rw [← hag] at HAG
    clear hag
    go_wp2_with fail
    go_at_call 15
    refine HAG.out.mono ?_
    rintro e w2 ⟨rfl, ho2⟩
    have HW2 := hid (HW1.out.new ho2)
    have HA2 := hid (HA1.out.kept ho2 (by simp))
    have hcx : x.length ≤ c ∧ Kd.C Kd.string w2 A x.length x := by
      obtain ⟨A2, c2, e, h1, h2⟩ := (HN.out ▸ HA2.out : StrAt w2 BX (.slice A x.length c) x).C
      cases e
      exact ⟨h1, h2⟩
    have HPU := hid (Wal_put_begin HW2.out false A c x hcx.2 hcx.1 HX.out HMM.out)
    rw [← HP.out, HO.out, HN.out] at HPU
    have HO2 := hid (HO1.out.trans ho2 (fun _ h _ => h))
    obtain ⟨-, h1, h2, -, -, -, f⟩ := HW2.out.cells
    have f1 := f 1
    have f2 := f 2
    rw [HO.out] at f1 f2 h1 h2
    unfold ptr at h1 h2 HPU
    clear HAG ho2 f h3b f3 HW1 HA1 HO1 hcx
    obtain ⟨R0, hR0⟩ : ∃ R0, m.R false = R0 := ⟨_, rfl⟩
    obtain ⟨R1, hR1⟩ : ∃ R1, m.R true = R1 := ⟨_, rfl⟩
    rw [hR0] at h1
    rw [hR1] at h2
    rw [hR0] at HPU
    clear hR0 hR1
    rw [← HPE.out] at HPU
    go_wp2_with fail
    go_at_call 49
    refine HPU.out.mono ?_
    rintro e w3 ⟨rfl, F1, m1, hwent, hxv, hvs, hB⟩
    have HG := hid hwent
    clear HPU hwent h1 h2 f1 f2 hxv hvs hB
    go_wp2_with fail
    go_ret
    exact ⟨rfl, F1, m1, (HW.out.stay HO2.out).trans ((set_self (HW2.out.rw false).hi).symm ▸ HG.out)⟩
set_option maxHeartbeats 4000000 in
theorem Wal_Save_fn (h : Wl w0 w l F i D s m q) (A : Option Addr) (c : Nat) (x : List ByteArray) (BX : List Nat) (hA : StrAt w BX (.slice A x.length c) x) (hF : ∀ k ∈ BX, Far w0 F m k) (hx : Pure.fine x) (hm : s.opn.length < 900000) (hd : q.down = false) (hlog : q.log = false) (hz : (q.h false).first ≠ 0) :
    Calls Try.prog 22 #[ptr m.O, .slice A x.length c] w fun e w' => e = .returned (.int .i64 (saveW s q x).e) ∧ ∃ F' m', WWent w0 w w' l F F' i D (saveW s q x).s m m' (saveW s q x).q := by
  obtain ⟨P, hP⟩ : ∃ P, P = putW beginR s q true (B (rowL x)) := ⟨_, rfl⟩
  rw [saveW_eq hd true (by rw [hlog]; simp [hz]) hP]
  have hcx : x.length ≤ c ∧ Kd.C Kd.string w A x.length x := by
    obtain ⟨A2, c2, e, h1, h2⟩ := hA.C
    cases e
    exact ⟨h1, h2⟩
  have HM := hid (Wal_may h A c x hcx.2 hcx.1 hx)
  rw [hd] at HM
  have HX := hid hx
  have HXL : Hid (x.length ≤ 4096) := by have := hx.1; show _ ≤ _; omega
  have HW := hid h
  have HA := hid hA
  have HF := hid hF
  have HMM := hid hm
  have HP := hid hP
  have HLOG := hid hlog
  have HD := hid hd
  have HZ := hid (show ((q.h false).first : Int) ≠ 0 by omega)
  have e43 : ∀ args w, (callFunc 43 args).run Try.prog w = .ok (.enter 43 args) w := enters_of Try.func43 (by kernel_rfl) rfl
  have e48 : ∀ args w, (callFunc 48 args).run Try.prog w = .ok (.enter 48 args) w := enters_of Try.func48 (by kernel_rfl) rfl
  have e49 : ∀ args w, (callFunc 49 args).run Try.prog w = .ok (.enter 49 args) w := enters_of Try.func49 (by kernel_rfl) rfl
  have e15 : ∀ args w, (callFunc 15 args).run Try.prog w = .ok (.enter 15 args) w := enters_of Try.func15 (by kernel_rfl) rfl
  obtain ⟨O, hO⟩ : ∃ O, m.O = O := ⟨_, rfl⟩
  have HO := hid hO
  obtain ⟨n, hn⟩ : ∃ n, x.length = n := ⟨_, rfl⟩
  have HN := hid hn
  rw [hO, hn] at HM ⊢
  unfold ptr at HM ⊢
  clear h hA hF hx hm hP hO hn hcx hd hlog hz
  have ew1 : IntKind.i64.wrap ((1 : Int) - 0) = 1 := by decide
  have ew2 : IntKind.i64.wrap ((1 : Int) - 1) = 0 := by decide
  by_cases c2 : P.e = 0
  · rw [if_pos c2]
    go_enter Try.func22, Try.ntmps22
    go_wp2_with fail
    go_at_call 48
    refine HM.out.mono ?_
    rintro e w1 ⟨rfl, ho1⟩
    have HW1 := hid (HW.out.new ho1)
    have HA1 := hid (HA.out.kept ho1 (by simp))
    have HAG := hid (Wal_Age (HW.out.new ho1))
    have HO1 := hid ho1
    obtain ⟨-, -, -, h3, -, -, f⟩ := HW1.out.cells
    have f3 := f 3
    rw [HLOG.out, HO.out] at h3 HAG
    have h3b : w1.cell? ⟨O, 3, none⟩ = some (.int .i64 0) := h3
    rw [HO.out] at f3
    unfold ptr at HAG
    clear HM ho1 f h3
    obtain ⟨ag, hag⟩ : ∃ ag : Int, ag = ((q.h false).first : Int) := ⟨_, rfl⟩
    have hagz : (ag == 0) = false := by rw [hag]; rw [beq_eq_false_iff_ne]; exact HZ.out
    rw [← hag] at HAG
    clear hag
    go_wp2_with fail
    go_at_call 15
    refine HAG.out.mono ?_
    rintro e w2 ⟨rfl, ho2⟩
    have HW2 := hid (HW1.out.new ho2)
    have HA2 := hid (HA1.out.kept ho2 (by simp))
    have hcx : x.length ≤ c ∧ Kd.C Kd.string w2 A x.length x := by
      obtain ⟨A2, c2, e, h1, h2⟩ := (HN.out ▸ HA2.out : StrAt w2 BX (.slice A x.length c) x).C
      cases e
      exact ⟨h1, h2⟩
    have HPU := hid (Wal_put_begin HW2.out true A c x hcx.2 hcx.1 HX.out HMM.out)
    rw [← HP.out, HO.out, HN.out] at HPU
    have HO2 := hid (HO1.out.trans ho2 (fun _ h _ => h))
    obtain ⟨-, h1, h2, -, -, -, f⟩ := HW2.out.cells
    have f1 := f 1
    have f2 := f 2
    rw [HO.out] at f1 f2 h1 h2
    unfold ptr at h1 h2 HPU
    clear HAG ho2 f h3b f3 HW1 HA1 HO1 hcx
    obtain ⟨R0, hR0⟩ : ∃ R0, m.R false = R0 := ⟨_, rfl⟩
    obtain ⟨R1, hR1⟩ : ∃ R1, m.R true = R1 := ⟨_, rfl⟩
    rw [hR0] at h1
    rw [hR1] at h2
    rw [hR1] at HPU
    clear hR0 hR1
    rw [c2] at HPU
    go_wp2_with fail
    go_at_call 49
    refine HPU.out.mono ?_
    rintro e w3 ⟨rfl, F1, m1, hwent, hxv, hvs, hB⟩
    have HG := hid hwent
    have HST := hid (show StrAt w3 BX (.slice A x.length c) x from (HN.out ▸ HA2.out : StrAt w2 BX (.slice A x.length c) x).same (fun k hk => (hwent.far HW2.out.base (HF.out k hk)).1))
    have HCL := hid (Clone_str HST.out HXL.out)
    rw [HN.out] at HCL
    obtain ⟨-, -, -, g3, g4, -, f⟩ := hwent.wl.cells
    have f3 := f 3
    have f4 := f 4
    have HOM := hid (hwent.obj.1.trans HO.out)
    rw [HOM.out] at g3 g4 f3 f4
    clear HPU hwent f h1 h2 f1 f2 hxv hvs hB
    go_wp2_with fail
    go_at_call 43
    refine HCL.out.mono ?_
    rintro e w4 ⟨v2, rfl, hown, ho4⟩
    obtain ⟨A5, c5, e5⟩ : ∃ A5 c5, v2 = .slice A5 n c5 := by
      obtain ⟨A5, c5, e5, -⟩ := StrAt.of_own (HN.out ▸ hown)
      exact ⟨A5, c5, HN.out ▸ e5⟩
    subst e5
    have HV := hid hown
    have HO4 := hid ho4
    have HW4 := hid ((HG.out.wl.new ho4).new (Only.alloc [] w4 (.cells #[.slice A5 n c5] 22)))
    clear g3 g4 f3 f4 HCL hown ho4
    obtain ⟨-, -, -, g3, g4, -, f⟩ := HW4.out.cells
    have f3 := f 3
    have f4 := f 4
    rw [HOM.out] at g3 g4 f3 f4
    clear f
    go_wp2_with fail
    go_ret
    have hv := HN.out ▸ HV.out
    have h9 := HG.out.wl.saved HO4.out (x := x) (by rw [HN.out]; exact HV.out) true (Only.alloc [] w4 (.cells #[.slice A5 n c5] 22)) (Nat.le_refl _) (one_own w4 w0.heap.size 22 (.slice A5 n c5) (by have := HG.out.wl.base.size; have := HO4.out.size; omega))
    have h8 := (HW.out.stay HO2.out).trans ((set_self (HW2.out.rw false).hi).symm ▸ HG.out)
    have h7 := h8.trans h9
    rw [HOM.out] at h7
    exact ⟨rfl, _, _, h7⟩
  · rw [if_neg c2]
    obtain ⟨pe, hpe⟩ : ∃ pe, pe = P.e := ⟨_, rfl⟩
    have HPE := hid hpe
    rw [← hpe] at c2 ⊢
    have q2 : (pe == 0) = false := by rw [beq_eq_false_iff_ne]; exact c2
    clear hpe
    go_enter Try.func22, Try.ntmps22
    go_wp2_with fail
    go_at_call 48
    refine HM.out.mono ?_
    rintro e w1 ⟨rfl, ho1⟩
    have HW1 := hid (HW.out.new ho1)
    have HA1 := hid (HA.out.kept ho1 (by simp))
    have HAG := hid (Wal_Age (HW.out.new ho1))
    have HO1 := hid ho1
    obtain ⟨-, -, -, h3, -, -, f⟩ := HW1.out.cells
    have f3 := f 3
    rw [HLOG.out, HO.out] at h3 HAG
    have h3b : w1.cell? ⟨O, 3, none⟩ = some (.int .i64 0) := h3
    rw [HO.out] at f3
    unfold ptr at HAG
    clear HM ho1 f h3
    obtain ⟨ag, hag⟩ : ∃ ag : Int, ag = ((q.h false).first : Int) := ⟨_, rfl⟩
    have hagz : (ag == 0) = false := by rw [hag]; rw [beq_eq_false_iff_ne]; exact HZ.out
    rw [← hag] at HAG
    clear hag
    go_wp2_with fail
    go_at_call 15
    refine HAG.out.mono ?_
    rintro e w2 ⟨rfl, ho2⟩
    have HW2 := hid (HW1.out.new ho2)
    have HA2 := hid (HA1.out.kept ho2 (by simp))
    have hcx : x.length ≤ c ∧ Kd.C Kd.string w2 A x.length x := by
      obtain ⟨A2, c2, e, h1, h2⟩ := (HN.out ▸ HA2.out : StrAt w2 BX (.slice A x.length c) x).C
      cases e
      exact ⟨h1, h2⟩
    have HPU := hid (Wal_put_begin HW2.out true A c x hcx.2 hcx.1 HX.out HMM.out)
    rw [← HP.out, HO.out, HN.out] at HPU
    have HO2 := hid (HO1.out.trans ho2 (fun _ h _ => h))
    obtain ⟨-, h1, h2, -, -, -, f⟩ := HW2.out.cells
    have f1 := f 1
    have f2 := f 2
    rw [HO.out] at f1 f2 h1 h2
    unfold ptr at h1 h2 HPU
    clear HAG ho2 f h3b f3 HW1 HA1 HO1 hcx
    obtain ⟨R0, hR0⟩ : ∃ R0, m.R false = R0 := ⟨_, rfl⟩
    obtain ⟨R1, hR1⟩ : ∃ R1, m.R true = R1 := ⟨_, rfl⟩
    rw [hR0] at h1
    rw [hR1] at h2
    rw [hR1] at HPU
    clear hR0 hR1
    rw [← HPE.out] at HPU
    go_wp2_with fail
    go_at_call 49
    refine HPU.out.mono ?_
    rintro e w3 ⟨rfl, F1, m1, hwent, hxv, hvs, hB⟩
    have HG := hid hwent
    clear HPU hwent h1 h2 f1 f2 hxv hvs hB
    go_wp2_with fail
    go_ret
    exact ⟨rfl, F1, m1, (HW.out.stay HO2.out).trans ((set_self (HW2.out.rw false).hi).symm ▸ HG.out)⟩
set_option maxHeartbeats 4000000 in
theorem Wal_Save_tz (h : Wl w0 w l F i D s m q) (A : Option Addr) (c : Nat) (x : List ByteArray) (BX : List Nat) (hA : StrAt w BX (.slice A x.length c) x) (hF : ∀ k ∈ BX, Far w0 F m k) (hx : Pure.fine x) (hm : s.opn.length < 900000) (hd : q.down = false) (hlog : q.log = true) (hz : (q.h true).first = 0) :
    Calls Try.prog 22 #[ptr m.O, .slice A x.length c] w fun e w' => e = .returned (.int .i64 (saveW s q x).e) ∧ ∃ F' m', WWent w0 w w' l F F' i D (saveW s q x).s m m' (saveW s q x).q := by
  obtain ⟨P, hP⟩ : ∃ P, P = putW beginR s q false (B (rowL x)) := ⟨_, rfl⟩
  rw [saveW_eq hd false (by rw [hlog]; simp [hz]) hP]
  have hcx : x.length ≤ c ∧ Kd.C Kd.string w A x.length x := by
    obtain ⟨A2, c2, e, h1, h2⟩ := hA.C
    cases e
    exact ⟨h1, h2⟩
  have HM := hid (Wal_may h A c x hcx.2 hcx.1 hx)
  rw [hd] at HM
  have HX := hid hx
  have HXL : Hid (x.length ≤ 4096) := by have := hx.1; show _ ≤ _; omega
  have HW := hid h
  have HA := hid hA
  have HF := hid hF
  have HMM := hid hm
  have HP := hid hP
  have HLOG := hid hlog
  have HD := hid hd
  have HZ := hid (show ((q.h true).first : Int) = 0 by rw [hz]; rfl)
  have e43 : ∀ args w, (callFunc 43 args).run Try.prog w = .ok (.enter 43 args) w := enters_of Try.func43 (by kernel_rfl) rfl
  have e48 : ∀ args w, (callFunc 48 args).run Try.prog w = .ok (.enter 48 args) w := enters_of Try.func48 (by kernel_rfl) rfl
  have e49 : ∀ args w, (callFunc 49 args).run Try.prog w = .ok (.enter 49 args) w := enters_of Try.func49 (by kernel_rfl) rfl
  have e15 : ∀ args w, (callFunc 15 args).run Try.prog w = .ok (.enter 15 args) w := enters_of Try.func15 (by kernel_rfl) rfl
  obtain ⟨O, hO⟩ : ∃ O, m.O = O := ⟨_, rfl⟩
  have HO := hid hO
  obtain ⟨n, hn⟩ : ∃ n, x.length = n := ⟨_, rfl⟩
  have HN := hid hn
  rw [hO, hn] at HM ⊢
  unfold ptr at HM ⊢
  clear h hA hF hx hm hP hO hn hcx hd hlog hz
  have ew1 : IntKind.i64.wrap ((1 : Int) - 0) = 1 := by decide
  have ew2 : IntKind.i64.wrap ((1 : Int) - 1) = 0 := by decide
  by_cases c2 : P.e = 0
  · rw [if_pos c2]
    go_enter Try.func22, Try.ntmps22
    go_wp2_with fail
    go_at_call 48
    refine HM.out.mono ?_
    rintro e w1 ⟨rfl, ho1⟩
    have HW1 := hid (HW.out.new ho1)
    have HA1 := hid (HA.out.kept ho1 (by simp))
    have HAG := hid (Wal_Age (HW.out.new ho1))
    have HO1 := hid ho1
    obtain ⟨-, -, -, h3, -, -, f⟩ := HW1.out.cells
    have f3 := f 3
    rw [HLOG.out, HO.out] at h3 HAG
    have h3b : w1.cell? ⟨O, 3, none⟩ = some (.int .i64 1) := h3
    rw [HO.out] at f3
    unfold ptr at HAG
    clear HM ho1 f h3
    obtain ⟨ag, hag⟩ : ∃ ag : Int, ag = ((q.h true).first : Int) := ⟨_, rfl⟩
    have hagz : (ag == 0) = true := by rw [hag]; rw [beq_iff_eq]; exact HZ.out
    rw [← hag] at HAG
    clear hag
    go_wp2_with fail
    go_at_call 15
    refine HAG.out.mono ?_
    rintro e w2 ⟨rfl, ho2⟩
    have HW2 := hid (HW1.out.new ho2)
    have HA2 := hid (HA1.out.kept ho2 (by simp))
    have hcx : x.length ≤ c ∧ Kd.C Kd.string w2 A x.length x := by
      obtain ⟨A2, c2, e, h1, h2⟩ := (HN.out ▸ HA2.out : StrAt w2 BX (.slice A x.length c) x).C
      cases e
      exact ⟨h1, h2⟩
    have HPU := hid (Wal_put_begin HW2.out false A c x hcx.2 hcx.1 HX.out HMM.out)
    rw [← HP.out, HO.out, HN.out] at HPU
    have HO2 := hid (HO1.out.trans ho2 (fun _ h _ => h))
    obtain ⟨-, h1, h2, -, -, -, f⟩ := HW2.out.cells
    have f1 := f 1
    have f2 := f 2
    rw [HO.out] at f1 f2 h1 h2
    unfold ptr at h1 h2 HPU
    clear HAG ho2 f h3b f3 HW1 HA1 HO1 hcx
    obtain ⟨R0, hR0⟩ : ∃ R0, m.R false = R0 := ⟨_, rfl⟩
    obtain ⟨R1, hR1⟩ : ∃ R1, m.R true = R1 := ⟨_, rfl⟩
    rw [hR0] at h1
    rw [hR1] at h2
    rw [hR0] at HPU
    clear hR0 hR1
    rw [c2] at HPU
    go_wp2_with fail
    go_at_call 49
    refine HPU.out.mono ?_
    rintro e w3 ⟨rfl, F1, m1, hwent, hxv, hvs, hB⟩
    have HG := hid hwent
    have HST := hid (show StrAt w3 BX (.slice A x.length c) x from (HN.out ▸ HA2.out : StrAt w2 BX (.slice A x.length c) x).same (fun k hk => (hwent.far HW2.out.base (HF.out k hk)).1))
    have HCL := hid (Clone_str HST.out HXL.out)
    rw [HN.out] at HCL
    obtain ⟨-, -, -, g3, g4, -, f⟩ := hwent.wl.cells
    have f3 := f 3
    have f4 := f 4
    have HOM := hid (hwent.obj.1.trans HO.out)
    rw [HOM.out] at g3 g4 f3 f4
    clear HPU hwent f h1 h2 f1 f2 hxv hvs hB
    go_wp2_with fail
    go_at_call 43
    refine HCL.out.mono ?_
    rintro e w4 ⟨v2, rfl, hown, ho4⟩
    obtain ⟨A5, c5, e5⟩ : ∃ A5 c5, v2 = .slice A5 n c5 := by
      obtain ⟨A5, c5, e5, -⟩ := StrAt.of_own (HN.out ▸ hown)
      exact ⟨A5, c5, HN.out ▸ e5⟩
    subst e5
    have HV := hid hown
    have HO4 := hid ho4
    have HW4 := hid ((HG.out.wl.new ho4).new (Only.alloc [] w4 (.cells #[.slice A5 n c5] 22)))
    clear g3 g4 f3 f4 HCL hown ho4
    obtain ⟨-, -, -, g3, g4, -, f⟩ := HW4.out.cells
    have f3 := f 3
    have f4 := f 4
    rw [HOM.out] at g3 g4 f3 f4
    clear f
    go_wp2_with fail
    go_ret
    have hv := HN.out ▸ HV.out
    have h9 := HG.out.wl.saved HO4.out (x := x) (by rw [HN.out]; exact HV.out) false (Only.alloc [] w4 (.cells #[.slice A5 n c5] 22)) (Nat.le_refl _) (one_own w4 w0.heap.size 22 (.slice A5 n c5) (by have := HG.out.wl.base.size; have := HO4.out.size; omega))
    have h8 := (HW.out.stay HO2.out).trans ((set_self (HW2.out.rw false).hi).symm ▸ HG.out)
    have h7 := h8.trans h9
    rw [HOM.out] at h7
    exact ⟨rfl, _, _, h7⟩
  · rw [if_neg c2]
    obtain ⟨pe, hpe⟩ : ∃ pe, pe = P.e := ⟨_, rfl⟩
    have HPE := hid hpe
    rw [← hpe] at c2 ⊢
    have q2 : (pe == 0) = false := by rw [beq_eq_false_iff_ne]; exact c2
    clear hpe
    go_enter Try.func22, Try.ntmps22
    go_wp2_with fail
    go_at_call 48
    refine HM.out.mono ?_
    rintro e w1 ⟨rfl, ho1⟩
    have HW1 := hid (HW.out.new ho1)
    have HA1 := hid (HA.out.kept ho1 (by simp))
    have HAG := hid (Wal_Age (HW.out.new ho1))
    have HO1 := hid ho1
    obtain ⟨-, -, -, h3, -, -, f⟩ := HW1.out.cells
    have f3 := f 3
    rw [HLOG.out, HO.out] at h3 HAG
    have h3b : w1.cell? ⟨O, 3, none⟩ = some (.int .i64 1) := h3
    rw [HO.out] at f3
    unfold ptr at HAG
    clear HM ho1 f h3
    obtain ⟨ag, hag⟩ : ∃ ag : Int, ag = ((q.h true).first : Int) := ⟨_, rfl⟩
    have hagz : (ag == 0) = true := by rw [hag]; rw [beq_iff_eq]; exact HZ.out
    rw [← hag] at HAG
    clear hag
    go_wp2_with fail
    go_at_call 15
    refine HAG.out.mono ?_
    rintro e w2 ⟨rfl, ho2⟩
    have HW2 := hid (HW1.out.new ho2)
    have HA2 := hid (HA1.out.kept ho2 (by simp))
    have hcx : x.length ≤ c ∧ Kd.C Kd.string w2 A x.length x := by
      obtain ⟨A2, c2, e, h1, h2⟩ := (HN.out ▸ HA2.out : StrAt w2 BX (.slice A x.length c) x).C
      cases e
      exact ⟨h1, h2⟩
    have HPU := hid (Wal_put_begin HW2.out false A c x hcx.2 hcx.1 HX.out HMM.out)
    rw [← HP.out, HO.out, HN.out] at HPU
    have HO2 := hid (HO1.out.trans ho2 (fun _ h _ => h))
    obtain ⟨-, h1, h2, -, -, -, f⟩ := HW2.out.cells
    have f1 := f 1
    have f2 := f 2
    rw [HO.out] at f1 f2 h1 h2
    unfold ptr at h1 h2 HPU
    clear HAG ho2 f h3b f3 HW1 HA1 HO1 hcx
    obtain ⟨R0, hR0⟩ : ∃ R0, m.R false = R0 := ⟨_, rfl⟩
    obtain ⟨R1, hR1⟩ : ∃ R1, m.R true = R1 := ⟨_, rfl⟩
    rw [hR0] at h1
    rw [hR1] at h2
    rw [hR0] at HPU
    clear hR0 hR1
    rw [← HPE.out] at HPU
    go_wp2_with fail
    go_at_call 49
    refine HPU.out.mono ?_
    rintro e w3 ⟨rfl, F1, m1, hwent, hxv, hvs, hB⟩
    have HG := hid hwent
    clear HPU hwent h1 h2 f1 f2 hxv hvs hB
    go_wp2_with fail
    go_ret
    exact ⟨rfl, F1, m1, (HW.out.stay HO2.out).trans ((set_self (HW2.out.rw false).hi).symm ▸ HG.out)⟩
set_option maxHeartbeats 4000000 in
theorem Wal_Save_tn (h : Wl w0 w l F i D s m q) (A : Option Addr) (c : Nat) (x : List ByteArray) (BX : List Nat) (hA : StrAt w BX (.slice A x.length c) x) (hF : ∀ k ∈ BX, Far w0 F m k) (hx : Pure.fine x) (hm : s.opn.length < 900000) (hd : q.down = false) (hlog : q.log = true) (hz : (q.h true).first ≠ 0) :
    Calls Try.prog 22 #[ptr m.O, .slice A x.length c] w fun e w' => e = .returned (.int .i64 (saveW s q x).e) ∧ ∃ F' m', WWent w0 w w' l F F' i D (saveW s q x).s m m' (saveW s q x).q := by
  obtain ⟨P, hP⟩ : ∃ P, P = putW beginR s q false (B (rowL x)) := ⟨_, rfl⟩
  rw [saveW_eq hd false (by rw [hlog]; simp [hz]) hP]
  have hcx : x.length ≤ c ∧ Kd.C Kd.string w A x.length x := by
    obtain ⟨A2, c2, e, h1, h2⟩ := hA.C
    cases e
    exact ⟨h1, h2⟩
  have HM := hid (Wal_may h A c x hcx.2 hcx.1 hx)
  rw [hd] at HM
  have HX := hid hx
  have HXL : Hid (x.length ≤ 4096) := by have := hx.1; show _ ≤ _; omega
  have HW := hid h
  have HA := hid hA
  have HF := hid hF
  have HMM := hid hm
  have HP := hid hP
  have HLOG := hid hlog
  have HD := hid hd
  have HZ := hid (show ((q.h true).first : Int) ≠ 0 by omega)
  have e43 : ∀ args w, (callFunc 43 args).run Try.prog w = .ok (.enter 43 args) w := enters_of Try.func43 (by kernel_rfl) rfl
  have e48 : ∀ args w, (callFunc 48 args).run Try.prog w = .ok (.enter 48 args) w := enters_of Try.func48 (by kernel_rfl) rfl
  have e49 : ∀ args w, (callFunc 49 args).run Try.prog w = .ok (.enter 49 args) w := enters_of Try.func49 (by kernel_rfl) rfl
  have e15 : ∀ args w, (callFunc 15 args).run Try.prog w = .ok (.enter 15 args) w := enters_of Try.func15 (by kernel_rfl) rfl
  obtain ⟨O, hO⟩ : ∃ O, m.O = O := ⟨_, rfl⟩
  have HO := hid hO
  obtain ⟨n, hn⟩ : ∃ n, x.length = n := ⟨_, rfl⟩
  have HN := hid hn
  rw [hO, hn] at HM ⊢
  unfold ptr at HM ⊢
  clear h hA hF hx hm hP hO hn hcx hd hlog hz
  have ew1 : IntKind.i64.wrap ((1 : Int) - 0) = 1 := by decide
  have ew2 : IntKind.i64.wrap ((1 : Int) - 1) = 0 := by decide
  by_cases c2 : P.e = 0
  · rw [if_pos c2]
    go_enter Try.func22, Try.ntmps22
    go_wp2_with fail
    go_at_call 48
    refine HM.out.mono ?_
    rintro e w1 ⟨rfl, ho1⟩
    have HW1 := hid (HW.out.new ho1)
    have HA1 := hid (HA.out.kept ho1 (by simp))
    have HAG := hid (Wal_Age (HW.out.new ho1))
    have HO1 := hid ho1
    obtain ⟨-, -, -, h3, -, -, f⟩ := HW1.out.cells
    have f3 := f 3
    rw [HLOG.out, HO.out] at h3 HAG
    have h3b : w1.cell? ⟨O, 3, none⟩ = some (.int .i64 1) := h3
    rw [HO.out] at f3
    unfold ptr at HAG
    clear HM ho1 f h3
    obtain ⟨ag, hag⟩ : ∃ ag : Int, ag = ((q.h true).first : Int) := ⟨_, rfl⟩
    have hagz : (ag == 0) = false := by rw [hag]; rw [beq_eq_false_iff_ne]; exact HZ.out
    rw [← hag] at HAG
    clear hag
    go_wp2_with fail
    go_at_call 15
    refine HAG.out.mono ?_
    rintro e w2 ⟨rfl, ho2⟩
    have HW2 := hid (HW1.out.new ho2)
    have HA2 := hid (HA1.out.kept ho2 (by simp))
    have hcx : x.length ≤ c ∧ Kd.C Kd.string w2 A x.length x := by
      obtain ⟨A2, c2, e, h1, h2⟩ := (HN.out ▸ HA2.out : StrAt w2 BX (.slice A x.length c) x).C
      cases e
      exact ⟨h1, h2⟩
    have HPU := hid (Wal_put_begin HW2.out false A c x hcx.2 hcx.1 HX.out HMM.out)
    rw [← HP.out, HO.out, HN.out] at HPU
    have HO2 := hid (HO1.out.trans ho2 (fun _ h _ => h))
    obtain ⟨-, h1, h2, -, -, -, f⟩ := HW2.out.cells
    have f1 := f 1
    have f2 := f 2
    rw [HO.out] at f1 f2 h1 h2
    unfold ptr at h1 h2 HPU
    clear HAG ho2 f h3b f3 HW1 HA1 HO1 hcx
    obtain ⟨R0, hR0⟩ : ∃ R0, m.R false = R0 := ⟨_, rfl⟩
    obtain ⟨R1, hR1⟩ : ∃ R1, m.R true = R1 := ⟨_, rfl⟩
    rw [hR0] at h1
    rw [hR1] at h2
    rw [hR0] at HPU
    clear hR0 hR1
    rw [c2] at HPU
    go_wp2_with fail
    go_at_call 49
    refine HPU.out.mono ?_
    rintro e w3 ⟨rfl, F1, m1, hwent, hxv, hvs, hB⟩
    have HG := hid hwent
    have HST := hid (show StrAt w3 BX (.slice A x.length c) x from (HN.out ▸ HA2.out : StrAt w2 BX (.slice A x.length c) x).same (fun k hk => (hwent.far HW2.out.base (HF.out k hk)).1))
    have HCL := hid (Clone_str HST.out HXL.out)
    rw [HN.out] at HCL
    obtain ⟨-, -, -, g3, g4, -, f⟩ := hwent.wl.cells
    have f3 := f 3
    have f4 := f 4
    have HOM := hid (hwent.obj.1.trans HO.out)
    rw [HOM.out] at g3 g4 f3 f4
    clear HPU hwent f h1 h2 f1 f2 hxv hvs hB
    go_wp2_with fail
    go_at_call 43
    refine HCL.out.mono ?_
    rintro e w4 ⟨v2, rfl, hown, ho4⟩
    obtain ⟨A5, c5, e5⟩ : ∃ A5 c5, v2 = .slice A5 n c5 := by
      obtain ⟨A5, c5, e5, -⟩ := StrAt.of_own (HN.out ▸ hown)
      exact ⟨A5, c5, HN.out ▸ e5⟩
    subst e5
    have HV := hid hown
    have HO4 := hid ho4
    have HW4 := hid ((HG.out.wl.new ho4).new (Only.alloc [] w4 (.cells #[.slice A5 n c5] 22)))
    clear g3 g4 f3 f4 HCL hown ho4
    obtain ⟨-, -, -, g3, g4, -, f⟩ := HW4.out.cells
    have f3 := f 3
    have f4 := f 4
    rw [HOM.out] at g3 g4 f3 f4
    clear f
    go_wp2_with fail
    go_ret
    have hv := HN.out ▸ HV.out
    have h9 := HG.out.wl.saved HO4.out (x := x) (by rw [HN.out]; exact HV.out) false (Only.alloc [] w4 (.cells #[.slice A5 n c5] 22)) (Nat.le_refl _) (one_own w4 w0.heap.size 22 (.slice A5 n c5) (by have := HG.out.wl.base.size; have := HO4.out.size; omega))
    have h8 := (HW.out.stay HO2.out).trans ((set_self (HW2.out.rw false).hi).symm ▸ HG.out)
    have h7 := h8.trans h9
    rw [HOM.out] at h7
    exact ⟨rfl, _, _, h7⟩
  · rw [if_neg c2]
    obtain ⟨pe, hpe⟩ : ∃ pe, pe = P.e := ⟨_, rfl⟩
    have HPE := hid hpe
    rw [← hpe] at c2 ⊢
    have q2 : (pe == 0) = false := by rw [beq_eq_false_iff_ne]; exact c2
    clear hpe
    go_enter Try.func22, Try.ntmps22
    go_wp2_with fail
    go_at_call 48
    refine HM.out.mono ?_
    rintro e w1 ⟨rfl, ho1⟩
    have HW1 := hid (HW.out.new ho1)
    have HA1 := hid (HA.out.kept ho1 (by simp))
    have HAG := hid (Wal_Age (HW.out.new ho1))
    have HO1 := hid ho1
    obtain ⟨-, -, -, h3, -, -, f⟩ := HW1.out.cells
    have f3 := f 3
    rw [HLOG.out, HO.out] at h3 HAG
    have h3b : w1.cell? ⟨O, 3, none⟩ = some (.int .i64 1) := h3
    rw [HO.out] at f3
    unfold ptr at HAG
    clear HM ho1 f h3
    obtain ⟨ag, hag⟩ : ∃ ag : Int, ag = ((q.h true).first : Int) := ⟨_, rfl⟩
    have hagz : (ag == 0) = false := by rw [hag]; rw [beq_eq_false_iff_ne]; exact HZ.out
    rw [← hag] at HAG
    clear hag
    go_wp2_with fail
    go_at_call 15
    refine HAG.out.mono ?_
    rintro e w2 ⟨rfl, ho2⟩
    have HW2 := hid (HW1.out.new ho2)
    have HA2 := hid (HA1.out.kept ho2 (by simp))
    have hcx : x.length ≤ c ∧ Kd.C Kd.string w2 A x.length x := by
      obtain ⟨A2, c2, e, h1, h2⟩ := (HN.out ▸ HA2.out : StrAt w2 BX (.slice A x.length c) x).C
      cases e
      exact ⟨h1, h2⟩
    have HPU := hid (Wal_put_begin HW2.out false A c x hcx.2 hcx.1 HX.out HMM.out)
    rw [← HP.out, HO.out, HN.out] at HPU
    have HO2 := hid (HO1.out.trans ho2 (fun _ h _ => h))
    obtain ⟨-, h1, h2, -, -, -, f⟩ := HW2.out.cells
    have f1 := f 1
    have f2 := f 2
    rw [HO.out] at f1 f2 h1 h2
    unfold ptr at h1 h2 HPU
    clear HAG ho2 f h3b f3 HW1 HA1 HO1 hcx
    obtain ⟨R0, hR0⟩ : ∃ R0, m.R false = R0 := ⟨_, rfl⟩
    obtain ⟨R1, hR1⟩ : ∃ R1, m.R true = R1 := ⟨_, rfl⟩
    rw [hR0] at h1
    rw [hR1] at h2
    rw [hR0] at HPU
    clear hR0 hR1
    rw [← HPE.out] at HPU
    go_wp2_with fail
    go_at_call 49
    refine HPU.out.mono ?_
    rintro e w3 ⟨rfl, F1, m1, hwent, hxv, hvs, hB⟩
    have HG := hid hwent
    clear HPU hwent h1 h2 f1 f2 hxv hvs hB
    go_wp2_with fail
    go_ret
    exact ⟨rfl, F1, m1, (HW.out.stay HO2.out).trans ((set_self (HW2.out.rw false).hi).symm ▸ HG.out)⟩
set_option maxHeartbeats 4000000 in
theorem Wal_Save (h : Wl w0 w l F i D s m q) (A : Option Addr) (c : Nat) (x : List ByteArray) (BX : List Nat) (hA : StrAt w BX (.slice A x.length c) x) (hF : ∀ k ∈ BX, Far w0 F m k) (hx : Pure.fine x) (hm : s.opn.length < 900000) :
    Calls Try.prog 22 #[ptr m.O, .slice A x.length c] w fun e w' => e = .returned (.int .i64 (saveW s q x).e) ∧ ∃ F' m', WWent w0 w w' l F F' i D (saveW s q x).s m m' (saveW s q x).q := by
  cases hd : q.down with
  | true =>
    have e0 : saveW s q x = ⟨s, q, 30⟩ := by unfold saveW; rw [if_pos hd]
    rw [e0]
    have hcx : x.length ≤ c ∧ Kd.C Kd.string w A x.length x := by
      obtain ⟨A2, c2, e, h1, h2⟩ := hA.C
      cases e
      exact ⟨h1, h2⟩
    have HM := hid (Wal_may h A c x hcx.2 hcx.1 hx)
    rw [hd] at HM
    have HW := hid h
    have e48 : ∀ args w, (callFunc 48 args).run Try.prog w = .ok (.enter 48 args) w := enters_of Try.func48 (by kernel_rfl) rfl
    obtain ⟨O, hO⟩ : ∃ O, m.O = O := ⟨_, rfl⟩
    obtain ⟨n, hn⟩ : ∃ n, x.length = n := ⟨_, rfl⟩
    rw [hO, hn] at HM ⊢
    unfold ptr at HM ⊢
    clear h hA hF hx hm hcx hd e0 hO hn
    go_enter Try.func22, Try.ntmps22
    go_wp2_with fail
    go_at_call 48
    refine HM.out.mono ?_
    rintro e w1 ⟨rfl, ho1⟩
    have HO1 := hid ho1
    clear HM ho1
    go_wp2_with fail
    go_ret
    exact ⟨rfl, F, m, HW.out.stay HO1.out⟩
  | false =>
    cases hlog : q.log with
    | true =>
      by_cases hz : (q.h true).first = 0
      · exact Wal_Save_tz h A c x BX hA hF hx hm hd hlog hz
      · exact Wal_Save_tn h A c x BX hA hF hx hm hd hlog hz
    | false =>
      by_cases hz : (q.h false).first = 0
      · exact Wal_Save_fz h A c x BX hA hF hx hm hd hlog hz
      · exact Wal_Save_fn h A c x BX hA hF hx hm hd hlog hz
end
end Go.Proofs.Ytnhgakmnkpjpdaa
