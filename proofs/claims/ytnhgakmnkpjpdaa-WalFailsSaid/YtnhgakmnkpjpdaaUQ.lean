import Derived.Test.YtnhgakmnkpjpdaaUP
import Derived.Test.YtnhgakmnkpjpdaaXK
import Derived.KernelRfl
/- Chapter 06: a log that may fail, in memory; transactions that were told, and blocks, beside it. -/
set_option maxRecDepth 100000
set_option linter.unusedVariables false
set_option linter.unusedSimpArgs false
namespace Go.Proofs.Ytnhgakmnkpjpdaa
open Go Go.RowKit Go.Proofs.Ytnhgakmnkpjpdaa.Q Go.Proofs.YtnhgakmnkpjpdaaW.PrintWords Go.Proofs.YtnhgakmnkpjpdaaW.PrintLast Go.Proofs.YtnhgakmnkpjpdaaW.PrintMore
attribute [local go_sem] Oper.semAt_some max2_int min2_int max_two min_two max_three min_three max_four min_four
/-- A failure, where it lies. -/
def boxC (X : S30) : Obj := .cells #[.int .u64 X.f0, .int .i64 X.f1, .int .i64 X.f2] 30
/-- An act, where it lies. -/
def boxX (X : S32) (A : Option Addr) (c : Nat) : Obj := .cells #[.int .u8 X.f0, .slice A X.f1.length c, .int .u8 X.f2, .int .u64 X.f3.f0, .int .i64 X.f3.f1, .int .i64 X.f3.f2] 32
theorem boxX_cells {W : World} {XB : Nat} {X : S32} {A : Option Addr} {c : Nat} (h : W.heap[XB]? = some (boxX X A c)) : W.cell? ⟨XB, 0, none⟩ = some (.int .u8 X.f0) ∧ W.cell? ⟨XB, 1, none⟩ = some (.slice A X.f1.length c) ∧ W.cell? ⟨XB, 2, none⟩ = some (.int .u8 X.f2) ∧ W.cell? ⟨XB, 3, none⟩ = some (.int .u64 X.f3.f0) ∧ W.cell? ⟨XB, 4, none⟩ = some (.int .i64 X.f3.f1) ∧ W.cell? ⟨XB, 5, none⟩ = some (.int .i64 X.f3.f2) :=
  ⟨cell_of_row W _ _ _ _ _ h, cell_of_row W _ _ _ _ _ h, cell_of_row W _ _ _ _ _ h, cell_of_row W _ _ _ _ _ h, cell_of_row W _ _ _ _ _ h, cell_of_row W _ _ _ _ _ h⟩
theorem boxC_cells {W : World} {CB : Nat} {X : S30} (h : W.heap[CB]? = some (boxC X)) : W.cell? ⟨CB, 0, none⟩ = some (.int .u64 X.f0) ∧ W.cell? ⟨CB, 1, none⟩ = some (.int .i64 X.f1) ∧ W.cell? ⟨CB, 2, none⟩ = some (.int .i64 X.f2) :=
  ⟨cell_of_row W _ _ _ _ _ h, cell_of_row W _ _ _ _ _ h, cell_of_row W _ _ _ _ _ h⟩
theorem block_lt {W : World} {b : Nat} {o : Obj} (h : W.heap[b]? = some o) : b < W.heap.size := (Array.getElem?_eq_some_iff.1 h).1
/-! A block that holds numbers: no text and no transaction lies in it -/
def Num (cs : Array Value) : Prop := (∀ (j : Nat) (t : ByteArray), cs[j]? ≠ some (Value.string t)) ∧ ∀ (j : Nat) (A : Option Addr) (n c : Nat), cs[j]? ≠ some (Value.slice A n c)
theorem num_C (X : S30) : Num #[.int .u64 X.f0, .int .i64 X.f1, .int .i64 X.f2] := by
  refine ⟨fun j t h => ?_, fun j A n c h => ?_⟩
  · obtain ⟨hl, h2⟩ := Array.getElem?_eq_some_iff.1 h
    have hl' : j < 3 := hl
    rcases (show j = 0 ∨ j = 1 ∨ j = 2 by omega) with rfl | rfl | rfl <;> cases h2
  · obtain ⟨hl, h2⟩ := Array.getElem?_eq_some_iff.1 h
    have hl' : j < 3 := hl
    rcases (show j = 0 ∨ j = 1 ∨ j = 2 by omega) with rfl | rfl | rfl <;> cases h2
theorem cell_in {w : World} {ad : Addr} {cs : Array Value} {ty : Nat} {v : Value} (h : w.cell? ad = some v) (hQ : w.heap[ad.block]? = some (.cells cs ty (0, 0))) : cs[ad.off]? = some v := by
  unfold World.cell? at h
  rw [hQ] at h
  change (if ad.spot.isSome = true then none else cs[ad.off]?) = _ at h
  split at h
  · cases h
  · exact h
section
variable {w0 w w' : World} {l : List (Nat × DS)} {F F' : List Nat} {i D : Nat} {s s' : DS} {m m' : WM} {q q' : WS}
theorem StrAt.offN {B : List Nat} {v : Value} {t : List ByteArray} (h : StrAt w B v t) {Q : Nat} {cs : Array Value} {ty : Nat} (hQ : w.heap[Q]? = some (.cells cs ty (0, 0))) (hn : Num cs) : StrAt w (B.filter fun k => k != Q) v t := by
  obtain ⟨A, c, rfl, hc, hr, hb⟩ := h
  refine ⟨A, c, rfl, hc, hr, fun h0 => ?_⟩
  obtain ⟨ad, e, hin, hlt⟩ := hb h0
  refine ⟨ad, e, ?_, hlt⟩
  rw [List.mem_filter]
  refine ⟨hin, ?_⟩
  rw [bne_iff_ne]
  intro e2
  obtain ⟨ad2, e3, hcell⟩ := hr.2.2 h0
  rw [e] at e3
  cases e3
  have h1 := hcell 0 h0
  exact hn.1 _ _ (cell_in h1 (by rw [add_block, e2]; exact hQ))
theorem TxV.offN {B : List Nat} {v : Value} {L : List (List ByteArray)} {base : Nat} (h : TxV base w B v L) {Q : Nat} {cs : Array Value} {ty : Nat} (hQ : w.heap[Q]? = some (.cells cs ty (0, 0))) (hn : Num cs) : TxV base w (B.filter fun k => k != Q) v L := by
  obtain ⟨A, c, vs, rfl, hc, hm, ht, ha⟩ := h
  refine ⟨A, c, vs, rfl, hc, hm, ⟨ht.len, fun j u t hu htt => (ht.each j u t hu htt).offN hQ hn, fun k hk => ht.lt k (List.mem_filter.1 hk).1⟩, fun h0 => ?_⟩
  obtain ⟨ad, e, hin, hcell⟩ := ha h0
  refine ⟨ad, e, ?_, hcell⟩
  rw [List.mem_filter]
  refine ⟨hin, ?_⟩
  rw [bne_iff_ne]
  intro e2
  have hv0 : 0 < vs.length := by rw [ht.len]; exact h0
  have hv : vs[0]? = some (vs[0]'hv0) := List.getElem?_eq_getElem hv0
  have hL : L[0]? = some L[0] := List.getElem?_eq_getElem h0
  obtain ⟨A3, c3, e4, -⟩ := ht.each 0 _ _ hv hL
  have h1 := hcell 0 _ hv
  rw [e4] at h1
  exact hn.2 _ _ _ _ (cell_in h1 (by rw [add_block, e2]; exact hQ))
/-- A block beside that holds numbers is stored to. -/
theorem Wl.setO (h : Wl w0 w l F i D s m q) {Q : Nat} {cs : Array Value} {ty : Nat} (hQ : w.heap[Q]? = some (.cells cs ty (0, 0))) (hn : Num cs) (hF : Q ∈ F) (hm : Q ∉ m.fp) (h0 : w0.heap.size ≤ Q) (hW : Only [Q] w w') :
    ∃ m2, Wl w0 w' l F i D s m2 q ∧ m2.O = m.O ∧ m2.fp = m.fp := by
  have hd : Dr w0 w' l F := h.dr.grow [Q] F hW (fun k hk => by rw [List.mem_singleton.1 hk]; exact ⟨hF, h0⟩) (fun k hk => .inl hk)
  have hfp : ∀ k ∈ m.fp, k ≠ Q := fun k hk e => hm (e ▸ hk)
  have htx : Txs w0.heap.size w (m.B.filter fun k => k != Q) m.vs q.txns :=
    ⟨h.tx.len, fun j u t hu ht => (h.tx.each j u t hu ht).offN hQ hn, fun k hk => h.tx.lt k (List.mem_filter.1 hk).1⟩
  have hoff : ∀ k ∈ m.B.filter (fun k => k != Q), k ∉ [Q] := fun k hk e => by
    have := (List.mem_filter.1 hk).2
    rw [bne_iff_ne] at this
    exact this (List.mem_singleton.1 e)
  refine ⟨{ m with B := m.B.filter fun k => k != Q }, ⟨fun c => ⟨hd, h.hi, (h.rw c).row.kept hW (fun k hk e => hfp k (m.fp_row c k hk) (List.mem_singleton.1 e)), (h.rw c).fp⟩, ?_, htx.kept hW hoff, h.fpO, fun k hk => h.fpB k (List.mem_filter.1 hk).1, fun c k hk => ⟨(h.d0 c k hk).1, fun e => (h.d0 c k hk).2 (List.mem_filter.1 e).1⟩, h.d1, fun k hk e => h.d2 k hk (List.mem_filter.1 e).1⟩, rfl, rfl⟩
  refine Ob.same h.ob (fun k hk => ?_)
  have hk2 : k ∈ obFp m.O (q.rows m.xv m.vs) := hk
  rw [own_fp q m] at hk2
  refine hW.block k ?_ (fun e => hfp k (List.mem_append_left _ hk2) (List.mem_singleton.1 e))
  exact (h.own_lt k hk2).2
end
/-- Transactions that were told, in blocks that stay. -/
def Tv (w0 w : World) (F : List Nat) (m : WM) (v : Value) (L : List (List ByteArray)) : Prop := ∃ B, TxV 0 w B v L ∧ ∀ k ∈ B, Far w0 F m k
def Bx (w0 w : World) (F : List Nat) (m : WM) (p : Nat × Obj) : Prop := w.heap[p.1]? = some p.2 ∧ p.1 ∈ F ∧ p.1 ∉ m.fp ∧ w0.heap.size ≤ p.1
/-- A log, its drive; transactions that were told; blocks. -/
structure Wf (w0 w : World) (D : Nat) (s : DS) (O : Nat) (q : WS) (ts : List (Value × List (List ByteArray))) (fz : List (Nat × Obj)) : Prop where
  ex : ∃ (l : List (Nat × DS)) (F : List Nat) (m : WM), Wl w0 w l F 0 D s m q ∧ m.O = O ∧ (∀ t ∈ ts, Tv w0 w F m t.1 t.2) ∧ ∀ p ∈ fz, Bx w0 w F m p
/-- Another log, of another drive. -/
def Wo (w0 w : World) (O : Nat) (q : WS) : Prop := ∃ (l : List (Nat × DS)) (F : List Nat) (i D : Nat) (s : DS) (m : WM), Wl w0 w l F i D s m q ∧ m.O = O
section
variable {w0 w w' : World} {l : List (Nat × DS)} {F F' : List Nat} {i D O : Nat} {s s' : DS} {m m' : WM} {q q' : WS} {ts ts' : List (Value × List (List ByteArray))} {fz fz' : List (Nat × Obj)} {v : Value} {L : List (List ByteArray)} {B : List Nat}
theorem Wf.base (h : Wf w0 w D s O q ts fz) : Below w0.heap.size w0 w := by
  obtain ⟨l, F, m, hw, -⟩ := h.ex
  exact hw.base
theorem Wf.less (h : Wf w0 w D s O q ts fz) (ht : ∀ t ∈ ts', t ∈ ts) (hz : ∀ p ∈ fz', p ∈ fz) : Wf w0 w D s O q ts' fz' := by
  obtain ⟨l, F, m, hw, ho, h1, h2⟩ := h.ex
  exact ⟨l, F, m, hw, ho, fun t e => h1 t (ht t e), fun p e => h2 p (hz p e)⟩
theorem Wf.box (h : Wf w0 w D s O q ts fz) (p : Nat × Obj) (hp : p ∈ fz) : w.heap[p.1]? = some p.2 := by
  obtain ⟨l, F, m, hw, ho, h1, h2⟩ := h.ex
  exact (h2 p hp).1
theorem Wf.tx (h : Wf w0 w D s O q ts fz) {v1 : Value} {L1 : List (List ByteArray)} (ht : (v1, L1) ∈ ts) : ∃ B, TxV 0 w B v1 L1 := by
  obtain ⟨l, F, m, hw, ho, h1, h2⟩ := h.ex
  obtain ⟨B, hB, -⟩ := h1 (v1, L1) ht
  exact ⟨B, hB⟩
theorem Wf.new (h : Wf w0 w D s O q ts fz) (ho : Only [] w w') : Wf w0 w' D s O q ts fz := by
  obtain ⟨l, F, m, hw, hO, h1, h2⟩ := h.ex
  refine ⟨l, F, m, hw.new ho, hO, fun t e => ?_, fun p e => ⟨(ho.block p.1 (block_lt (h2 p e).1) (by simp)).trans (h2 p e).1, (h2 p e).2⟩⟩
  obtain ⟨B, hB, hf⟩ := h1 t e
  exact ⟨B, hB.new ho, hf⟩
theorem Far.wide {k : Nat} (hk : Far w0 F m k) (hs : ∀ k ∈ F, k ∈ F') : Far w0 F' m k := hk.imp id fun e => ⟨hs _ e.1, e.2⟩
/-- What is made now lies beside. -/
theorem Wf.wide (h : Wf w0 w D s O q ts fz) (ho : Only [] w w') (G : List Nat) (hG : ∀ k ∈ G, w.heap.size ≤ k ∧ k < w'.heap.size) :
    ∃ l F m, Wl w0 w' l F 0 D s m q ∧ m.O = O ∧ (∀ t ∈ ts, Tv w0 w' F m t.1 t.2) ∧ (∀ p ∈ fz, Bx w0 w' F m p) ∧ (∀ k ∈ G, k ∈ F ∧ k ∉ m.fp) := by
  obtain ⟨l, F, m, hw, hO, h1, h2⟩ := h.ex
  refine ⟨l, G ++ F, m, hw.more ho G hG, hO, fun t e => ?_, fun p e => ⟨(ho.block p.1 (block_lt (h2 p e).1) (by simp)).trans (h2 p e).1, List.mem_append_right _ (h2 p e).2.1, (h2 p e).2.2⟩, fun k hk => ⟨List.mem_append_left _ hk, fun e => ?_⟩⟩
  · obtain ⟨B, hB, hf⟩ := h1 t e
    exact ⟨B, hB.new ho, fun k hk => (hf k hk).wide (fun k hk => List.mem_append_right _ hk)⟩
  · have := (hw.fp_lt k e).2
    have := (hG k hk).1
    omega
theorem Wf.told (h : Wf w0 w D s O q ts fz) (ho : Only [] w w') (ht : TxV w.heap.size w' B v L) : Wf w0 w' D s O q ((v, L) :: ts) fz := by
  obtain ⟨l, F, m, hw, hO, h1, h2, hB⟩ := h.wide ho B ht.lt
  refine ⟨l, F, m, hw, hO, fun t e => ?_, h2⟩
  rcases List.mem_cons.1 e with rfl | e
  · exact ⟨B, ht.zero, fun k hk => .inr (hB k hk)⟩
  · exact h1 t e
theorem Wf.boxed (h : Wf w0 w D s O q ts fz) (ho : Only [] w w') (b : Nat) (o : Obj) (hb : w'.heap[b]? = some o) (hl : w.heap.size ≤ b) : Wf w0 w' D s O q ts ((b, o) :: fz) := by
  have hbase := h.base.size
  obtain ⟨l, F, m, hw, hO, h1, h2, hB⟩ := h.wide ho [b] (fun k hk => by rw [List.mem_singleton.1 hk]; exact ⟨hl, block_lt hb⟩)
  refine ⟨l, F, m, hw, hO, h1, fun p e => ?_⟩
  rcases List.mem_cons.1 e with rfl | e
  · exact ⟨hb, (hB b (by simp)).1, (hB b (by simp)).2, by show w0.heap.size ≤ b; omega⟩
  · exact h2 p e
/-- Transactions made of others' texts. -/
theorem Wf.mixed (h : Wf w0 w D s O q ts fz) {v1 : Value} {L1 : List (List ByteArray)} (ht : (v1, L1) ∈ ts) : ∃ B1, TxV 0 w B1 v1 L1 ∧ ∀ (w' : World) (B2 : List Nat) (v2 : Value) (L2 : List (List ByteArray)), Only [] w w' → TxV 0 w' B2 v2 L2 → (∀ k ∈ B2, k < w0.heap.size ∨ k ∈ B1 ∨ w.heap.size ≤ k) → Wf w0 w' D s O q ((v2, L2) :: ts) fz := by
  obtain ⟨l, F, m, hw, hO, h1, h2⟩ := h.ex
  obtain ⟨B1, hB1, hf1⟩ := h1 (v1, L1) ht
  refine ⟨B1, hB1, fun w' B2 v2 L2 ho h3 h4 => ?_⟩
  have hlt : ∀ k ∈ B2.filter (fun k => decide (w.heap.size ≤ k)), w.heap.size ≤ k ∧ k < w'.heap.size := fun k hk => by
    obtain ⟨e1, e2⟩ := List.mem_filter.1 hk
    exact ⟨of_decide_eq_true e2, (h3.lt k e1).2⟩
  refine ⟨l, B2.filter (fun k => decide (w.heap.size ≤ k)) ++ F, m, hw.more ho _ hlt, hO, fun x e => ?_, fun p e => ⟨(ho.block p.1 (block_lt (h2 p e).1) (by simp)).trans (h2 p e).1, List.mem_append_right _ (h2 p e).2.1, (h2 p e).2.2⟩⟩
  rcases List.mem_cons.1 e with rfl | e
  · refine ⟨B2, h3, fun k hk => ?_⟩
    rcases h4 k hk with e1 | e1 | e1
    · exact .inl e1
    · exact (hf1 k e1).wide (fun k hk => List.mem_append_right _ hk)
    · refine .inr ⟨List.mem_append_left _ (List.mem_filter.2 ⟨hk, decide_eq_true e1⟩), fun e2 => ?_⟩
      have := (hw.fp_lt k e2).2
      omega
  · obtain ⟨B, hB, hf⟩ := h1 x e
    exact ⟨B, hB.new ho, fun k hk => (hf k hk).wide (fun k hk => List.mem_append_right _ hk)⟩
theorem Far.gone {k : Nat} (hw : Wl w0 w l F i D s m q) (hg : WWent w0 w w' l F F' i D s' m m' q') (hk : Far w0 F m k) : w'.heap[k]? = w.heap[k]? ∧ Far w0 F' m' k := hg.far hw.base hk
theorem Wf.gone (hw : Wl w0 w l F 0 D s m q) (ht : ∀ t ∈ ts, Tv w0 w F m t.1 t.2) (hz : ∀ p ∈ fz, Bx w0 w F m p) (hg : WWent w0 w w' l F F' 0 D s' m m' q') : Wf w0 w' D s' m.O q' ts fz := by
  refine ⟨_, F', m', hg.wl, hg.obj.1, fun t e => ?_, fun p e => ?_⟩
  · obtain ⟨B, hB, hf⟩ := ht t e
    exact ⟨B, hB.same (fun k hk => (Far.gone hw hg (hf k hk)).1), fun k hk => (Far.gone hw hg (hf k hk)).2⟩
  · obtain ⟨b1, b2, b3, b4⟩ := hz p e
    obtain ⟨c1, c2⟩ := Far.gone hw hg (k := p.1) (.inr ⟨b2, b3⟩)
    rcases c2 with c2 | c2
    · omega
    · exact ⟨c1.trans b1, c2.1, c2.2, b4⟩
theorem Wf.ran (hw : Wl w0 w l F 0 D s m q) (ht : ∀ t ∈ ts, Tv w0 w F m t.1 t.2) (hz : ∀ p ∈ fz, Bx w0 w F m p) (hd : Dr w0 w' (l.set 0 (D, s')) F) (hs : Same F w w') : Wf w0 w' D s' m.O q ts fz := by
  refine ⟨_, F, m, hw.drive hd hs, rfl, fun t e => ?_, fun p e => ⟨(hs p.1 (hz p e).2.1).trans (hz p e).1, (hz p e).2⟩⟩
  obtain ⟨B, hB, hf⟩ := ht t e
  refine ⟨B, hB.same (fun k hk => ?_), hf⟩
  rcases hf k hk with e1 | e1
  · exact (hd.below.block k e1).trans (hw.base.block k e1).symm
  · exact hs k e1.1
/-! Its calls -/
theorem Wf.commit (h : Wf w0 w D s O q ts fz) (A : Option Addr) (c : Nat) (x : List ByteArray) (BX : List Nat) (hA : ∀ W, Below w0.heap.size w0 W → StrAt W BX (.slice A x.length c) x) (hB : ∀ k ∈ BX, k < w0.heap.size) (hx : Pure.fine x) (hm : s.opn.length < 900000) (ht : q.txns.length ≤ 100000) :
    Calls Try.prog 20 #[.pointer (some ⟨O, 0, none⟩), .slice A x.length c] w fun e w' => e = .returned (.int .i64 (commitW s q x).e) ∧ Wf w0 w' D (commitW s q x).s O (commitW s q x).q ts fz := by
  obtain ⟨l, F, m, hw, rfl, h1, h2⟩ := h.ex
  refine (Wal_Commit hw A c x BX (hA _ hw.base) (fun k hk => .inl (hB k hk)) hx hm ht).mono ?_
  rintro e w' ⟨rfl, F', m', hg⟩
  exact ⟨rfl, Wf.gone hw h1 h2 hg⟩
theorem Wf.save (h : Wf w0 w D s O q ts fz) (A : Option Addr) (c : Nat) (x : List ByteArray) (BX : List Nat) (hA : ∀ W, Below w0.heap.size w0 W → StrAt W BX (.slice A x.length c) x) (hB : ∀ k ∈ BX, k < w0.heap.size) (hx : Pure.fine x) (hm : s.opn.length < 900000) :
    Calls Try.prog 22 #[.pointer (some ⟨O, 0, none⟩), .slice A x.length c] w fun e w' => e = .returned (.int .i64 (saveW s q x).e) ∧ Wf w0 w' D (saveW s q x).s O (saveW s q x).q ts fz := by
  obtain ⟨l, F, m, hw, rfl, h1, h2⟩ := h.ex
  refine (Wal_Save hw A c x BX (hA _ hw.base) (fun k hk => .inl (hB k hk)) hx hm).mono ?_
  rintro e w' ⟨rfl, F', m', hg⟩
  exact ⟨rfl, Wf.gone hw h1 h2 hg⟩
theorem Wf.txns (h : Wf w0 w D s O q ts fz) (hq : q.txns.length ≤ 4096) (hq2 : ∀ t ∈ q.txns, t.length ≤ 4096) :
    Calls Try.prog 14 #[.pointer (some ⟨O, 0, none⟩)] w fun e w' => ∃ A n c, e = .returned (.slice A n c) ∧ Wf w0 w' D s O q ((.slice A n c, q.txns) :: ts) fz ∧ Only [] w w' := by
  obtain ⟨l, F, m, hw, rfl, h1, h2⟩ := id h.ex
  refine (Wal_Txns hw hq hq2).mono ?_
  rintro e w' ⟨v, B, rfl, hB, ho⟩
  obtain ⟨A, c, rfl, -⟩ := hB.C
  exact ⟨A, _, c, rfl, h.told ho hB, ho⟩
theorem Wf.room (h : Wf w0 w D s O q ts fz) : Calls Try.prog 17 #[.pointer (some ⟨O, 0, none⟩)] w fun e w' => e = .returned (.int .i64 (((q.h q.log).mn - (q.h q.log).en : Nat) : Int)) ∧ Only [] w w' := by
  obtain ⟨l, F, m, hw, rfl, h1, h2⟩ := h.ex
  exact Wal_Room hw
theorem Wo.new (h : Wo w0 w O q) (ho : Only [] w w') : Wo w0 w' O q := by
  obtain ⟨l, F, i, D, s, m, hw, hO⟩ := h
  exact ⟨l, F, i, D, s, m, hw.new ho, hO⟩
theorem Wo.room (h : Wo w0 w O q) : Calls Try.prog 17 #[.pointer (some ⟨O, 0, none⟩)] w fun e w' => e = .returned (.int .i64 (((q.h q.log).mn - (q.h q.log).en : Nat) : Int)) ∧ Only [] w w' := by
  obtain ⟨l, F, i, D, s, m, hw, rfl⟩ := h
  exact Wal_Room hw
theorem Wo.txns (h : Wo w0 w O q) (hq : q.txns.length ≤ 4096) (hq2 : ∀ t ∈ q.txns, t.length ≤ 4096) :
    Calls Try.prog 14 #[.pointer (some ⟨O, 0, none⟩)] w fun e w' => ∃ A n c, e = .returned (.slice A n c) ∧ (∃ B, TxV 0 w' B (.slice A n c) q.txns) ∧ Only [] w w' := by
  obtain ⟨l, F, i, D, s, m, hw, rfl⟩ := h
  refine (Wal_Txns hw hq hq2).mono ?_
  rintro e w' ⟨v, B, rfl, hB, ho⟩
  obtain ⟨A, c, rfl, -⟩ := hB.C
  exact ⟨A, _, c, rfl, ⟨B, hB.zero⟩, ho⟩
theorem Wf.fuse (h : Wf w0 w D s O q ts fz) (n : Int) (hn : n < 9223372036854775808) : Calls Try.prog 24 #[.pointer (some ⟨D, 0, none⟩), .int .i64 n] w fun e w' => e = .returned (.tuple #[]) ∧ Wf w0 w' D (fuseS s n) O q ts fz := by
  obtain ⟨l, F, m, hw, rfl, h1, h2⟩ := h.ex
  refine (hw.dr.fuse hw.hi n hn).mono ?_
  rintro e w' ⟨rfl, hd, hs⟩
  exact ⟨rfl, Wf.ran hw h1 h2 hd hs⟩
theorem Wf.crash (h : Wf w0 w D s O q ts fz) (hm : s.opn.length < 900000) (X : S30) (hk : 0 ≤ X.f0 ∧ X.f0 < 18446744073709551616) : Calls Try.prog 25 #[.pointer (some ⟨D, 0, none⟩), .agg #[.int .u64 X.f0, .int .i64 X.f1, .int .i64 X.f2]] w fun e w' => e = .returned (.tuple #[]) ∧ Wf w0 w' D (crashS s X.f0 X.f1 X.f2) O q ts fz := by
  obtain ⟨l, F, m, hw, rfl, h1, h2⟩ := h.ex
  refine (hw.dr.crash hw.hi (by omega) X.f0 X.f1 X.f2 hk).mono ?_
  rintro e w' ⟨rfl, hd, hs⟩
  exact ⟨rfl, Wf.ran hw h1 h2 hd hs⟩
theorem Pending_calls {base : Nat} {w : World} {d : DV} {s : DS} (h : Drv base w d s) :
    Calls Try.prog 27 #[ptr d.D] w fun e w' => e = .returned (.int .i64 s.opn.length) ∧ w' = w := by
  obtain ⟨A, c, hv⟩ := own_cases h.opn
  obtain ⟨-, -, h0, -, -, -, f0, -⟩ := h.cells
  have HD := hid h
  rw [hv] at h0
  unfold ptr
  clear h hv
  go_enter Try.func27, Try.ntmps27
  go_wp2_with (go_at_call 52; refine (none_calls HD.out).mono ?_; rintro e w' ⟨rfl, rfl⟩)
  go_ret
  exact ⟨rfl, rfl⟩
theorem Wf.pending (h : Wf w0 w D s O q ts fz) : Calls Try.prog 27 #[.pointer (some ⟨D, 0, none⟩)] w fun e w' => e = .returned (.int .i64 s.opn.length) ∧ w' = w := by
  obtain ⟨l, F, m, hw, rfl, h1, h2⟩ := h.ex
  obtain ⟨d, e, hd⟩ := hw.dr.at hw.hi
  rw [← e]; exact Pending_calls hd
theorem Wf.opened (h : Wf w0 w D s O q ts fz) (hq : openW s = some q') (hn2 : 2 ≤ s.now.length) (hn3 : s.now.length ≤ 4096) :
    Calls Try.prog 11 #[.pointer (some ⟨D, 0, none⟩)] w fun e w' => ∃ O', e = .returned (.tuple #[.pointer (some ⟨O', 0, none⟩), .int .i64 0]) ∧ Wf w0 w' D s O' q' ts fz := by
  obtain ⟨l, F, m, hw, rfl, h1, h2⟩ := h.ex
  have hop := Wal_Open hw.dr hw.hi hn2 hn3
  rw [hq] at hop
  refine hop.mono ?_
  rintro e w' ⟨ho, m2, F2, rfl, hw2, hsub, -, hfp⟩
  have hfar : ∀ k, Far w0 F m k → k < w.heap.size → Far w0 F2 m2 k := fun k hk hlt => hk.imp id fun e => ⟨hsub k e.1, fun e2 => by have := hfp k e2; omega⟩
  refine ⟨m2.O, rfl, l, F2, m2, hw2, rfl, fun t e => ?_, fun p e => ?_⟩
  · obtain ⟨B, hB, hf⟩ := h1 t e
    exact ⟨B, hB.new ho, fun k hk => hfar k (hf k hk) (hB.lt k hk).2⟩
  · obtain ⟨b1, b2, b3, b4⟩ := h2 p e
    have hlt := block_lt b1
    exact ⟨(ho.block p.1 hlt (by simp)).trans b1, hsub _ b2, fun e2 => by have := hfp _ e2; omega, b4⟩
/-- The drive is copied, and the copy's log is opened. -/
theorem Wf.copy (h : Wf w0 w D s O q ts fz) (hm : s.opn.length < 900000) (hq : openW s = some q') (hn2 : 2 ≤ s.now.length) (hn3 : s.now.length ≤ 4096) :
    Calls Try.prog 26 #[.pointer (some ⟨D, 0, none⟩)] w fun e w' => ∃ D', e = .returned (.pointer (some ⟨D', 0, none⟩)) ∧ Wf w0 w' D s O q ts fz ∧
      Calls Try.prog 11 #[.pointer (some ⟨D', 0, none⟩)] w' fun e w2 => ∃ O', e = .returned (.tuple #[.pointer (some ⟨O', 0, none⟩), .int .i64 0]) ∧ Wf w0 w2 D s O q ts fz ∧ Wo w0 w2 O' q' := by
  obtain ⟨l, F, m, hw, rfl, h1, h2⟩ := h.ex
  refine (hw.dr.copy hw.hi (by omega)).mono ?_
  rintro e w' ⟨v, rfl, D', rfl, hd, hs⟩
  have hi0 : (l ++ [(D', s)])[0]? = some (D, s) := by
    have := hw.hi
    have hl0 : 0 < l.length := (List.getElem?_eq_some_iff.1 this).1
    rw [List.getElem?_append_left hl0]; exact this
  have hw' : Wl w0 w' (l ++ [(D', s)]) F 0 D s m q := hw.wide hd hi0 hs (fun k hk => hk)
  have ht' : ∀ t ∈ ts, Tv w0 w' F m t.1 t.2 := fun t e => by
    obtain ⟨B, hB, hf⟩ := h1 t e
    refine ⟨B, hB.same (fun k hk => ?_), hf⟩
    rcases hf k hk with e1 | e1
    · exact (hd.below.block k e1).trans (hw.base.block k e1).symm
    · exact hs k e1.1
  have hz' : ∀ p ∈ fz, Bx w0 w' F m p := fun p e => ⟨(hs p.1 (h2 p e).2.1).trans (h2 p e).1, (h2 p e).2⟩
  refine ⟨D', rfl, ⟨_, F, m, hw', rfl, ht', hz'⟩, ?_⟩
  have hil : (l ++ [(D', s)])[l.length]? = some (D', s) := by simp
  have hop := Wal_Open hd hil hn2 hn3
  rw [hq] at hop
  refine hop.mono ?_
  rintro e w2 ⟨ho, m2, F2, rfl, hw2, hsub, -, -⟩
  refine ⟨m2.O, rfl, ⟨_, F2, m, hw'.wide hw2.dr hi0 (fun k hk => ho.block k (hw'.dr.lt k hk) (by simp)) hsub, rfl, fun t e => ?_, fun p e => ?_⟩, _, F2, l.length, D', s, m2, hw2, rfl⟩
  · obtain ⟨B, hB, hf⟩ := ht' t e
    exact ⟨B, hB.new ho, fun k hk => (hf k hk).wide hsub⟩
  · obtain ⟨b1, b2, b3, b4⟩ := hz' p e
    exact ⟨(ho.block p.1 (block_lt b1) (by simp)).trans b1, hsub _ b2, b3, b4⟩
/-- The block of a failure is stored to. -/
theorem Wf.setC {b : Nat} {X Y : S30} (h : Wf w0 w D s O q ts ((b, boxC X) :: fz)) (hW : Only [b] w w') (hb : w'.heap[b]? = some (boxC Y)) (hne : ∀ p ∈ fz, p.1 ≠ b) : Wf w0 w' D s O q ts ((b, boxC Y) :: fz) := by
  obtain ⟨l, F, m, hw, rfl, h1, h2⟩ := h.ex
  obtain ⟨b1, b2, b3, b4⟩ := h2 (b, boxC X) (by simp)
  obtain ⟨m2, hw2, e1, e2⟩ := hw.setO b1 (num_C X) b2 b3 b4 hW
  refine ⟨l, F, m2, hw2, e1, fun t e => ?_, fun p e => ?_⟩
  · obtain ⟨B, hB, hf⟩ := h1 t e
    refine ⟨B.filter fun k => k != b, (hB.offN b1 (num_C X)).kept hW (fun k hk e => ?_), fun k hk => ?_⟩
    · have := (List.mem_filter.1 hk).2
      rw [bne_iff_ne] at this
      exact this (List.mem_singleton.1 e)
    · have := hf k (List.mem_filter.1 hk).1
      unfold Far at this ⊢
      rw [e2]; exact this
  · rcases List.mem_cons.1 e with rfl | e
    · exact ⟨hb, b2, by rw [e2]; exact b3, b4⟩
    · obtain ⟨c1, c2, c3, c4⟩ := h2 p (by simp [e])
      exact ⟨(hW.block p.1 (block_lt c1) (by simpa using hne p e)).trans c1, c2, by rw [e2]; exact c3, c4⟩
end
theorem Wf.start {w0 w : World} {D : Nat} {s : DS} {m : WM} {q : WS} {F : List Nat} (h : Wl w0 w [(D, s)] F 0 D s m q) : Wf w0 w D s m.O q [] [] :=
  ⟨_, F, m, h, rfl, fun t e => (by cases e), fun p e => (by cases e)⟩
end Go.Proofs.Ytnhgakmnkpjpdaa

/- Chapter 06: 'append(append([][]string{}, was...), x.L)', in whatever order it is done. -/
set_option maxRecDepth 100000
set_option linter.unusedVariables false
set_option linter.unusedSimpArgs false
namespace Go.Proofs.Ytnhgakmnkpjpdaa
open Go Go.RowKit Go.Proofs.Ytnhgakmnkpjpdaa.Q Go.Proofs.YtnhgakmnkpjpdaaW.PrintWords Go.Proofs.YtnhgakmnkpjpdaaW.PrintLast Go.Proofs.YtnhgakmnkpjpdaaW.PrintMore
attribute [local go_sem] Oper.semAt_some max2_int min2_int max_two min_two max_three min_three max_four min_four
theorem inf22 : (Try.prog.info? 22).map (fun i => (i.zero, i.size, i.bytes)) = some (some (.slice none 0 0), 1, 24) := by kernel_rfl
/-- To an empty slice without room: nothing is appended, or something, into a block that is new. -/
theorem run_copyT {P : Program} (w : World) (t ty e : TypeId) (i : TypeInfo) (z : Value) (bytes : Nat) (ht : P.underlying t = some (.slice e)) (hi : P.info? e = some i) (hz : i.zero = some z)
    (hsize : i.size = 1) (hby : i.bytes = bytes) (hzs : z.cells.size = 1)
    (base b : Nat) (hb : base ≤ b) (hbb : w.heap[b]? = some (.cells #[] e (0, 0))) (A : Option Addr) (c n : Nat) (xs : List Value) (hl : xs.length = n) (hrd : 0 < n → ∃ ad : Addr, A = some ad ∧ ∀ j u, xs[j]? = some u → w.cell? (ad.add j) = some u) (h1 : ∀ u ∈ xs, u.oneCell' = true)
    (h63 : n ≤ maxLen) (hbytes : n * bytes ≤ 140737488355328) (hbase : base ≤ w.heap.size) :
    ∃ v' w', (Builtin.append_ #[t, t] ty #[.slice (some ⟨b, 0, none⟩) 0 0, .slice A n c]).run P w = .ok v' w' ∧ w'.ownsRow base e 1 v' n xs ∧ Only [] w w' := by
  subst hby
  have own0 : w.ownsRow base e 1 (.slice (some ⟨b, 0, none⟩) 0 0) 0 [] := ⟨by simp, .inr ⟨b, 0, #[], rfl, hb, hbb, Nat.le_refl _, by unfold maxLen; omega, by simp, by simp⟩⟩
  by_cases hn : n = 0
  · subst hn
    have hx : xs = [] := List.eq_nil_of_length_eq_zero hl
    subst hx
    refine ⟨.slice (some ⟨b, 0, none⟩) 0 0, w, ?_, own0, Only.refl _ _⟩
    cases A
    · simp [Builtin.append_, run_underlying ht, sizeOf, typeInfo, hi, Builtin.lenOf, Builtin.firstCells, loadCells, loadCellsFrom, storeCells]
    · simp [Builtin.append_, run_underlying ht, sizeOf, typeInfo, hi, Builtin.lenOf, Builtin.firstCells, loadCells, loadCellsFrom, storeCells]
  · obtain ⟨ad, rfl, holds⟩ := hrd (by omega)
    have hsmall : n ≤ 9223372036854775807 := by simp only [maxLen] at h63; omega
    have hr := run_append_grow (P := P) w t ty e i z ht hi hz ⟨b, 0, none⟩ 0 0 [] (by simp) (by simp) ad n c xs (by rw [hsize, Nat.mul_one]; exact hl) holds (by omega) (by omega) (growslice_fits (by omega) (by rw [Nat.zero_add]; exact hbytes))
    simp only [Nat.zero_add] at hr
    refine ⟨_, _, hr, ?_, ?_⟩
    · have hge := grownCap_ge w n 0 e
      have hcm' : grownCap w n 0 e ≤ maxLen := grownCap_le_maxLen w n 0 e h63
      refine ⟨by rw [Nat.mul_one]; exact hl, .inr ⟨w.heap.size, _, _, rfl, hbase, heap_alloc_new w.drew _, hge, hcm', ?_, ?_⟩⟩
      · simp only [Array.size_append, List.size_toArray, List.length_nil, size_zeroCells, hzs, hl, Nat.zero_add, Nat.mul_one]
        omega
      · simp only [Array.toList_append, List.append_assoc, List.nil_append]
        rw [Nat.mul_one, ← hl]
        exact List.take_left
    · exact (Only.drew [] w).trans (Only.alloc [] _ _) (fun _ h _ => h)
/-- What its operations have left. -/
structure NJ (w : World) (V1 : Value) (n1 : Nat) (vs1 : List Value) (XB : Nat) (Lx : Value) (us : Nat → Option Value) (W : World) : Prop where
  only : Only [] w W
  f0 : ∀ v, us 0 = some v → ∃ b, v = .slice (some ⟨b, 0, none⟩) 0 0 ∧ w.heap.size ≤ b ∧ (us 2 = none → W.heap[b]? = some (.cells #[] 22 (0, 0)))
  f1 : ∀ v, us 1 = some v → v = V1
  f2 : ∀ v, us 2 = some v → us 6 = none → W.ownsRow w.heap.size 22 1 v n1 vs1
  f3 : ∀ v, us 3 = some v → v = .pointer (some ⟨XB, 1, none⟩)
  f4 : ∀ v, us 4 = some v → v = Lx
  f5 : ∀ v, us 5 = some v → us 6 = none → ∃ b, v = .slice (some ⟨b, 0, none⟩) 1 1 ∧ w.heap.size ≤ b ∧ W.heap[b]? = some (.cells #[Lx] 22 (0, 0))
  f6 : ∀ v, us 6 = some v → W.ownsRow w.heap.size 22 1 v (n1 + 1) (vs1 ++ [Lx])
  f7 : ∀ v, us 7 = some v → us 6 = some v
section
variable {w W W' : World} {V1 : Value} {n1 : Nat} {vs1 : List Value} {XB : Nat} {Lx : Value} {us : Nat → Option Value}
theorem NJ.start : NJ w V1 n1 vs1 XB Lx (fun _ => none) w.drew :=
  ⟨Only.drew [] w, fun v h => (by cases h), fun v h => (by cases h), fun v h => (by cases h), fun v h => (by cases h), fun v h => (by cases h), fun v h => (by cases h), fun v h => (by cases h), fun v h => (by cases h)⟩
theorem upd_inv {us : Nat → Option Value} {i x : Nat} {v u : Value} (h : upd us i v x = some u) : (x = i ∧ u = v) ∨ (x ≠ i ∧ us x = some u) := by
  by_cases e : x = i
  · subst e; rw [upd_same] at h; exact .inl ⟨rfl, (Option.some.inj h).symm⟩
  · rw [upd_ne _ _ e] at h; exact .inr ⟨e, h⟩
theorem upd_none {us : Nat → Option Value} {i x : Nat} {v : Value} (h : upd us i v x = none) : x ≠ i ∧ us x = none := by
  by_cases e : x = i
  · subst e; rw [upd_same] at h; cases h
  · rw [upd_ne _ _ e] at h; exact ⟨e, h⟩
theorem NJ.step (h : NJ w V1 n1 vs1 XB Lx us W) {i : Nat} {v : Value} (hu : us i = none) (ho : Only [] W W') (h6 : i ≠ 6)
    (h0 : i = 0 → ∃ b, v = .slice (some ⟨b, 0, none⟩) 0 0 ∧ w.heap.size ≤ b ∧ W'.heap[b]? = some (.cells #[] 22 (0, 0))) (h1 : i = 1 → v = V1) (h2 : i = 2 → W'.ownsRow w.heap.size 22 1 v n1 vs1)
    (h3 : i = 3 → v = .pointer (some ⟨XB, 1, none⟩)) (h4 : i = 4 → v = Lx) (h5 : i = 5 → ∃ b, v = .slice (some ⟨b, 0, none⟩) 1 1 ∧ w.heap.size ≤ b ∧ W'.heap[b]? = some (.cells #[Lx] 22 (0, 0))) (h7 : i = 7 → us 6 = some v) :
    NJ w V1 n1 vs1 XB Lx (upd us i v) W' := by
  refine ⟨h.only.trans ho (fun _ h _ => h), fun u hx => ?_, fun u hx => ?_, fun u hx hn => ?_, fun u hx => ?_, fun u hx => ?_, fun u hx hn => ?_, fun u hx => ?_, fun u hx => ?_⟩
  · rcases upd_inv hx with ⟨e, rfl⟩ | ⟨-, hx⟩
    · obtain ⟨b, e1, e2, e3⟩ := h0 e.symm
      exact ⟨b, e1, e2, fun _ => e3⟩
    · obtain ⟨b, e1, e2, e3⟩ := h.f0 u hx
      refine ⟨b, e1, e2, fun hn => ?_⟩
      have := e3 (upd_none hn).2
      exact (ho.block b (block_lt this) (by simp)).trans this
  · rcases upd_inv hx with ⟨e, rfl⟩ | ⟨-, hx⟩
    · exact h1 e.symm
    · exact h.f1 u hx
  · rcases upd_inv hx with ⟨e, rfl⟩ | ⟨-, hx⟩
    · exact h2 e.symm
    · exact ownsRow_kept (h.f2 u hx (upd_none hn).2) ho (by simp)
  · rcases upd_inv hx with ⟨e, rfl⟩ | ⟨-, hx⟩
    · exact h3 e.symm
    · exact h.f3 u hx
  · rcases upd_inv hx with ⟨e, rfl⟩ | ⟨-, hx⟩
    · exact h4 e.symm
    · exact h.f4 u hx
  · rcases upd_inv hx with ⟨e, rfl⟩ | ⟨-, hx⟩
    · exact h5 e.symm
    · obtain ⟨b, e1, e2, e3⟩ := h.f5 u hx (upd_none hn).2
      exact ⟨b, e1, e2, (ho.block b (block_lt e3) (by simp)).trans e3⟩
  · rcases upd_inv hx with ⟨e, rfl⟩ | ⟨-, hx⟩
    · exact absurd e.symm h6
    · exact ownsRow_kept (h.f6 u hx) ho (by simp)
  · rcases upd_inv hx with ⟨e, rfl⟩ | ⟨-, hx⟩
    · rw [upd_ne _ _ (by omega)]; exact h7 e.symm
    · rw [upd_ne _ _ (Ne.symm h6)]; exact h.f7 u hx
theorem NJ.six (h : NJ w V1 n1 vs1 XB Lx us W) {v v2 : Value} (hu : us 6 = none) (h2 : us 2 = some v2) (ho : Only [] w W') (ho2 : W'.ownsRow w.heap.size 22 1 v (n1 + 1) (vs1 ++ [Lx])) : NJ w V1 n1 vs1 XB Lx (upd us 6 v) W' := by
  have h7 : us 7 = none := by
    cases e : us 7 with
    | none => rfl
    | some u => have := h.f7 u e; rw [hu] at this; cases this
  refine ⟨ho, fun u hx => ?_, fun u hx => ?_, fun u hx hn => ?_, fun u hx => ?_, fun u hx => ?_, fun u hx hn => ?_, fun u hx => ?_, fun u hx => ?_⟩
  · rcases upd_inv hx with ⟨e, rfl⟩ | ⟨-, hx⟩
    · cases e
    · obtain ⟨b, e1, e2, -⟩ := h.f0 u hx
      refine ⟨b, e1, e2, fun hn => ?_⟩
      have := (upd_none hn).2
      rw [h2] at this
      cases this
  · rcases upd_inv hx with ⟨e, rfl⟩ | ⟨-, hx⟩
    · cases e
    · exact h.f1 u hx
  · exact absurd rfl (upd_none hn).1
  · rcases upd_inv hx with ⟨e, rfl⟩ | ⟨-, hx⟩
    · cases e
    · exact h.f3 u hx
  · rcases upd_inv hx with ⟨e, rfl⟩ | ⟨-, hx⟩
    · cases e
    · exact h.f4 u hx
  · exact absurd rfl (upd_none hn).1
  · rcases upd_inv hx with ⟨e, rfl⟩ | ⟨ne, hx⟩
    · exact ho2
    · exact absurd rfl ne
  · rcases upd_inv hx with ⟨e, rfl⟩ | ⟨-, hx⟩
    · cases e
    · rw [h7] at hx; cases hx
end
section
variable {ops : Array Oper} {Q : Exit → Act → World → Prop} {a0 : Act} {w : World} {V1 : Value} {n1 : Nat} {vs1 : List Value} {XB : Nat} {Lx : Value}
theorem nj_build (o : Oper) (ho : o.op = .buildSlice 44 0 #[]) : FlowStep Try.prog ops Q a0 (NJ w V1 n1 vs1 XB Lx) 0 o := by
  intro us a W hJ hu hd hat
  obtain ⟨i, hi, -⟩ := info_three inf22
  refine flow_ok (.slice (some ⟨W.heap.size, 0, none⟩) 0 0) (W.alloc (.cells #[] 22)) ?_ ⟨_, rfl, hJ.step hu (Only.alloc [] W _) (by decide) (fun _ => ⟨_, rfl, hJ.only.size, heap_alloc_new W _⟩) (fun e => by cases e) (fun e => by cases e) (fun e => by cases e) (fun e => by cases e) (fun e => by cases e) (fun e => by cases e)⟩
  unfold execOp
  simp [ho, Instr.buildSlice, run_underlying Try.underlying44, sizeOf, typeInfo, hi, Instr.fill, newRow, newObj, Result.andThen, Sem.run_bind, Array.range_zero']
  try rfl
theorem nj_move (o : Oper) (ho : o.op = .move (.tmp 14)) (hn : ops.all (fun o => o.dst != some 14) = true) (h0 : a0.eval (.tmp 14) = V1) : FlowStep Try.prog ops Q a0 (NJ w V1 n1 vs1 XB Lx) 1 o := by
  intro us a W hJ hu hd hat
  refine flow_ok V1 W ?_ ⟨_, rfl, hJ.step hu (Only.refl _ _) (by decide) (fun e => by cases e) (fun _ => rfl) (fun e => by cases e) (fun e => by cases e) (fun e => by cases e) (fun e => by cases e) (fun e => by cases e)⟩
  unfold execOp
  simp only [ho, hat.keep hn, h0, Sem.run_pure]
theorem nj_copy (o o1 o2 : Oper) (x y : Nat) (ho : o.op = .call { callee := .builtin .append, args := #[.tmp x, .tmp y], argTypes := #[44, 44] }) (h1 : ops[0]? = some o1) (h1d : o1.dst = some x) (h2 : ops[1]? = some o2) (h2d : o2.dst = some y)
    (e1 : ∃ e ∈ o.after, Region.binds .any e = true ∧ e.on = 0) (e2 : ∃ e ∈ o.after, Region.binds .any e = true ∧ e.on = 1) (A : Option Addr) (c : Nat) (hV : V1 = .slice A n1 c) (hl : vs1.length = n1) (hone : ∀ u ∈ vs1, u.oneCell' = true) (hn : n1 ≤ 4096)
    (hrd : 0 < n1 → ∃ ad : Addr, A = some ad ∧ ∀ W, Only [] w W → ∀ j u, vs1[j]? = some u → W.cell? (ad.add j) = some u) : FlowStep Try.prog ops Q a0 (NJ w V1 n1 vs1 XB Lx) 2 o := by
  intro us a W hJ hu hd hat
  obtain ⟨ed, em, eb, ee⟩ := e1
  obtain ⟨fd, fm, fb, fe⟩ := e2
  have g1 := hd ed em eb
  have g2 := hd fd fm fb
  rw [ee] at g1
  rw [fe] at g2
  obtain ⟨v1, g1⟩ := Option.isSome_iff_exists.1 g1
  obtain ⟨v2, g2⟩ := Option.isSome_iff_exists.1 g2
  have k1 := hat.val h1 h1d g1
  have k2 := hat.val h2 h2d g2
  obtain ⟨b, rfl, hb, hbb⟩ := hJ.f0 _ g1
  have hv := hJ.f1 _ g2
  rw [hv, hV] at k2
  obtain ⟨i, hi, hz, hs, hby⟩ := info_three inf22
  obtain ⟨v', w', hr, hown, hon⟩ := run_copyT W 44 o.type 22 i _ 24 Try.underlying44 hi hz hs hby (by rfl) w.heap.size b hb (hbb hu) A c n1 vs1 hl (fun h0 => by
    obtain ⟨ad, e, hc⟩ := hrd h0
    exact ⟨ad, e, hc W hJ.only⟩) hone (by unfold maxLen; omega) (by omega) hJ.only.size
  refine flow_ok v' w' ?_ ⟨_, rfl, hJ.step hu hon (by decide) (fun e => by cases e) (fun e => by cases e) (fun _ => hown) (fun e => by cases e) (fun e => by cases e) (fun e => by cases e) (fun e => by cases e)⟩
  unfold execOp
  simp only [ho, resolve, invoke, builtin, Sem.run_bind, Sem.run_pure, Result.andThen_ok, List.map_toArray, List.map_cons, List.map_nil, k1, k2, hr]
theorem nj_field (o : Oper) (ho : o.op = .fieldAddr 32 (.tmp 13) 1) (hn : ops.all (fun o => o.dst != some 13) = true) (h0 : a0.eval (.tmp 13) = .pointer (some ⟨XB, 0, none⟩)) : FlowStep Try.prog ops Q a0 (NJ w V1 n1 vs1 XB Lx) 3 o := by
  intro us a W hJ hu hd hat
  have k1 := hat.keep hn
  rw [h0] at k1
  have hr : (Instr.fieldAt 32 (.pointer (some ⟨XB, 0, none⟩)) 1).run Try.prog W = .ok (.pointer (some ⟨XB, 1, none⟩)) W := by
    simp [Instr.fieldAt, go_sem, Try.underlying32, ptr, Instr.sureAddr, Sem.run_bind]
  refine flow_ok (.pointer (some ⟨XB, 1, none⟩)) W ?_ ⟨_, rfl, hJ.step hu (Only.refl _ _) (by decide) (fun e => by cases e) (fun e => by cases e) (fun e => by cases e) (fun _ => rfl) (fun e => by cases e) (fun e => by cases e) (fun e => by cases e)⟩
  unfold execOp
  simp only [ho, k1, Sem.run_bind, hr, Result.andThen_ok, Sem.run_pure]
theorem nj_load (o o1 : Oper) (x : Nat) (ho : o.op = .load 22 (.tmp x)) (h1 : ops[3]? = some o1) (h1d : o1.dst = some x) (e1 : ∃ e ∈ o.after, Region.binds .any e = true ∧ e.on = 3) (hc : ∀ W, Only [] w W → W.cell? ⟨XB, 1, none⟩ = some Lx) : FlowStep Try.prog ops Q a0 (NJ w V1 n1 vs1 XB Lx) 4 o := by
  intro us a W hJ hu hd hat
  obtain ⟨ed, em, eb, ee⟩ := e1
  have g1 := hd ed em eb
  rw [ee] at g1
  obtain ⟨v1, g1⟩ := Option.isSome_iff_exists.1 g1
  have k1 := hat.val h1 h1d g1
  rw [hJ.f3 _ g1] at k1
  have hcell := hc W hJ.only
  refine flow_ok Lx W ?_ ⟨_, rfl, hJ.step hu (Only.refl _ _) (by decide) (fun e => by cases e) (fun e => by cases e) (fun e => by cases e) (fun e => by cases e) (fun _ => rfl) (fun e => by cases e) (fun e => by cases e)⟩
  have hagg : (isAgg 22).run Try.prog W = .ok false W := by
    unfold isAgg
    rw [Sem.run_bind, run_underlying Try.underlying22 W]
    rfl
  unfold execOp
  simp [ho, k1, Instr.loadAt, Instr.sureAddr, loadVar, hagg, Go.load, Sem.run, hcell, Result.andThen, Sem.run_bind]
theorem nj_one (o o1 : Oper) (x : Nat) (ho : o.op = .buildSlice 44 1 #[(0, .tmp x)]) (h1 : ops[4]? = some o1) (h1d : o1.dst = some x) (e1 : ∃ e ∈ o.after, Region.binds .any e = true ∧ e.on = 4) (Ax : Option Addr) (nx cx : Nat) (hL : Lx = .slice Ax nx cx) : FlowStep Try.prog ops Q a0 (NJ w V1 n1 vs1 XB Lx) 5 o := by
  intro us a W hJ hu hd hat
  obtain ⟨ed, em, eb, ee⟩ := e1
  have g1 := hd ed em eb
  rw [ee] at g1
  obtain ⟨v1, g1⟩ := Option.isSome_iff_exists.1 g1
  have k1 := hat.val h1 h1d g1
  rw [hJ.f4 _ g1] at k1
  obtain ⟨i, hi, hz, hs, hby⟩ := info_three inf22
  have hza : (zeroValue 22).run Try.prog W = .ok (.slice none 0 0) W := by simp [zeroValue, typeInfo, hi, hz, Sem.run_bind]
  refine flow_ok (.slice (some ⟨W.heap.size, 0, none⟩) 1 1) (W.alloc (.cells #[Lx] 22)) ?_ ⟨_, rfl, hJ.step hu (Only.alloc [] W _) (by decide) (fun e => by cases e) (fun e => by cases e) (fun e => by cases e) (fun e => by cases e) (fun e => by cases e) (fun _ => ⟨_, rfl, hJ.only.size, heap_alloc_new W _⟩) (fun e => by cases e)⟩
  rw [hL] at k1 ⊢
  have hr : (Instr.buildSlice 44 1 #[(0, .slice Ax nx cx)]).run Try.prog W = .ok (.slice (some ⟨W.heap.size, 0, none⟩) 1 1) (W.alloc (.cells #[.slice Ax nx cx] 22)) := by
    simp [Instr.buildSlice, run_underlying Try.underlying44, sizeOf, typeInfo, hi, hs, hz, hza, Instr.fill, newRow, newObj, Result.andThen, Sem.run_bind, Value.cells, go_sem]
    try rfl
  unfold execOp
  simp only [ho, Sem.run_bind, List.map_toArray, List.map_cons, List.map_nil, k1, hr, Result.andThen_ok, Sem.run_pure]
theorem nj_more (o o1 o2 : Oper) (x y : Nat) (ho : o.op = .call { callee := .builtin .append, args := #[.tmp x, .tmp y], argTypes := #[44, 44] }) (h1 : ops[2]? = some o1) (h1d : o1.dst = some x) (h2 : ops[5]? = some o2) (h2d : o2.dst = some y)
    (e1 : ∃ e ∈ o.after, Region.binds .any e = true ∧ e.on = 2) (e2 : ∃ e ∈ o.after, Region.binds .any e = true ∧ e.on = 5) (Ax : Option Addr) (nx cx : Nat) (hL : Lx = .slice Ax nx cx) (hn : n1 ≤ 4096) : FlowStep Try.prog ops Q a0 (NJ w V1 n1 vs1 XB Lx) 6 o := by
  intro us a W hJ hu hd hat
  obtain ⟨ed, em, eb, ee⟩ := e1
  obtain ⟨fd, fm, fb, fe⟩ := e2
  have g1 := hd ed em eb
  have g2 := hd fd fm fb
  rw [ee] at g1
  rw [fe] at g2
  obtain ⟨v1, g1⟩ := Option.isSome_iff_exists.1 g1
  obtain ⟨v2, g2⟩ := Option.isSome_iff_exists.1 g2
  have k1 := hat.val h1 h1d g1
  have k2 := hat.val h2 h2d g2
  have hown := hJ.f2 _ g1 hu
  obtain ⟨b, rfl, hb, hbb⟩ := hJ.f5 _ g2 hu
  obtain ⟨i, hi, hz, hs, hby⟩ := info_three inf22
  obtain ⟨g, cap, w', hr, h3, h4, -, -⟩ := run_append_lies (P := Try.prog) W 44 o.type w.heap.size 22 i _ 1 24 Try.underlying44 hi hz hs hby (by rfl) (by decide) v1 n1 vs1 hown ⟨b, 0, none⟩ 1 1 [Lx] rfl (World.news_of_block hbb) (fun u hu => by rw [List.mem_singleton.1 hu, hL]; rfl) (by decide) (by unfold maxLen; omega) (by omega) hJ.only.size _ rfl
  have hon : Only [] w w' := hJ.only.on (Only.of_grown (fp := v1.ownBlock.toList) h4 (fun k hk => by rw [hk]; simp)) (fun k hk => (ownsRow_lt hown hk).1)
  refine flow_ok _ w' ?_ ⟨_, rfl, hJ.six hu g1 hon h3⟩
  unfold execOp
  simp only [ho, resolve, invoke, builtin, Sem.run_bind, Sem.run_pure, Result.andThen_ok, List.map_toArray, List.map_cons, List.map_nil, k1, k2, hr]
theorem nj_give (o o1 : Oper) (x : Nat) (ho : o.op = .assign (.tmp x)) (h1 : ops[6]? = some o1) (h1d : o1.dst = some x) (e1 : ∃ e ∈ o.after, Region.binds .any e = true ∧ e.on = 6) : FlowStep Try.prog ops Q a0 (NJ w V1 n1 vs1 XB Lx) 7 o := by
  intro us a W hJ hu hd hat
  obtain ⟨d1, m1, b1, n1⟩ := e1
  have g1 := hd d1 m1 b1
  rw [n1] at g1
  obtain ⟨v1, g1⟩ := Option.isSome_iff_exists.1 g1
  have k1 := hat.val h1 h1d g1
  refine flow_ok v1 W ?_ ⟨_, rfl, hJ.step hu (Only.refl _ _) (by decide) (fun e => by cases e) (fun e => by cases e) (fun e => by cases e) (fun e => by cases e) (fun e => by cases e) (fun e => by cases e) (fun _ => g1)⟩
  unfold execOp
  simp only [ho, k1, Sem.run_pure]
end
end Go.Proofs.Ytnhgakmnkpjpdaa
