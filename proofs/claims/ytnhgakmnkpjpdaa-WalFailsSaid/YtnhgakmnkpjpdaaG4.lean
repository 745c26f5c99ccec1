import Derived.Test.YtnhgakmnkpjpdaaQ1
import Derived.Test.YtnhgakmnkpjpdaaL3
import Derived.RangeFuncOwn
import Derived.RangeFuncCalls
import Derived.RangeFuncLeaves
import Derived.TacticsIn
import Derived.RegionIn
import Derived.OwnWalkIn
import Derived.LoopIn
import Derived.BigFrameIn
import Derived.Shelf.Abstract
import Derived.Lib.AppendStr
/- Package sheaf: the contracts of pieces and Put, by walking them. No condition but that the text is not too long. -/
set_option linter.unusedVariables false
set_option linter.unusedSimpArgs false
namespace Go.Proofs.Ytnhgakmnkpjpdaa
open Go Go.RowKit Go.Proofs.YtnhgakmnkpjpdaaW.PrintWords Go.Proofs.YtnhgakmnkpjpdaaW.PrintLast Go.Proofs.YtnhgakmnkpjpdaaW.PrintMore
attribute [local go_sem] Oper.semAt_some max2_int min2_int max_two min_two max_three min_three max_four min_four
theorem pieces_calls (b : ByteArray) (w : World) :
    Calls Try.prog 92 #[.string b] w fun e w' => e = .returned (.func (.func 98) #[] #[.pointer (some ⟨w.heap.size, 0, none⟩)]) ∧ w' = w.alloc (.cells #[.string b] 9) := by
  go_enter Try.func92, Try.ntmps92
  go_wp2
  go_ret
  exact ⟨rfl, rfl⟩
/-- The j-th piece of some bytes. -/
def pieceAt (L : List UInt8) (j : Nat) : ByteArray := B ((L.drop (48 * j)).take 48)
def piecesTo (L : List UInt8) (j : Nat) : List ByteArray := (List.range j).map (pieceAt L)
def piecesL (L : List UInt8) : List ByteArray := piecesTo L ((L.length + 47) / 48)
theorem piecesTo_succ (L : List UInt8) (j : Nat) : piecesTo L (j + 1) = piecesTo L j ++ [pieceAt L j] := by unfold piecesTo; rw [List.range_succ, List.map_append]; rfl
/-- A box that holds a string. -/
def BoxS (W : World) (g : Nat) (s : ByteArray) : Prop := W.heap[g]? = some (.cells #[.string s] 9 (0, 0))
def boxLen (g : Nat) (W : World) : Nat := match W.cell? ⟨g, 0, none⟩ with | some (.string s) => s.size | _ => 0
theorem BoxS.cell {W : World} {g : Nat} {s : ByteArray} (h : BoxS W g s) : W.cell? ⟨g, 0, none⟩ = some (.string s) ∧ W.frozen? ⟨g, 0, none⟩ = false := by
  unfold BoxS at h
  constructor <;> simp [World.cell?, World.frozen?, h]
theorem BoxS.len {W : World} {g : Nat} {s : ByteArray} (h : BoxS W g s) : boxLen g W = s.size := by unfold boxLen; rw [h.cell.1]
theorem BoxS.set {W : World} {g : Nat} {s : ByteArray} (h : BoxS W g s) (s' : ByteArray) : BoxS (W.setCell ⟨g, 0, none⟩ (.string s')) g s' := setCell_row W g 0 _ 9 (0, 0) (.string s') h
set_option maxRecDepth 100000 in
set_option maxHeartbeats 2000000 in
theorem pieces_in (n l g : Nat) (L : List UInt8) (hL : L.length < 9223372036854775807) (J : List ByteArray → World → Prop) (W : World)
    (hJ : ∀ pre W1 v, J pre W1 → J pre (W1.setCell ⟨g, 0, none⟩ v))
    (hY : ∀ j W1, 48 * j < L.length → J (piecesTo L j) W1 → BoxS W1 g (B (L.drop (48 * j))) → YieldAt Fence.wide (n - 1) Try.prog l #[.string (pieceAt L j)] W1 fun e W' => e = .returned (.bool true) ∧ J (piecesTo L j ++ [pieceAt L j]) W' ∧ BoxS W' g (B (L.drop (48 * j))))
    (h0 : J [] W) (hb : BoxS W g (B L)) :
    CallsIn Fence.wide n Try.prog 98 #[.func (.yield l) #[] #[], .pointer (some ⟨g, 0, none⟩)] W fun e W' => (∃ v, e = .returned v) ∧ J (piecesL L) W' := by
  refine callsIn_of_wp Try.func98 rfl trivial ?_ rfl
  simp only [Try.ntmps98, List.size_toArray, List.length_cons, List.length_nil, Nat.reduceAdd, Nat.reduceSub, Array.replicate_succ, Array.replicate_zero, List.push_toArray, List.append_toArray, List.nil_append, List.cons_append]
  gi_wp2
  gi_loopw [3] (fun v3 wr => ∃ j : Nat, Aside0 (48 * j < L.length + 48) ∧ Aside0 (BoxS wr g (B (L.drop (48 * j)))) ∧ Aside0 (J (piecesTo L j) wr)) (fun _ wr => boxLen g wr)
  case atStart => exact ⟨0, ⟨by omega⟩, ⟨hb⟩, ⟨h0⟩⟩
  case round =>
    obtain ⟨j, HJ, HB, HI⟩ := hrel
    obtain ⟨S, hS⟩ : ∃ S, S = B (L.drop (48 * j)) := ⟨_, rfl⟩
    rw [← hS] at HB
    obtain ⟨hc, hf⟩ := HB.out.cell
    have hsz : S.size = L.length - 48 * j := by rw [hS, B_size, List.length_drop]
    by_cases h1 : 48 * j < L.length
    · have c0 : (0 < S.size) = True := eq_true (by omega)
      have hn : 48 * (j + 1) < L.length + 48 := by omega
      have hnx : S.size ≤ 48 → 48 * (j + 1) ≥ L.length := by omega
      by_cases h48 : S.size ≤ 48
      · have hx : S = pieceAt L j := by
          rw [hS]
          unfold pieceAt
          rw [List.take_of_length_le (by rw [List.length_drop]; omega)]
        have HY := hid (hY j wr h1 HI.out (by rw [← hS]; exact HB.out))
        rw [← hx] at HY
        obtain ⟨f1, t1, a1, b1, hy1, hR1⟩ := HY.out
        have HR1 := hid hR1
        have H1 := hid h1
        have HS := hid hS
        have HX := hid hx
        have HN := hid hn
        have HSZ := hid hsz
        have HN48 := hid h48
        clear hR1 HY hx hS h1 hn hnx hsz
        gi_wp2
        all_goals try (exfalso; omega)
        refine ⟨fun hh => absurd hh (by decide), HR1.out.mono ?_⟩
        rintro e wx ⟨rfl, hJx, hBx⟩
        have hBx2 : BoxS wx g S := by rw [HS.out]; exact hBx
        obtain ⟨hcx, hfx⟩ := hBx2.cell
        gi_wp2
        have hd : L.drop (48 * (j + 1)) = [] := List.drop_eq_nil_of_le (by have := HSZ.out; omega)
        refine ⟨⟨j + 1, ⟨HN.out⟩, ⟨?_⟩, ⟨?_⟩⟩, ?_⟩
        · rw [hd]; exact hBx2.set _
        · rw [piecesTo_succ]
          refine hJ _ _ _ ?_
          rw [← HX.out]
          exact hJx
        · rw [(hBx2.set _).len, HB.out.len]
          have := HSZ.out
          have := H1.out
          show 0 < S.size
          omega
      · have hx : S.extract 0 48 = pieceAt L j := by
          rw [hS, B_extract]
          rfl
        have HY := hid (hY j wr h1 HI.out (by rw [← hS]; exact HB.out))
        rw [← hx] at HY
        obtain ⟨f1, t1, a1, b1, hy1, hR1⟩ := HY.out
        have HR1 := hid hR1
        have H1 := hid h1
        have HS := hid hS
        have HX := hid hx
        have HN := hid hn
        have HSZ := hid hsz
        have hgt : 48 < S.size := by omega
        have hgi : (48 : Int) ≤ (S.size : Int) := by omega
        clear hR1 HY hx hS h1 hn hnx hsz h48
        gi_wp2
        all_goals try (exfalso; omega)
        refine ⟨fun hh => absurd hh (by decide), HR1.out.mono ?_⟩
        rintro e wx ⟨rfl, hJx, hBx⟩
        have hBx2 : BoxS wx g S := by rw [HS.out]; exact hBx
        obtain ⟨hcx, hfx⟩ := hBx2.cell
        gi_wp2
        have hext : S.extract 48 S.size = B (L.drop (48 * (j + 1))) := by
          have h := HS.out
          rw [h, B_size, B_extract, List.drop_drop, List.take_of_length_le (by rw [List.length_drop, List.length_drop]; omega)]
          congr 2
        refine ⟨⟨j + 1, ⟨HN.out⟩, ⟨?_⟩, ⟨?_⟩⟩, ?_⟩
        · rw [← hext]; exact hBx2.set _
        · rw [piecesTo_succ]
          refine hJ _ _ _ ?_
          rw [← HX.out]
          exact hJx
        · rw [(hBx2.set _).len, HB.out.len, hext, B_size, List.length_drop]
          have := HSZ.out
          omega
    · have c0 : (0 < S.size) = False := eq_false (by omega)
      have hj : j = (L.length + 47) / 48 := by have := HJ.out; omega
      have HJJ := hid hj
      clear hj h1 hsz hS
      gi_wp2
      go_end0
      exact ⟨⟨_, rfl⟩, by unfold piecesL; rw [← HJJ.out]; exact HI.out⟩
theorem BoxS.lt {W : World} {g : Nat} {s : ByteArray} (h : BoxS W g s) : g < W.heap.size := (Array.getElem?_eq_some_iff.1 h).1
/-- 'for p := range pieces(b) { .. }': the caller's word for what holds between two rounds (it abides what is no cells, and the iterator's own box), and one walk of the body. -/
theorem wpIn_range_pieces {g : Operand} {ps : Array Tmp} {assign body : Code} {Q : Exit → Act → World → Prop} {a : Act} {w : World} (n gb : Nat) (L : List UInt8) (hL : L.length < 9223372036854775807)
    (hg : a.eval g = .func (.func 98) #[] #[.pointer (some ⟨gb, 0, none⟩)]) (eg : ∀ args w, (callFunc 98 args).run Try.prog w = .ok (.enter 98 args) w) (hbx : BoxS w gb (B L)) (hps : ps.size = 1)
    (I : List ByteArray → World → Prop)
    (hIp : ∀ s W l o o', I s W → W.heap[l]? = some o → o.isCells = false → w.heap.size ≤ l → I s (W.putObj l o'))
    (hIa : ∀ s W o, I s W → I s (W.alloc o))
    (hIg : ∀ s W v, I s W → I s (W.setCell ⟨gb, 0, none⟩ v))
    (h0 : I [] w) (a₁ : ByteArray → Act)
    (hassign : ∀ (l : Nat) (x : ByteArray) (W : World) (K : Act → World → Prop), K (a₁ x) W →
      assign.wpIn (Fence.wide.inRound l) (n - 1 - 1) Try.prog (Exit.then K (fun _ _ _ => False)) { tmps := (ps.zip #[.string x]).foldl (fun t (p, v) => t.setIfInBounds p v) a.tmps, defers := [] } W)
    (hbody : ∀ (l j : Nat) (W : World), 48 * j < L.length → I (piecesTo L j) W → BoxS W gb (B (L.drop (48 * j))) → body.wpIn (Fence.wide.inRound l) (n - 1 - 1) Try.prog
      (fun e _ W' => e = .normal ∧ KeepsOthers W W' ∧ W'.heap[gb]? = W.heap[gb]? ∧ I (piecesTo L j ++ [pieceAt L j]) W') (a₁ (pieceAt L j)) W)
    (hdone : ∀ (D : Nat) (W : World), w.heap.size ≤ D → I (piecesL L) W → W.heap[D]? = some (.deferred (some [])) → Q .normal { a with defers := { target := .collected D, args := #[] } :: a.defers } W) :
    (Code.rangeFunc g ps assign body).wpIn Fence.wide n Try.prog Q a w := by
  refine wpIn_rangeFunc ?_
  intro fn hfn
  have hgb := hbx.lt
  obtain ⟨rec, hrec⟩ : ∃ rec : LoopState → Option Code → Loop, rec = fun st pe => { state := st, pending := pe, fn, tmps := a.tmps, params := ps, assign, body, defers := w.heap.size } := ⟨_, rfl⟩
  obtain ⟨W1, hW1⟩ : ∃ W1, (w.alloc (.deferred (some []))).alloc (.loop (rec .ready none)) = W1 := ⟨_, rfl⟩
  have hL1 : W1.heap[w.heap.size + 1]? = some (.loop (rec .ready none)) := by
    rw [← hW1]; have := World.alloc_heap_new (w.alloc (.deferred (some []))) (.loop (rec .ready none)); rwa [World.size_alloc] at this
  have hK1 : W1.heap[w.heap.size]? = some (.deferred (some [])) := by
    rw [← hW1]; exact (Below.heap_alloc _ _ _ (by simp)).trans (World.alloc_heap_new w _)
  have hB1 : BoxS W1 gb (B L) := by
    rw [← hW1]; exact (Below.heap_alloc _ _ gb (by simp; omega)).trans ((Below.heap_alloc _ _ gb hgb).trans hbx)
  have hI1 : I [] W1 := by rw [← hW1]; exact hIa _ _ _ (hIa _ _ _ h0)
  refine ⟨w.heap.size + 1, [{ target := .collected w.heap.size, args := #[] }], W1, { target := .fn (.func 98) #[.pointer (some ⟨gb, 0, none⟩)], args := #[.func (.yield (w.heap.size + 1)) #[] #[]] }, W1, 98,
    #[.func (.yield (w.heap.size + 1)) #[] #[]] ++ #[.pointer (some ⟨gb, 0, none⟩)], W1, ?_, ?_, ?_, ?_, fun hh => absurd hh (by decide), ?_⟩
  · rw [← hW1, hrec]; exact run_enterLoop_outer _ _ _ _ _
  · simp only [resolve, hg]
    simp [go_sem]
  · intro f' hf'; trivial
  · simp [invoke, go_sem, eg]
  · refine CallsIn.mono (pieces_in (n - 1) (w.heap.size + 1) gb L hL
      (fun pre W => I pre W ∧ W.heap[w.heap.size + 1]? = some (.loop (rec .ready none)) ∧ W.heap[w.heap.size]? = some (.deferred (some [])))
      W1 ?_ ?_ ⟨hI1, hL1, hK1⟩ hB1) ?_
    · rintro pre W v ⟨hi, hl, hk⟩
      exact ⟨hIg _ _ _ hi, (Below.heap_setCell W ⟨gb, 0, none⟩ v (w.heap.size + 1) (by show w.heap.size + 1 ≠ gb; omega)).trans hl, (Below.heap_setCell W ⟨gb, 0, none⟩ v w.heap.size (by show w.heap.size ≠ gb; omega)).trans hk⟩
    · rintro j W hjL ⟨hi, hl, hk⟩ hbj
      have hlt : w.heap.size + 1 < W.heap.size := (Array.getElem?_eq_some_iff.1 hl).1
      have hy := run_yield (P := Try.prog) (args := #[.string (pieceAt L j)]) hl (by rw [hrec]; simp [hps])
      rw [hrec] at hy
      refine ⟨fn, _, assign, body, hy, roundIn_of_wpIn hfn (hassign _ _ W _ ⟨_, run_beginRound hl (by rw [hrec]), ?_⟩)⟩
      have hl2 : (W.putObj (w.heap.size + 1) (.loop { rec .ready none with state := .busy })).heap[w.heap.size + 1]? = some (.loop { rec .ready none with state := .busy }) := World.putObj_heap_same hlt
      have hk2 : (W.putObj (w.heap.size + 1) (.loop { rec .ready none with state := .busy })).heap[w.heap.size]? = some (.deferred (some [])) := (World.putObj_heap_other (by omega)).trans hk
      have hb2 : BoxS (W.putObj (w.heap.size + 1) (.loop { rec .ready none with state := .busy })) gb (B (L.drop (48 * j))) := (World.putObj_heap_other (by omega)).trans hbj
      refine wpIn_mono (hbody _ j _ hjL (hIp _ _ _ _ _ hi hl rfl (by omega)) hb2) ?_
      rintro e a3 W3 ⟨rfl, hk3, hg3, hi3⟩
      have hl3 := hk3.same _ _ hl2 rfl
      have hend := run_endRound (P := Try.prog) none hl3
      have hlt3 := (Array.getElem?_eq_some_iff.1 hl3).1
      refine ⟨_, _, hend, rfl, ⟨hIp _ _ _ _ _ hi3 hl3 rfl (by omega), ?_, (World.putObj_heap_other (by omega)).trans (hk3.same _ _ hk2 rfl)⟩, (World.putObj_heap_other (by omega)).trans (hg3.trans hb2)⟩
      rw [World.putObj_heap_same hlt3, hrec]
      rfl
    · rintro e W2 ⟨⟨v, rfl⟩, hi, hl, hk⟩
      refine ⟨none, _, ?_, hdone w.heap.size _ (Nat.le_refl _) (hIp _ _ _ _ (.loop { rec .ready none with state := .exhausted }) hi hl rfl (by omega)) ((World.putObj_heap_other (by omega)).trans hk)⟩
      have := run_endLoop (P := Try.prog) hl (by rw [hrec]; simp)
      rw [this, hrec]
end Go.Proofs.Ytnhgakmnkpjpdaa

/- Package sheaf: the contract of Put, by walking it. No condition but the number's kind, and that the text is not too long. -/
set_option linter.unusedVariables false
set_option linter.unusedSimpArgs false
namespace Go.Proofs.Ytnhgakmnkpjpdaa
open Go Go.RowKit Go.Proofs.Ytnhgakmnkpjpdaa.Q Go.Proofs.YtnhgakmnkpjpdaaW.PrintWords Go.Proofs.YtnhgakmnkpjpdaaW.PrintLast Go.Proofs.YtnhgakmnkpjpdaaW.PrintMore
attribute [local go_sem] Oper.semAt_some max2_int min2_int max_two min_two max_three min_three max_four min_four
def leafB (n : Int) (p : ByteArray) : ByteArray := ⟨(leafL n.toNat p.data.toList).toArray⟩
def sheaf_Put.f (a0 : Int) (a1 : ByteArray) : Option (List ByteArray × Int) :=
  if a0 = 0 then some ([], 2) else if (a1.size : Int) > 98304 then some ([], 3)
  else (tally_Text.f 30 a1).bind fun T => if (0 < a0 ∧ a0 < 18446744073709551616) ∧ T.size < 200000 then some ((piecesL T.data.toList).map (leafB a0), 0) else none
theorem pieceAt_size (L : List UInt8) (j : Nat) : (pieceAt L j).size ≤ 48 := by
  unfold pieceAt
  rw [B_size, List.length_take]
  omega
theorem leaf_piece (a0 : Int) (h0 : 0 < a0) (h1 : a0 < 18446744073709551616) (L : List UInt8) (j : Nat) : leaf_Put.f a0 (pieceAt L j) = some (leafB a0 (pieceAt L j), 0) := by
  have := pieceAt_size L j
  unfold leaf_Put.f
  rw [if_neg (by omega), if_neg (by omega), if_pos ⟨h0, h1⟩]
  rfl
def PutI (w : World) (B0 B1 base : Nat) (a0 : Int) (pre : List ByteArray) (W : World) : Prop :=
  W.heap[B0]? = some (.cells #[.int .u64 a0] 28 (0, 0)) ∧ (∃ v, W.heap[B1]? = some (.cells #[v] 22 (0, 0)) ∧ W.ownsRow base 9 1 v pre.length (pre.map fun p => Value.string (leafB a0 p))) ∧ Below w.heap.size w W
theorem own_ne {W : World} {base : Nat} {e : TypeId} {size : Nat} {v : Value} {k : Nat} {xs : List Value} (h : W.ownsRow base e size v k xs) {j : Nat} (hj : ∀ o, W.heap[j]? = some o → o.isCells = false ∨ j < base) : v.ownBlock = none ∨ v.ownBlock ≠ some j := by
  rcases h.2 with ⟨rfl, _⟩ | ⟨g, cap, cur, rfl, hb, hgb, _⟩
  · exact .inl rfl
  · refine .inr fun e' => ?_
    have : g = j := by simpa [Value.ownBlock] using e'
    subst this
    rcases hj _ hgb with hc | hc
    · cases hc
    · omega
section
variable {w : World} {B0 B1 base : Nat} {a0 : Int}
theorem PutI.putObj (h0 : B0 < base) (h1 : B1 < base) (hw : w.heap.size ≤ base) (s : List ByteArray) (W : World) (l : Nat) (o o' : Obj) (h : PutI w B0 B1 base a0 s W) (hl : W.heap[l]? = some o) (hc : o.isCells = false) (hb : base ≤ l) : PutI w B0 B1 base a0 s (W.putObj l o') := by
  obtain ⟨k0, ⟨v, k1, k2⟩, k3⟩ := h
  have hls := (Array.getElem?_eq_some_iff.1 hl).1
  have hg := grownBy_putObj' W l o'
  refine ⟨(World.putObj_heap_other (by omega)).trans k0, ⟨v, (World.putObj_heap_other (by omega)).trans k1, k2.kept hg (own_ne k2 (fun o2 ho2 => .inl (by rw [hl] at ho2; cases ho2; exact hc)))⟩, k3.grown hg k3.size (fun k e => by cases e; omega)⟩
theorem PutI.alloc (hw : B0 < base) (s : List ByteArray) (W : World) (o : Obj) (h : PutI w B0 B1 base a0 s W) : PutI w B0 B1 base a0 s (W.alloc o) := by
  obtain ⟨k0, ⟨v, k1, k2⟩, k3⟩ := h
  exact ⟨(Below.heap_alloc _ _ _ (Array.getElem?_eq_some_iff.1 k0).1).trans k0, ⟨v, (Below.heap_alloc _ _ _ (Array.getElem?_eq_some_iff.1 k1).1).trans k1, k2.alloc o⟩, k3.alloc k3.size o⟩
theorem PutI.setCell {gb : Nat} (hgs : gb < base) (h0 : gb ≠ B0) (h1 : gb ≠ B1) (hw : w.heap.size ≤ gb) (s : List ByteArray) (W : World) (u : Value) (h : PutI w B0 B1 base a0 s W) : PutI w B0 B1 base a0 s (W.setCell ⟨gb, 0, none⟩ u) := by
  obtain ⟨k0, ⟨v, k1, k2⟩, k3⟩ := h
  have hg : W.grownBy (W.setCell ⟨gb, 0, none⟩ u) (some gb) := ⟨rfl, rfl, rfl, (KeepsWalks.setCell W _ u).size, fun k _ hk => Below.heap_setCell _ _ _ k (fun e => hk (by rw [e]))⟩
  exact ⟨(Below.heap_setCell W ⟨gb, 0, none⟩ u B0 (fun e => h0 e.symm)).trans k0, ⟨v, (Below.heap_setCell W ⟨gb, 0, none⟩ u B1 (fun e => h1 e.symm)).trans k1, k2.kept hg (own_ne k2 (fun _ _ => .inr hgs))⟩, k3.setCell (p := ⟨gb, 0, none⟩) hw u⟩
end
theorem own_isCells {W : World} {base : Nat} {e : TypeId} {size : Nat} {v : Value} {k : Nat} {xs : List Value} (h : W.ownsRow base e size v k xs) : ∀ (j : Nat) (o : Obj), v.ownBlock = some j → W.heap[j]? = some o → o.isCells = true := by
  intro j o hj ho
  rcases h.2 with ⟨rfl, _⟩ | ⟨g, cap, cur, rfl, _, hgb, _⟩
  · simp [Value.ownBlock] at hj
  · have : g = j := by simpa [Value.ownBlock] using hj
    subst this; rw [hgb] at ho; cases ho; rfl
theorem setCell_grown (W : World) (b : Nat) (u : Value) : W.grownBy (W.setCell ⟨b, 0, none⟩ u) (some b) := ⟨rfl, rfl, rfl, (KeepsWalks.setCell W _ u).size, fun k _ hk => Below.heap_setCell _ _ _ k (fun e => hk (by rw [e]))⟩
theorem put_keep {W3 w4 : World} {c o : Obj} {v : Value} {k : Nat} (h3 : W3.heap[k]? = some o) (hg : (W3.alloc c).grownBy w4 v.ownBlock) (hne : v.ownBlock = none ∨ v.ownBlock ≠ some k) : w4.heap[k]? = some o := by
  have hlt := (Array.getElem?_eq_some_iff.1 h3).1
  refine (hg.block k (by simp; omega) ?_).trans ((Below.heap_alloc _ _ _ hlt).trans h3)
  rcases hne with e | e
  · rw [e]; exact fun h => by cases h
  · exact fun h => e h.symm
set_option maxRecDepth 100000 in
set_option maxHeartbeats 2000000 in
theorem sheaf_Put.walk (a0 : Int) (a1 T : ByteArray) (w : World) (h0 : 0 < a0) (h1 : a0 < 18446744073709551616) (hs : (a1.size : Int) ≤ 98304) (hT : tally_Text.f 30 a1 = some T) (hTs : T.size < 200000) :
    Calls Try.prog 77 #[.int .u64 a0, .string a1] w fun e w' => ∃ v0_ : Value, e = .returned (.tuple #[v0_, .int .i64 0]) ∧ Kd.R Kd.string 9 w' w.heap.size (fun _ => True) v0_ ((piecesL T.data.toList).map (leafB a0)) ∧ Below w.heap.size w w' := by
  refine (callsIn_wide (n := 3)).1 ?_
  refine callsIn_of_wp_marks Try.func77 rfl trivial ?_ rfl
  have c0 : (a0 == 0) = false := beq_eq_false_iff_ne.2 (by omega)
  have c1 : decide ((98304 : Int) < (a1.size : Int)) = false := decide_eq_false (by omega)
  have f20 : Fence.wide.fn 92 := trivial
  have f21 : Fence.wide.fn 93 := trivial
  have f22 : Fence.wide.fn 94 := trivial
  have HT := Aside0.mk hT
  have HTs := hid hTs
  have H0 := hid h0
  have H1 := hid h1
  clear hT hTs h0 h1 hs
  simp only [Try.ntmps77, List.size_toArray, List.length_cons, List.length_nil, Nat.reduceAdd, Nat.reduceSub, Array.replicate_succ, Array.replicate_zero, List.push_toArray, List.append_toArray, List.nil_append, List.cons_append]
  gi_wp2_with (first
    | (gi_at_call 93; refine CallsIn.mono (callsIn_wide.2 (tally_Text.calls 30 a1 T _ HT.out)) ?_; rintro e w1 ⟨rfl, b1⟩)
    | (gi_at_call 92; refine CallsIn.mono (callsIn_wide.2 (pieces_calls T _)) ?_; rintro e w2 ⟨rfl, rfl⟩))
  have hsz : ((w.alloc (Obj.cells #[Value.int IntKind.u64 a0] 28)).alloc (Obj.cells #[Value.slice none 0 0] 22)).heap.size = w.heap.size + 2 := by simp
  have hb1 := b1
  rw [hsz] at hb1
  have g0 : w1.heap[w.heap.size]? = some (.cells #[.int .u64 a0] 28 (0, 0)) := (hb1.block _ (by omega)).trans ((Below.heap_alloc _ _ _ (by simp)).trans (heap_alloc_new w _))
  have g1 : w1.heap[w.heap.size + 1]? = some (.cells #[.slice none 0 0] 22 (0, 0)) := (hb1.block _ (by omega)).trans (by have := heap_alloc_new (w.alloc (Obj.cells #[Value.int IntKind.u64 a0] 28)) (Obj.cells #[Value.slice none 0 0] 22); simpa using this)
  have hs1 : w.heap.size + 2 ≤ w1.heap.size := by have := hb1.size; rw [hsz] at this; exact this
  have bw : Below w.heap.size w w1 := (((Below.refl _ w).alloc (Nat.le_refl _) _).alloc (by simp) _).trans (hb1.mono (by omega))
  have hTl : T.data.toList.length = T.size := Array.length_toList
  have hTB : B T.data.toList = T := by simp [B]
  clear hb1 b1 hsz
  refine wpIn_range_pieces 3 w1.heap.size T.data.toList (by have := HTs.out; omega) rfl (Go.Proofs.enters_of Try.func98 (by kernel_rfl) rfl) (by rw [hTB]; exact heap_alloc_new w1 _) rfl
    (PutI w w.heap.size (w.heap.size + 1) (w1.heap.size + 1) a0)
    (fun s W l o o' hi hl hc hle => PutI.putObj (by omega) (by omega) (by omega) s W l o o' hi hl hc (by simpa using hle))
    (fun s W o hi => PutI.alloc (by omega) s W o hi)
    (fun s W v hi => PutI.setCell (by omega) (by omega) (by omega) (by omega) s W v hi)
    ⟨(Below.heap_alloc _ _ _ (by omega)).trans g0, ⟨.slice none 0 0, (Below.heap_alloc _ _ _ (by omega)).trans g1, ⟨rfl, .inl ⟨rfl, rfl⟩⟩⟩, bw.alloc bw.size _⟩
    (fun x => { tmps := #[.int .u64 a0, .string a1, .pointer (some ⟨w.heap.size, 0, none⟩), undef, .slice none 0 0, .int .i64 0, .pointer (some ⟨w.heap.size + 1, 0, none⟩), .string x, undef, undef, .bool false, .int .u64 a0, .bool false, .bool false, .string a1, .int .i64 (a1.size : Int), .bool false, .string a1, .string T, .func (.func 98) #[] #[.pointer (some ⟨w1.heap.size, 0, none⟩)], .string x, undef, undef, undef, undef, undef, undef, undef, undef, undef, undef, undef], defers := [] }) ?assign ?body ?done
  case assign =>
    intro l x W K hK
    gi_wp2
    exact hK
  case body =>
    rintro l j W hjL ⟨k0, ⟨v, k1, k2⟩, k3⟩ hbx
    have hjl : (piecesTo T.data.toList j).length = j := by unfold piecesTo; simp
    have hjm : j < 200000 := by have := HTs.out; omega
    have HJL := hid hjl
    have HJM := hid hjm
    clear hjl hjm hjL
    obtain ⟨i0, hi, hz0, hz1, hz2⟩ := info_parts info9
    have f22' : (Fence.wide.inRound l).fn 94 := trivial
    have hp := leaf_piece a0 H0.out H1.out T.data.toList j
    obtain ⟨X, hX⟩ : ∃ X, X = pieceAt T.data.toList j := ⟨_, rfl⟩
    rw [← hX] at hp ⊢
    obtain ⟨Y, hY⟩ : ∃ Y, Y = leafB a0 X := ⟨_, rfl⟩
    rw [← hY] at hp
    have HP := Aside0.mk hp
    have HY := hid hY
    have HX := hid hX
    have HK2 := Aside0.mk k2
    have HBX := hid hbx
    have HK0 := hid k0
    have HK1 := hid k1
    have HK3 := hid k3
    have HG0 := hid g0
    have HG1 := hid g1
    have HI := hid hi
    have HZ0 := hid hz0
    have HZ1 := hid hz1
    have HZ2 := hid hz2
    have hc0 : W.cell? ⟨w.heap.size, 0, none⟩ = some (.int .u64 a0) := by simp [World.cell?, k0]
    have HS1 := hid hs1
    have HBW := hid bw
    clear hp hX hY k2 hbx k0 k1 k3 g0 g1 hi hz0 hz1 hz2 hs1 bw hTB hTl
    gi_wp2_with (first
      | (gi_at_call 94; refine (CallsIn.inRound l (callsIn_wide.2 (leaf_Put.calls a0 X Y 0 W HP.out))).mono ?_; rintro e w3 ⟨rfl, b3⟩
         have hB3 := hid b3
         have hc1 : w3.cell? ⟨w.heap.size + 1, 0, none⟩ = some v := by
           have := (b3.block _ (Array.getElem?_eq_some_iff.1 HK1.out).1).trans HK1.out
           simp [World.cell?, this]
         have hr3 := Aside0.mk (own_move HK2.out (fun k hk => b3.block k (own_lt HK2.out k hk)))
         have hl3 : W.heap.size ≤ w3.heap.size := b3.size
         clear b3)
      | (gi_at_builtin; refine wpListIn_append_own _ rfl _ _ 22 rfl (w1.heap.size + 1) 9 i0 (.string ⟨#[]⟩) 1 16 Try.underlying22 HI.out HZ0.out HZ1.out HZ2.out rfl (by decide) _ _ _ rfl (hr3.out.alloc _) ⟨w3.heap.size, 0, none⟩ 1 1 [.string Y] rfl rfl (cell_one_new _ _ _) (by simp [Value.oneCell']) (by have := HJL.out; have := HJM.out; simp only [maxLen]; omega) (by have := HJL.out; have := HJM.out; omega) (by have := (Array.getElem?_eq_some_iff.1 HBX.out).1; simp; omega) ?_; intro v' w4 hown' hg4 hnil4
         obtain ⟨g', cap', rfl⟩ : ∃ g' cap', v' = .slice (some ⟨g', 0, none⟩) ((piecesTo T.data.toList j).length + 1) cap' := by
           rcases hown'.2 with ⟨_, hz⟩ | ⟨g', cap', cur', h', _⟩
           · exact absurd hz (by omega)
           · exact ⟨g', cap', h'⟩
         have HO' := Aside0.mk hown'
         have HG4 := hid hg4
         have hb1 : w4.heap[w.heap.size + 1]? = some (.cells #[v] 22 (0, 0)) := by
           exact put_keep ((hB3.out.block _ (Array.getElem?_eq_some_iff.1 HK1.out).1).trans HK1.out) hg4 (own_ne HK2.out (fun _ _ => .inr (by have := HS1.out; omega)))
         have HB1 := hid hb1
         have hc4 : w4.cell? ⟨w.heap.size + 1, 0, none⟩ = some v := by simp [World.cell?, hb1]
         have hf4 : w4.frozen? ⟨w.heap.size + 1, 0, none⟩ = false := by simp [World.frozen?, hb1]
         clear hown' hg4 hnil4 hb1))
    have hG4 := HG4.out
    have hB3' := hB3.out
    have hB1 := HB1.out
    have hO' := HO'.out
    have hs1 := HS1.out
    have hgbW := HBX.out.lt
    have hgb3 : w3.heap[w1.heap.size]? = W.heap[w1.heap.size]? := hB3'.block _ hgbW
    have hgb4 : w4.heap[w1.heap.size]? = W.heap[w1.heap.size]? := (put_keep (hgb3.trans HBX.out) hG4 (own_ne HK2.out (fun _ _ => .inr (by omega)))).trans HBX.out.symm
    have h04 : w4.heap[w.heap.size]? = some (.cells #[.int .u64 a0] 28 (0, 0)) := put_keep ((hB3'.block _ (Array.getElem?_eq_some_iff.1 HK0.out).1).trans HK0.out) hG4 (own_ne HK2.out (fun _ _ => .inr (by omega)))
    have hb4 : Below w.heap.size w w4 := by
      have hb3 : Below w.heap.size w w3 := HK3.out.trans (hB3'.mono HK3.out.size)
      refine (hb3.alloc hb3.size _).grown hG4 (by have := hb3.size; simp; omega) (fun k e => ?_)
      have := own_base HK2.out k e
      omega
    refine ⟨?_, ?_, ?_, ?_, ?_⟩
    · refine ((⟨hB3'.size, fun k o hk _ => (hB3'.block k (Array.getElem?_eq_some_iff.1 hk).1).trans hk⟩ : KeepsOthers W w3).trans (KeepsOthers.alloc _ _)).trans ((KeepsOthers.of_grownBy hG4 (fun q o hq ho => ?_)).trans (KeepsOthers.setCell _ _ _))
      exact own_isCells (hr3.out.alloc (Obj.cells #[Value.string Y] 9)) q o hq ho
    · exact (Below.heap_setCell w4 ⟨w.heap.size + 1, 0, none⟩ _ w1.heap.size (by show w1.heap.size ≠ w.heap.size + 1; omega)).trans hgb4
    · exact (Below.heap_setCell w4 ⟨w.heap.size + 1, 0, none⟩ _ w.heap.size (by show w.heap.size ≠ w.heap.size + 1; omega)).trans h04
    · refine ⟨_, setCell_row w4 (w.heap.size + 1) 0 _ 22 (0, 0) _ hB1, ?_⟩
      have := hO'.kept (setCell_grown w4 (w.heap.size + 1) (.slice (some ⟨g', 0, none⟩) ((piecesTo T.data.toList j).length + 1) cap')) (own_ne hO' (fun _ _ => .inr (by omega)))
      rw [List.length_append, List.map_append, List.length_singleton, List.map_singleton, ← HY.out]
      exact this
    · exact hb4.setCell (p := ⟨w.heap.size + 1, 0, none⟩) (by show w.heap.size ≤ w.heap.size + 1; omega) _
  case done =>
    rintro D W hD ⟨k0, ⟨v, k1, k2⟩, k3⟩ hK
    have hc1 : W.cell? ⟨w.heap.size + 1, 0, none⟩ = some v := by simp [World.cell?, k1]
    have K2 := Aside0.mk k2
    have K3 := hid k3
    have hKK := hid hK
    clear k2 k3 k0 hK
    gi_wp2
    refine ⟨by simp, .inl ⟨_, _, rfl, run_takeDeferred hKK, ?_⟩⟩
    have hDl := (Array.getElem?_eq_some_iff.1 hKK).1
    have hDb : w1.heap.size + 1 ≤ D := by simpa using hD
    have ho := fun (o : Obj) => K2.out.kept (grownBy_putObj' W D o) (own_ne K2.out (fun o2 ho2 => .inl (by rw [hKK] at ho2; cases ho2; rfl)))
    have hb := fun (o : Obj) => K3.out.grown (grownBy_putObj' W D o) K3.out.size (fun k e => by cases e; omega)
    refine ⟨.tuple #[v, .int .i64 0], by simp [results, Try.results77], v, rfl, ?_, hb _⟩
    refine Kd.R_of_own ?_ (fun _ _ => trivial)
    rw [List.length_map]
    have e : encs Value.string ((piecesL T.data.toList).map (leafB a0)) = (piecesL T.data.toList).map (fun p => Value.string (leafB a0 p)) := by
      unfold encs
      rw [List.map_map]
      rfl
    rw [e]
    exact own_weaken (ho _) (show w.heap.size ≤ w1.heap.size + 1 by omega)
theorem sheaf_Put.calls (a0 : Int) (a1 : ByteArray) (r1 : List ByteArray) (r2 : Int) (w : World) (h : sheaf_Put.f a0 a1 = some (r1, r2)) :
    Calls Try.prog 77 #[.int .u64 a0, .string a1] w fun e w' => ∃ v0_ : Value, e = .returned (.tuple #[v0_, .int .i64 r2]) ∧ Kd.R Kd.string 9 w' w.heap.size (fun _ => True) v0_ r1 ∧ Below w.heap.size w w' := by
  unfold sheaf_Put.f at h
  by_cases h0 : a0 = 0
  · rw [if_pos h0] at h
    obtain ⟨rfl, rfl⟩ := Prod.mk.inj (Option.some.inj h)
    subst h0
    clear h
    go_enter Try.func77, Try.ntmps77
    go_wp2
    refine bodyPost_ret (v := .tuple #[.slice none 0 0, .int .i64 2]) (by simp [results, Try.results77]) rfl ⟨_, rfl, Kd.R_nil _ _ _ _ _, (Below.refl _ w).alloc (Nat.le_refl _) _⟩
  · rw [if_neg h0] at h
    by_cases h1 : (a1.size : Int) > 98304
    · rw [if_pos h1] at h
      obtain ⟨rfl, rfl⟩ := Prod.mk.inj (Option.some.inj h)
      have c0 : (a0 == 0) = false := beq_eq_false_iff_ne.2 h0
      have c1 : decide ((98304 : Int) < (a1.size : Int)) = true := decide_eq_true h1
      clear h h0 h1
      go_enter Try.func77, Try.ntmps77
      go_wp2
      refine bodyPost_ret (v := .tuple #[.slice none 0 0, .int .i64 3]) (by simp [results, Try.results77]) rfl ⟨_, rfl, Kd.R_nil _ _ _ _ _, (Below.refl _ w).alloc (Nat.le_refl _) _⟩
    · rw [if_neg h1] at h
      obtain ⟨T, hT, h⟩ := Option.bind_eq_some_iff.mp h
      by_cases h2 : (0 < a0 ∧ a0 < 18446744073709551616) ∧ T.size < 200000
      · rw [if_pos h2] at h
        obtain ⟨rfl, rfl⟩ := Prod.mk.inj (Option.some.inj h)
        exact sheaf_Put.walk a0 a1 T w h2.1.1 h2.1.2 (by omega) hT h2.2
      · rw [if_neg h2] at h; cases h
end Go.Proofs.Ytnhgakmnkpjpdaa

/- Package sheaf: the contracts of Get and of what it does with one sector, by walking them. -/
set_option linter.unusedVariables false
set_option linter.unusedSimpArgs false
namespace Go.Proofs.Ytnhgakmnkpjpdaa
open Go Go.RowKit Go.Proofs.Ytnhgakmnkpjpdaa.Q Go.Proofs.YtnhgakmnkpjpdaaW.PrintWords Go.Proofs.YtnhgakmnkpjpdaaW.PrintLast Go.Proofs.YtnhgakmnkpjpdaaW.PrintMore
/-- The two boxes of Get: the bytes so far, and the stamp. -/
structure GetAt (W : World) (A S base : Nat) (l : List UInt8) (st : Int) : Prop where
  all : ∃ v, W.heap[A]? = some (.cells #[v] 73 (0, 0)) ∧ W.ownsRow base 5 1 v l.length (l.map cb)
  stamp : W.heap[S]? = some (.cells #[.int .u64 st] 28 (0, 0))
theorem info5_parts : ∃ i, Try.prog.info? 5 = some i ∧ i.zero = some (.int .u8 0) ∧ i.size = 1 ∧ i.bytes = 1 := by
  obtain ⟨i, h, he⟩ := Option.map_eq_some_iff.1 Q.info5
  simp only [Prod.mk.injEq] at he
  exact ⟨i, h, he.1, he.2.1, he.2.2⟩
theorem own_form {W : World} {base : Nat} {e : TypeId} {v : Value} {k : Nat} {xs : List Value} (h : W.ownsRow base e 1 v k xs) : ∃ A c, v = .slice A k c := by
  rcases h.2 with ⟨rfl, h0⟩ | ⟨g, cap, cur, h', _⟩
  · exact ⟨none, 0, by rw [h0]⟩
  · exact ⟨_, _, h'⟩
/-- What the appending and the storing leave. -/
theorem own_fin {w w2 w3 : World} {A S base : Nat} {l : List UInt8} {st : Int} {c : ByteArray} {v v' : Value} (hAS : A ≠ S) (hA : A < base) (hS : S < base) (hlt : A < w2.heap.size)
    (hA3 : w3.heap[A]? = some (.cells #[v] 73 (0, 0))) (hS4 : (w3.setCell ⟨A, 0, none⟩ v').heap[S]? = some (.cells #[.int .u64 st] 28 (0, 0))) (h2 : ∀ B, B ≤ A → B ≤ S → Below B w w2) (hbs : base ≤ w2.heap.size)
    (ho2 : w2.ownsRow base 5 1 v l.length (l.map cb)) (hg : w2.grownBy w3 v.ownBlock) (ho : w3.ownsRow base 5 1 v' (l.length + c.size) (l.map cb ++ Lib.strCells c)) :
    GetAt (w3.setCell ⟨A, 0, none⟩ v') A S base (l ++ c.data.toList) st ∧ ∀ B, B ≤ A → B ≤ S → Below B w (w3.setCell ⟨A, 0, none⟩ v') := by
  have hcl : c.data.toList.length = c.size := Array.length_toList
  refine ⟨⟨⟨v', setCell_row w3 A 0 _ 73 (0, 0) _ hA3, ?_⟩, hS4⟩, fun B hBA hBS => ?_⟩
  · have h := ho.kept (setCell_grown w3 A v') (own_ne ho (fun _ _ => .inr hA))
    rw [List.length_append, List.map_append, hcl]
    exact h
  · have hb := h2 B hBA hBS
    have h3 : Below B w w3 := hb.grown hg (by omega) (fun k e => by have := own_base ho2 k e; omega)
    exact h3.setCell (p := ⟨A, 0, none⟩) hBA v'
set_option maxRecDepth 100000 in
set_option maxHeartbeats 2000000 in
theorem own_calls (b : ByteArray) (n : Int) (c : ByteArray) (is : Bool) (hg : leaf_Get.f b = some (n, c, is)) (A S base : Nat) (hAS : A ≠ S) (hA : A < base) (hS : S < base) (l : List UInt8) (hl : l.length + c.size ≤ 1000000) (st : Int) (w : World) (h : GetAt w A S base l st) (hbs : base ≤ w.heap.size) :
    Calls Try.prog 74 #[.string b, .pointer (some ⟨A, 0, none⟩), .pointer (some ⟨S, 0, none⟩)] w fun e w' =>
      e = .returned (.bool (is && n == (if l = [] then n else st))) ∧ GetAt w' A S base (l ++ c.data.toList) (if l = [] then n else st) ∧ ∀ B, B ≤ A → B ≤ S → Below B w w' := by
  obtain ⟨⟨v, hv, ho⟩, hs⟩ := h
  obtain ⟨i5, hi5, hz5, hs5, hb5⟩ := info5_parts
  have HG := Aside0.mk hg
  have HI5 := hid hi5
  have HZ5 := hid hz5
  have HS5 := hid hs5
  have HB5 := hid hb5
  have HO := Aside0.mk ho
  have HV := hid hv
  have HST := hid hs
  have HL := hid hl
  have HAS := hid hAS
  have HA := hid hA
  have HSB := hid hS
  have HBS := hid hbs
  obtain ⟨Av, cv, hvv⟩ := own_form ho
  subst hvv
  by_cases hnil : l = []
  · have c0 : ((l.length : Int) == 0) = true := by rw [hnil]; rfl
    rw [if_pos hnil]
    have HN := hid hnil
    clear hg hi5 hz5 hs5 hb5 ho hv hs hl hAS hA hS hbs hnil
    go_enter Try.func74, Try.ntmps74
    go_wp2_with (first
      | (go_at_call 75; refine (leaf_Get.calls b n c is _ HG.out).mono ?_; rintro e w1 ⟨rfl, b1⟩
         have hB1 := hid b1
         have hA1 : w1.heap[A]? = some (.cells #[.slice Av l.length cv] 73 (0, 0)) := (b1.block _ (Array.getElem?_eq_some_iff.1 HV.out).1).trans HV.out
         have hS1 : w1.heap[S]? = some (.cells #[.int .u64 st] 28 (0, 0)) := (b1.block _ (Array.getElem?_eq_some_iff.1 HST.out).1).trans HST.out
         have hcA : w1.cell? ⟨A, 0, none⟩ = some (.slice Av l.length cv) := by simp [World.cell?, hA1]
         have hcS : w1.cell? ⟨S, 0, none⟩ = some (.int .u64 st) := by simp [World.cell?, hS1]
         have hfS : w1.frozen? ⟨S, 0, none⟩ = false := by simp [World.frozen?, hS1]
         have hcA2 : (w1.setCell ⟨S, 0, none⟩ (.int .u64 n)).cell? ⟨A, 0, none⟩ = some (.slice Av l.length cv) := (World.cell?_of_block (Below.heap_setCell w1 ⟨S, 0, none⟩ _ A HAS.out)).trans hcA
         have hA2 : (w1.setCell ⟨S, 0, none⟩ (.int .u64 n)).heap[A]? = some (.cells #[.slice Av l.length cv] 73 (0, 0)) := (Below.heap_setCell w1 ⟨S, 0, none⟩ _ A HAS.out).trans hA1
         have hS2 : (w1.setCell ⟨S, 0, none⟩ (.int .u64 n)).heap[S]? = some (.cells #[.int .u64 n] 28 (0, 0)) := setCell_row w1 S 0 _ 28 (0, 0) _ hS1
         have ho2 : (w1.setCell ⟨S, 0, none⟩ (.int .u64 n)).ownsRow base 5 1 (.slice Av l.length cv) l.length (l.map cb) :=
           (own_move HO.out (fun k hk => b1.block k (own_lt HO.out k hk))).kept (setCell_grown w1 S _) (own_ne (own_move HO.out (fun k hk => b1.block k (own_lt HO.out k hk))) (fun _ _ => .inr HSB.out))
         have hz2 : base ≤ (w1.setCell ⟨S, 0, none⟩ (.int .u64 n)).heap.size := by have := b1.size; have := HBS.out; have := (KeepsWalks.setCell w1 ⟨S, 0, none⟩ (.int .u64 n)).size; omega
         have HB2 : Hid (∀ B, B ≤ A → B ≤ S → Below B w (w1.setCell ⟨S, 0, none⟩ (.int .u64 n))) := hid (fun B hBA hBS => (b1.mono (by have := (Array.getElem?_eq_some_iff.1 HV.out).1; omega)).setCell (p := ⟨S, 0, none⟩) hBS _)
         have HA2 := hid hA2
         have HS2 := hid hS2
         have HO2 := Aside0.mk ho2
         have HZ2 := hid hz2
         have HS1 := hid hS1
         clear b1 hA1 hS1 hA2 hS2 ho2 hz2)
      | (refine Lib.wpList_append_own_string _ rfl (.tmp 18) (.tmp 19) 73 9 rfl base 5 i5 Try.underlying73 Try.underlying9 HI5.out HZ5.out HS5.out HB5.out _ l.length (l.map cb) rfl HO2.out c rfl (by have := HL.out; simp only [maxLen]; omega) (by have := HL.out; omega) HZ2.out ?_; intro v' w3 ho' hg' hnil'
         obtain ⟨Av', cv', rfl⟩ := own_form ho'
         have hne : ∀ k, k < base → some k ≠ (Value.slice Av l.length cv).ownBlock := fun k hk e => by
           rcases own_ne (j := k) HO2.out (fun _ _ => .inr hk) with h | h
           · rw [h] at e; cases e
           · exact h e.symm
         have hA3 : w3.heap[A]? = some (.cells #[.slice Av l.length cv] 73 (0, 0)) := (hg'.block A (Array.getElem?_eq_some_iff.1 HA2.out).1 (hne A HA.out)).trans HA2.out
         have hS3 : w3.heap[S]? = some (.cells #[.int .u64 n] 28 (0, 0)) := (hg'.block S (Array.getElem?_eq_some_iff.1 HS2.out).1 (hne S HSB.out)).trans HS2.out
         have hcA3 : w3.cell? ⟨A, 0, none⟩ = some (.slice Av l.length cv) := by simp [World.cell?, hA3]
         have hfA3 : w3.frozen? ⟨A, 0, none⟩ = false := by simp [World.frozen?, hA3]
         have hS4 : (w3.setCell ⟨A, 0, none⟩ (.slice Av' (l.length + c.size) cv')).heap[S]? = some (.cells #[.int .u64 n] 28 (0, 0)) := (Below.heap_setCell w3 ⟨A, 0, none⟩ _ S (fun e => HAS.out e.symm)).trans hS3
         have hcS4 : (w3.setCell ⟨A, 0, none⟩ (.slice Av' (l.length + c.size) cv')).cell? ⟨S, 0, none⟩ = some (.int .u64 n) := by simp [World.cell?, hS4]
         have HA3 := hid hA3
         have HS4 := hid hS4
         have HO3 := Aside0.mk ho'
         have HG3 := hid hg'
         have HNE := hid hne
         clear ho' hg' hnil' hne hA3 hS3 hS4))
    all_goals
      have F := own_fin (w := w) (c := c) (v' := .slice Av' (l.length + c.size) cv') HAS.out HA.out HSB.out (Array.getElem?_eq_some_iff.1 HA2.out).1 HA3.out HS4.out (fun B hBA hBS => HB2.out B hBA hBS) HZ2.out HO2.out HG3.out HO3.out
    · refine bodyPost_ret (v := .bool true) (by simp [results, Try.results74]) rfl ⟨by simp [*], F⟩
    · refine bodyPost_ret (v := .bool false) (by simp [results, Try.results74]) rfl ⟨by simp [*], F⟩
  · have c0 : ((l.length : Int) == 0) = false := beq_eq_false_iff_ne.2 (by have : l.length ≠ 0 := fun h => hnil (List.eq_nil_of_length_eq_zero h); omega)
    rw [if_neg hnil]
    have HN := hid hnil
    clear hg hi5 hz5 hs5 hb5 ho hv hs hl hAS hA hS hbs hnil
    go_enter Try.func74, Try.ntmps74
    go_wp2_with (first
      | (go_at_call 75; refine (leaf_Get.calls b n c is _ HG.out).mono ?_; rintro e w1 ⟨rfl, b1⟩
         have HB2 : Hid (∀ B, B ≤ A → B ≤ S → Below B w w1) := hid (fun B hBA hBS => b1.mono (by have := (Array.getElem?_eq_some_iff.1 HV.out).1; omega))
         have hA2 : w1.heap[A]? = some (.cells #[.slice Av l.length cv] 73 (0, 0)) := (b1.block _ (Array.getElem?_eq_some_iff.1 HV.out).1).trans HV.out
         have hS2 : w1.heap[S]? = some (.cells #[.int .u64 st] 28 (0, 0)) := (b1.block _ (Array.getElem?_eq_some_iff.1 HST.out).1).trans HST.out
         have hcA : w1.cell? ⟨A, 0, none⟩ = some (.slice Av l.length cv) := by simp [World.cell?, hA2]
         have ho2 : w1.ownsRow base 5 1 (.slice Av l.length cv) l.length (l.map cb) := own_move HO.out (fun k hk => b1.block k (own_lt HO.out k hk))
         have HA2 := hid hA2
         have HS2 := hid hS2
         have HO2 := Aside0.mk ho2
         have HZ2 := hid (show base ≤ w1.heap.size by have := b1.size; have := HBS.out; omega)
         clear b1 hA2 hS2 ho2)
      | (refine Lib.wpList_append_own_string _ rfl (.tmp 18) (.tmp 19) 73 9 rfl base 5 i5 Try.underlying73 Try.underlying9 HI5.out HZ5.out HS5.out HB5.out _ l.length (l.map cb) rfl HO2.out c rfl (by have := HL.out; simp only [maxLen]; omega) (by have := HL.out; omega) HZ2.out ?_; intro v' w3 ho' hg' hnil'
         obtain ⟨Av', cv', rfl⟩ := own_form ho'
         have hne : ∀ k, k < base → some k ≠ (Value.slice Av l.length cv).ownBlock := fun k hk e => by
           rcases own_ne (j := k) HO2.out (fun _ _ => .inr hk) with h | h
           · rw [h] at e; cases e
           · exact h e.symm
         have hA3 : w3.heap[A]? = some (.cells #[.slice Av l.length cv] 73 (0, 0)) := (hg'.block A (Array.getElem?_eq_some_iff.1 HA2.out).1 (hne A HA.out)).trans HA2.out
         have hS3 : w3.heap[S]? = some (.cells #[.int .u64 st] 28 (0, 0)) := (hg'.block S (Array.getElem?_eq_some_iff.1 HS2.out).1 (hne S HSB.out)).trans HS2.out
         have hcA3 : w3.cell? ⟨A, 0, none⟩ = some (.slice Av l.length cv) := by simp [World.cell?, hA3]
         have hfA3 : w3.frozen? ⟨A, 0, none⟩ = false := by simp [World.frozen?, hA3]
         have hS4 : (w3.setCell ⟨A, 0, none⟩ (.slice Av' (l.length + c.size) cv')).heap[S]? = some (.cells #[.int .u64 st] 28 (0, 0)) := (Below.heap_setCell w3 ⟨A, 0, none⟩ _ S (fun e => HAS.out e.symm)).trans hS3
         have hcS4 : (w3.setCell ⟨A, 0, none⟩ (.slice Av' (l.length + c.size) cv')).cell? ⟨S, 0, none⟩ = some (.int .u64 st) := by simp [World.cell?, hS4]
         have HA3 := hid hA3
         have HS4 := hid hS4
         have HO3 := Aside0.mk ho'
         have HG3 := hid hg'
         clear ho' hg' hnil' hne hA3 hS3 hS4))
    all_goals
      have F := own_fin (w := w) (c := c) (v' := .slice Av' (l.length + c.size) cv') HAS.out HA.out HSB.out (Array.getElem?_eq_some_iff.1 HA2.out).1 HA3.out HS4.out (fun B hBA hBS => HB2.out B hBA hBS) HZ2.out HO2.out HG3.out HO3.out
    · refine bodyPost_ret (v := .bool (n == st)) (by simp [results, Try.results74]) rfl ⟨by simp [*], F⟩
    · refine bodyPost_ret (v := .bool false) (by simp [results, Try.results74]) rfl ⟨by simp [*], F⟩
end Go.Proofs.Ytnhgakmnkpjpdaa

/- Package sheaf: the contract of Get, by walking it. No condition but that what is read is not too long. -/
set_option linter.unusedVariables false
set_option linter.unusedSimpArgs false
namespace Go.Proofs.Ytnhgakmnkpjpdaa
open Go Go.RowKit Go.Proofs.Ytnhgakmnkpjpdaa.Q Go.Proofs.YtnhgakmnkpjpdaaW.PrintWords Go.Proofs.YtnhgakmnkpjpdaaW.PrintLast Go.Proofs.YtnhgakmnkpjpdaaW.PrintMore
/-- What Get does with one sector. -/
def ownStep (st : Int) (all : List UInt8) (b : ByteArray) : Option (Bool × Int × List UInt8) :=
  (leaf_Get.f b).bind fun x => some (x.2.2 && x.1 == (if all = [] then x.1 else st), (if all = [] then x.1 else st), all ++ x.2.1.data.toList)
def ownAll : List ByteArray → Int → List UInt8 → Option (Bool × Int × List UInt8)
  | [], st, all => some (true, st, all)
  | b :: r, st, all => (ownStep st all b).bind fun x => if x.1 = true then ownAll r x.2.1 x.2.2 else some (false, 0, [])
def getFail : Option (Int × ByteArray × Int × Bool) := some (0, ⟨#[]⟩, 0, false)
def sheaf_Get.f (l : List ByteArray) : Option (Int × ByteArray × Int × Bool) :=
  if l = [] then getFail else (ownStep 0 [] (rdOf ByteArray.empty l 0)).bind fun x => if x.1 = true then
    (tally_TakeNum.f (B x.2.2)).bind fun t => if t.2.2 = true then if t.1 > 98304 then getFail else
      (sheaf_Many.f 30 t.1).bind fun m => if m > (l.length : Int) then getFail else if 1 ≤ m ∧ m ≤ 10000 then
        (ownAll ((l.take m.toNat).drop 1) x.2.1 x.2.2).bind fun y => if y.1 = true then
          (tally_TakeText.f (B y.2.2)).bind fun s => (sheaf_Put.f y.2.1 s.1).bind fun p => if p.2 = 0 then
            (slices_Equal_string_string.f 11000 p.1 (l.take m.toNat)).bind fun q => if q = true then some (y.2.1, s.1, m, true) else getFail
          else getFail
        else getFail
      else none
    else getFail
  else getFail
theorem leaf_Get_size {b : ByteArray} {x} (h : leaf_Get.f b = some x) : x.2.1.size ≤ 48 := by
  unfold leaf_Get.f at h
  split at h
  · obtain rfl := Option.some.inj h
    simp only [ByteArray.size_extract]
    omega
  · obtain rfl := Option.some.inj h
    decide
/-- 'string(all)'. -/
theorem wpList_string_own {P : Program} {w : World} {ops : Array Oper} {rest : List Oper} {o : Oper} {a : Act} {Q : Exit → Act → World → Prop} (hgd : o.guard = none) (src dst : TypeId) (x : Operand) (ho : o.op = .convert src dst x) (e : TypeId) (hs : P.underlying src = some (.slice e)) (he : P.underlying e = some (.int .u8)) (hd : P.underlying dst = some .string)
    (base : Nat) (l : List UInt8) (v : Value) (hx : a.eval x = v) (hown : w.ownsRow base e 1 v l.length (l.map cb))
    (h : wpList P ops Q rest (a.put o.dst (.string (B l))) w) : wpList P ops Q (o :: rest) a w := by
  subst hx
  rcases hown.2 with ⟨hv, h0⟩ | ⟨g, cap, cur, hv, hb, hgb, hn, hm, hc, htk⟩
  · refine wpList_plain hgd fun K hK => ?_
    have hl : l = [] := List.eq_nil_of_length_eq_zero h0
    subst hl
    have hrun := run_convert_bytes_nil (P := P) w src e hs he 0 0 dst hd
    unfold Oper.wp execOp
    simp only [ho, hv, Sem.run_bind, hrun, Result.andThen_ok, Sem.run_pure]
    exact hK _ _ h
  · refine wpList_convert_back hgd src dst x ho e hs he hd g 0 cap l l.length rfl hv e cur (0, 0) hgb (fun j hj => ?_) h
    have e1 := congrArg (fun z => z[j]?) htk
    simp only [Nat.mul_one, List.getElem?_take, if_pos hj, List.getElem?_map, List.getElem?_eq_getElem hj, Option.map_some] at e1
    rw [Nat.zero_add, ← Array.getElem?_toList, e1, List.getD_eq_getElem?_getD, List.getElem?_eq_getElem hj]
    rfl
/-- The stamp's box is the first result. -/
theorem run_load22 (W : World) (S : Nat) (st : Int) (h : W.heap[S]? = some (.cells #[.int .u64 st] 28 (0, 0))) : (loadVar 28 ⟨S, 0, none⟩).run Try.prog W = .ok (.int .u64 st) W := by
  have hc : W.cell? ⟨S, 0, none⟩ = some (.int .u64 st) := by simp [World.cell?, h]
  have hagg : (isAgg 28).run Try.prog W = .ok false W := by
    unfold isAgg
    rw [Sem.run_bind, run_underlying Try.underlying28 W]
    rfl
  simp [loadVar, hagg, Go.load, Sem.run, hc, Result.andThen, Sem.run_bind]
/-- The two boxes, the slice's value told. -/
structure GetV (W : World) (A S base : Nat) (l : List UInt8) (st : Int) (v : Value) : Prop where
  all : W.heap[A]? = some (.cells #[v] 73 (0, 0))
  own : W.ownsRow base 5 1 v l.length (l.map cb)
  stamp : W.heap[S]? = some (.cells #[.int .u64 st] 28 (0, 0))
theorem GetV.below {W W' : World} {A S base : Nat} {l : List UInt8} {st : Int} {v : Value} (h : GetV W A S base l st v) (b : Below W.heap.size W W') : GetV W' A S base l st v :=
  ⟨(b.block _ (Array.getElem?_eq_some_iff.1 h.all).1).trans h.all, own_move h.own (fun k hk => b.block k (own_lt h.own k hk)), (b.block _ (Array.getElem?_eq_some_iff.1 h.stamp).1).trans h.stamp⟩
theorem GetV.cells {W : World} {A S base : Nat} {l : List UInt8} {st : Int} {v : Value} (h : GetV W A S base l st v) :
    W.cell? ⟨A, 0, none⟩ = some v ∧ W.cell? ⟨S, 0, none⟩ = some (.int .u64 st) ∧ W.frozen? ⟨S, 0, none⟩ = false := by
  have h1 := h.all
  have h2 := h.stamp
  refine ⟨by simp [World.cell?, h1], by simp [World.cell?, h2], by simp [World.frozen?, h2]⟩
theorem GetAt.v {W : World} {A S base : Nat} {l : List UInt8} {st : Int} (h : GetAt W A S base l st) : ∃ Av cv, GetV W A S base l st (.slice Av l.length cv) := by
  obtain ⟨⟨v, h1, h2⟩, h3⟩ := h
  obtain ⟨Av, cv, rfl⟩ := own_form h2
  exact ⟨Av, cv, h1, h2, h3⟩
theorem GetV.at {W : World} {A S base : Nat} {l : List UInt8} {st : Int} {v : Value} (h : GetV W A S base l st v) : GetAt W A S base l st := ⟨⟨v, h.all, h.own⟩, h.stamp⟩
/-- One sector, told by 'ownStep'. -/
theorem step_calls (b : ByteArray) (ok : Bool) (st' : Int) (l' : List UInt8) (A S base : Nat) (hAS : A ≠ S) (hA : A < base) (hS : S < base) (l : List UInt8) (hl : l.length ≤ 900000) (st : Int) (w0 w : World) (hs : ownStep st l b = some (ok, st', l')) (h : GetAt w A S base l st) (hbs : base ≤ w.heap.size)
    (hw : Below w0.heap.size w0 w) (h0A : w0.heap.size ≤ A) (h0S : w0.heap.size ≤ S) :
    Calls Try.prog 74 #[.string b, .pointer (some ⟨A, 0, none⟩), .pointer (some ⟨S, 0, none⟩)] w fun e w' =>
      e = .returned (.bool ok) ∧ ∃ Av cv, GetV w' A S base l' st' (.slice Av l'.length cv) ∧ Below w0.heap.size w0 w' ∧ base ≤ w'.heap.size ∧ l'.length ≤ l.length + 48 := by
  unfold ownStep at hs
  obtain ⟨⟨n, c, is⟩, hg, hs⟩ := Option.bind_eq_some_iff.mp hs
  simp only [Option.some.injEq, Prod.mk.injEq] at hs
  obtain ⟨rfl, rfl, rfl⟩ := hs
  have hc := leaf_Get_size hg
  refine (own_calls b n c is hg A S base hAS hA hS l (by dsimp only at hc; omega) st w h hbs).mono ?_
  rintro e w' ⟨rfl, h1, h2⟩
  obtain ⟨Av, cv, h3⟩ := h1.v
  have hb := h2 w0.heap.size h0A h0S
  have hb2 := h2 0 (Nat.zero_le _) (Nat.zero_le _)
  have hcl : c.data.toList.length = c.size := Array.length_toList
  refine ⟨rfl, Av, cv, h3, hw.trans hb, Nat.le_trans hbs hb2.size, ?_⟩
  rw [List.length_append, hcl]
  dsimp only at hc
  omega
theorem TakeNum_range {b : ByteArray} {n : Int} {r : ByteArray} {is : Bool} (h : tally_TakeNum.f b = some (n, r, is)) : 0 ≤ n ∧ n < 18446744073709551616 := by
  have hs := tally_TakeNum_size h
  unfold tally_TakeNum.f at h
  rw [if_pos hs] at h
  cases ht : takeN b.data.toList with
  | none =>
    rw [ht] at h
    obtain ⟨rfl, _⟩ := Prod.mk.inj (Option.some.inj h)
    exact ⟨by decide, by decide⟩
  | some x =>
    obtain ⟨m, l⟩ := x
    rw [ht] at h
    obtain ⟨rfl, _⟩ := Prod.mk.inj (Option.some.inj h)
    have := (takeN_once ht).1
    exact ⟨by omega, by omega⟩
theorem drop_rdOf (l : List ByteArray) (i : Int) (h0 : 0 ≤ i) (h1 : i < (l.length : Int)) : l.drop i.toNat = rdOf ByteArray.empty l i :: l.drop (i.toNat + 1) := by
  have h2 : i.toNat < l.length := by omega
  rw [List.drop_eq_getElem_cons h2]
  unfold rdOf
  rw [List.getD_eq_getElem?_getD, List.getElem?_eq_getElem h2]
  rfl
theorem get_start (w : World) : GetAt ((w.alloc (.cells #[.int .u64 0] 28)).alloc (.cells #[.slice none 0 0] 73)) (w.heap.size + 1) w.heap.size (w.heap.size + 2) [] 0 :=
  ⟨⟨.slice none 0 0, by have := heap_alloc_new (w.alloc (Obj.cells #[Value.int IntKind.u64 0] 28)) (Obj.cells #[Value.slice none 0 0] 73); simpa using this, ⟨rfl, .inl ⟨rfl, rfl⟩⟩⟩, (Below.heap_alloc _ _ _ (by simp)).trans (heap_alloc_new w _)⟩
theorem start_below (w : World) : Below w.heap.size w ((w.alloc (.cells #[.int .u64 0] 28)).alloc (.cells #[.slice none 0 0] 73)) := ((Below.refl _ w).alloc (Nat.le_refl _) _).alloc (by simp) _
set_option maxRecDepth 100000 in
set_option maxHeartbeats 4000000 in
theorem sheaf_Get.calls (A0 : Option Addr) (c0 : Nat) (l0 : List ByteArray) (r1 : Int) (r2 : ByteArray) (r3 : Int) (r4 : Bool) (w : World) (hr0 : Kd.C Kd.string w A0 l0.length l0) (hc0 : l0.length ≤ c0) (h : sheaf_Get.f l0 = some (r1, r2, r3, r4)) :
    Calls Try.prog 55 #[.slice A0 l0.length c0] w fun e w' => e = .returned (.tuple #[.int .u64 r1, .string r2, .int .i64 r3, .bool r4]) ∧ Below w.heap.size w w' := by
  unfold sheaf_Get.f at h
  have HR0 := hid hr0
  have HC0 := hid hc0
  clear hr0 hc0
  by_cases hl : l0 = []
  · rw [if_pos hl] at h
    unfold getFail at h
    simp only [Option.some.injEq, Prod.mk.injEq] at h
    obtain ⟨rfl, rfl, rfl, rfl⟩ := h
    have c1 : ((l0.length : Int) == 0) = true := by rw [hl]; rfl
    clear hl HR0 HC0
    go_enter Try.func55, Try.ntmps55
    go_wp2
    refine bodyPost_ret (v := .tuple #[.int .u64 0, .string ⟨#[]⟩, .int .i64 0, .bool false]) ?_ rfl ⟨rfl, start_below w⟩
    have h0 := run_load22 _ w.heap.size 0 (get_start w).stamp
    simp [results, Try.results55, asAddr, h0]
  · rw [if_neg hl] at h
    have hlp : 0 < l0.length := List.length_pos_iff.2 hl
    have c1 : ((l0.length : Int) == 0) = false := beq_eq_false_iff_ne.2 (by omega)
    have HLP := hid hlp
    have p0 : (0 : Int) ≤ (0 : Int) := by omega
    have q0 : (0 : Int) < (l0.length : Int) := by omega
    obtain ⟨ad, e0, hx0⟩ := Kd.at_string HR0.out 0 p0 q0
    cases e0
    have qi : (0 < l0.length) = True := eq_true hlp
    (try rw [show ((0 : Int)).toNat = 0 from rfl] at hx0)
    (try rw [Addr.add_zero'] at hx0)
    have hx1 : ((w.alloc (.cells #[.int .u64 0] 28)).alloc (.cells #[.slice none 0 0] 73)).cell? ad = some (.string (rdOf ByteArray.empty l0 0)) := ((start_below w).cell (World.block_lt_of_cell? w _ hx0)).trans hx0
    replace q0 := eq_true q0
    obtain ⟨⟨ok1, st1, all1⟩, hst1, h⟩ := Option.bind_eq_some_iff.mp h
    have HST1 := hid hst1
    have HX0 := hid hx0
    clear hl hst1 hlp hx0
    cases ok1 with
    | false =>
      rw [if_neg (by simp)] at h
      unfold getFail at h
      simp only [Option.some.injEq, Prod.mk.injEq] at h
      obtain ⟨rfl, rfl, rfl, rfl⟩ := h
      go_enter Try.func55, Try.ntmps55
      go_wp2_with ((go_at_call 74; refine (step_calls (rdOf ByteArray.empty l0 0) false st1 all1 (w.heap.size + 1) w.heap.size (w.heap.size + 2) (by omega) (by omega) (by omega) [] (by simp) 0 w _ HST1.out (get_start w) (by simp) (start_below w) (by omega) (Nat.le_refl _)).mono ?_; rintro e w3 ⟨rfl, Av, cv, hg3, hb3, hz3, hl3⟩; have HGA := hid hg3; have HBW := hid hb3; have HZ3 := hid hz3; have HL3 := hid hl3; clear hg3 hb3 hz3 hl3; obtain ⟨hcA_, hcS_, hfS_⟩ := HGA.out.cells))
      refine bodyPost_ret (v := .tuple #[.int .u64 0, .string ⟨#[]⟩, .int .i64 0, .bool false]) ?_ rfl ⟨rfl, HBW.out.setCell (p := ⟨w.heap.size, 0, none⟩) (Nat.le_refl _) _⟩
      have h0 := run_load22 _ w.heap.size 0 (setCell_row _ w.heap.size 0 _ 28 (0, 0) _ HGA.out.stamp)
      simp [results, Try.results55, asAddr, h0]
    | true =>
      rw [if_pos rfl] at h
      obtain ⟨⟨tn, tr, tis⟩, htn, h⟩ := Option.bind_eq_some_iff.mp h
      have HTN := hid htn
      clear htn
      cases tis with
      | false =>
        rw [if_neg (by simp)] at h
        unfold getFail at h
        simp only [Option.some.injEq, Prod.mk.injEq] at h
        obtain ⟨rfl, rfl, rfl, rfl⟩ := h
        go_enter Try.func55, Try.ntmps55
        go_wp2_with (first
          | (go_at_call 74; refine (step_calls (rdOf ByteArray.empty l0 0) true st1 all1 (w.heap.size + 1) w.heap.size (w.heap.size + 2) (by omega) (by omega) (by omega) [] (by simp) 0 w _ HST1.out (get_start w) (by simp) (start_below w) (by omega) (Nat.le_refl _)).mono ?_; rintro e w3 ⟨rfl, Av, cv, hg3, hb3, hz3, hl3⟩; have HGA := hid hg3; have HBW := hid hb3; have HZ3 := hid hz3; have HL3 := hid hl3; clear hg3 hb3 hz3 hl3; obtain ⟨hcA_, hcS_, hfS_⟩ := HGA.out.cells)
          | (refine wpList_string_own rfl 73 9 (.tmp 27) rfl 5 Try.underlying73 Try.underlying5 Try.underlying9 (w.heap.size + 2) all1 _ rfl HGA.out.own ?_)
          | (go_at_call 57; refine (tally_TakeNum.calls (B all1) tn tr false _ HTN.out).mono ?_; rintro e w4 ⟨rfl, hd4⟩; have b4 := hd4.below; clear hd4; have n0_ := hid (GetV.below HGA.out b4); have n1_ := hid (below_step HBW.out b4); clear HGA HBW b4; have HGA := n0_; have HBW := n1_; clear n0_ n1_; obtain ⟨hcA_, hcS_, hfS_⟩ := HGA.out.cells))
        refine bodyPost_ret (v := .tuple #[.int .u64 0, .string ⟨#[]⟩, .int .i64 0, .bool false]) ?_ rfl ⟨rfl, HBW.out.setCell (p := ⟨w.heap.size, 0, none⟩) (Nat.le_refl _) _⟩
        have h0 := run_load22 _ w.heap.size 0 (setCell_row _ w.heap.size 0 _ 28 (0, 0) _ HGA.out.stamp)
        simp [results, Try.results55, asAddr, h0]
      | true =>
        rw [if_pos rfl] at h
        dsimp only at h
        by_cases hbig : tn > 98304
        · rw [if_pos hbig] at h
          unfold getFail at h
          simp only [Option.some.injEq, Prod.mk.injEq] at h
          obtain ⟨rfl, rfl, rfl, rfl⟩ := h
          have cb1 : decide ((98304 : Int) < tn) = true := decide_eq_true hbig
          clear hbig
          go_enter Try.func55, Try.ntmps55
          go_wp2_with (first
            | (go_at_call 74; refine (step_calls (rdOf ByteArray.empty l0 0) true st1 all1 (w.heap.size + 1) w.heap.size (w.heap.size + 2) (by omega) (by omega) (by omega) [] (by simp) 0 w _ HST1.out (get_start w) (by simp) (start_below w) (by omega) (Nat.le_refl _)).mono ?_; rintro e w3 ⟨rfl, Av, cv, hg3, hb3, hz3, hl3⟩; have HGA := hid hg3; have HBW := hid hb3; have HZ3 := hid hz3; have HL3 := hid hl3; clear hg3 hb3 hz3 hl3; obtain ⟨hcA_, hcS_, hfS_⟩ := HGA.out.cells)
            | (refine wpList_string_own rfl 73 9 (.tmp 27) rfl 5 Try.underlying73 Try.underlying5 Try.underlying9 (w.heap.size + 2) all1 _ rfl HGA.out.own ?_)
            | (go_at_call 57; refine (tally_TakeNum.calls (B all1) tn tr true _ HTN.out).mono ?_; rintro e w4 ⟨rfl, hd4⟩; have b4 := hd4.below; clear hd4; have n0_ := hid (GetV.below HGA.out b4); have n1_ := hid (below_step HBW.out b4); clear HGA HBW b4; have HGA := n0_; have HBW := n1_; clear n0_ n1_; obtain ⟨hcA_, hcS_, hfS_⟩ := HGA.out.cells))
          refine bodyPost_ret (v := .tuple #[.int .u64 0, .string ⟨#[]⟩, .int .i64 0, .bool false]) ?_ rfl ⟨rfl, HBW.out.setCell (p := ⟨w.heap.size, 0, none⟩) (Nat.le_refl _) _⟩
          have h0 := run_load22 _ w.heap.size 0 (setCell_row _ w.heap.size 0 _ 28 (0, 0) _ HGA.out.stamp)
          simp [results, Try.results55, asAddr, h0]
        · rw [if_neg hbig] at h
          have cb1 : decide ((98304 : Int) < tn) = false := decide_eq_false hbig
          have htn0 : 0 ≤ tn := (TakeNum_range HTN.out).1
          have hwn : wrap64 tn = tn := wrap64_in' _ (by omega) (by omega)
          have HB98 := hid hbig
          have HT0 := hid htn0
          clear hbig htn0
          obtain ⟨m, hm, h⟩ := Option.bind_eq_some_iff.mp h
          have HM := hid hm
          clear hm
          by_cases hmany : m > (l0.length : Int)
          · rw [if_pos hmany] at h
            unfold getFail at h
            simp only [Option.some.injEq, Prod.mk.injEq] at h
            obtain ⟨rfl, rfl, rfl, rfl⟩ := h
            have cb2 : decide ((l0.length : Int) < m) = true := decide_eq_true hmany
            clear hmany
            go_enter Try.func55, Try.ntmps55
            go_wp2_with (first
              | (go_at_call 74; refine (step_calls (rdOf ByteArray.empty l0 0) true st1 all1 (w.heap.size + 1) w.heap.size (w.heap.size + 2) (by omega) (by omega) (by omega) [] (by simp) 0 w _ HST1.out (get_start w) (by simp) (start_below w) (by omega) (Nat.le_refl _)).mono ?_; rintro e w3 ⟨rfl, Av, cv, hg3, hb3, hz3, hl3⟩; have HGA := hid hg3; have HBW := hid hb3; have HZ3 := hid hz3; have HL3 := hid hl3; clear hg3 hb3 hz3 hl3; obtain ⟨hcA_, hcS_, hfS_⟩ := HGA.out.cells)
              | (refine wpList_string_own rfl 73 9 (.tmp 27) rfl 5 Try.underlying73 Try.underlying5 Try.underlying9 (w.heap.size + 2) all1 _ rfl HGA.out.own ?_)
              | (go_at_call 57; refine (tally_TakeNum.calls (B all1) tn tr true _ HTN.out).mono ?_; rintro e w4 ⟨rfl, hd4⟩; have b4 := hd4.below; clear hd4; have n0_ := hid (GetV.below HGA.out b4); have n1_ := hid (below_step HBW.out b4); clear HGA HBW b4; have HGA := n0_; have HBW := n1_; clear n0_ n1_; obtain ⟨hcA_, hcS_, hfS_⟩ := HGA.out.cells)
              | (go_at_call 76; refine (sheaf_Many.calls 30 tn m _ HM.out).mono ?_; rintro e w5 ⟨rfl, b5⟩; have n0_ := hid (GetV.below HGA.out b5); have n1_ := hid (below_step HBW.out b5); clear HGA HBW b5; have HGA := n0_; have HBW := n1_; clear n0_ n1_; obtain ⟨hcA_, hcS_, hfS_⟩ := HGA.out.cells))
            refine bodyPost_ret (v := .tuple #[.int .u64 0, .string ⟨#[]⟩, .int .i64 0, .bool false]) ?_ rfl ⟨rfl, HBW.out.setCell (p := ⟨w.heap.size, 0, none⟩) (Nat.le_refl _) _⟩
            have h0 := run_load22 _ w.heap.size 0 (setCell_row _ w.heap.size 0 _ 28 (0, 0) _ HGA.out.stamp)
            simp [results, Try.results55, asAddr, h0]
          · rw [if_neg hmany] at h
            have cb2 : decide ((l0.length : Int) < m) = false := decide_eq_false hmany
            by_cases hm1 : 1 ≤ m ∧ m ≤ 10000
            · rw [if_pos hm1] at h
              obtain ⟨⟨ok2, st2, all2⟩, hst2, h⟩ := Option.bind_eq_some_iff.mp h
              obtain ⟨i9, hi9, hz9⟩ := Option.map_eq_some_iff.1 info9
              simp only [Prod.mk.injEq] at hz9
              obtain ⟨A2, hcut, hrd, hcl⟩ := print_mid_of (P := Try.prog) Value.string (⟨#[]⟩ : ByteArray) 22 9 .i64 .i64 Try.underlying22 hi9 hz9.2.1 (some ad) c0 l0 1 m (by decide) hm1.1 (by omega) HC0.out
              obtain ⟨L2, hL2⟩ : ∃ L2, L2 = (l0.take m.toNat).drop (1 : Int).toNat := ⟨_, rfl⟩
              rw [← hL2] at hcut hrd hcl
              have hlen2 : (L2.length : Int) = m - 1 := by rw [hL2, List.length_drop, List.length_take]; omega
              have HLEN2 := hid hlen2
              have HMM := hid hmany
              have HM1 := hid hm1
              have HL2 := hid hL2
              have HR2 := hid (Kd.C_of_reads (h1 := fun _ => rfl) (hrd w (Kd.reads_of_C HR0.out)))
              have HH := Aside0.mk h
              have HST2 := Aside0.mk hst2
              have e1 : (1 : Int).toNat = 1 := rfl
              clear hlen2 hmany hm1 hL2 hrd h hst2 hi9 hz9
              go_enter Try.func55, Try.ntmps55
              go_wp2_with (first
                | (go_at_call 74; refine (step_calls (rdOf ByteArray.empty l0 0) true st1 all1 (w.heap.size + 1) w.heap.size (w.heap.size + 2) (by omega) (by omega) (by omega) [] (by simp) 0 w _ HST1.out (get_start w) (by simp) (start_below w) (by omega) (Nat.le_refl _)).mono ?_; rintro e w3 ⟨rfl, Av, cv, hg3, hb3, hz3, hl3⟩; have HGA := hid hg3; have HBW := hid hb3; have HZ3 := hid hz3; have HL3 := hid hl3; clear hg3 hb3 hz3 hl3; obtain ⟨hcA_, hcS_, hfS_⟩ := HGA.out.cells)
                | (refine wpList_string_own rfl 73 9 (.tmp 27) rfl 5 Try.underlying73 Try.underlying5 Try.underlying9 (w.heap.size + 2) all1 _ rfl HGA.out.own ?_)
                | (go_at_call 57; refine (tally_TakeNum.calls (B all1) tn tr true _ HTN.out).mono ?_; rintro e w4 ⟨rfl, hd4⟩; have b4 := hd4.below; clear hd4; have n0_ := hid (GetV.below HGA.out b4); have n1_ := hid (below_step HBW.out b4); clear HGA HBW b4; have HGA := n0_; have HBW := n1_; clear n0_ n1_; obtain ⟨hcA_, hcS_, hfS_⟩ := HGA.out.cells)
                | (go_at_call 76; refine (sheaf_Many.calls 30 tn m _ HM.out).mono ?_; rintro e w5 ⟨rfl, b5⟩; have n0_ := hid (GetV.below HGA.out b5); have n1_ := hid (below_step HBW.out b5); clear HGA HBW b5; have HGA := n0_; have HBW := n1_; clear n0_ n1_; obtain ⟨hcA_, hcS_, hfS_⟩ := HGA.out.cells))
              go_loopg [3, 4, 5, 11, 54] L2.length (fun kq v3_ v4_ v5_ v11 v54 wr => ∃ (i : Int) (st : Int) (al : List UInt8), v4_ = .int .i64 m ∧ v54 = .int .i64 i ∧ Aside0 (0 ≤ i ∧ i ≤ (L2.length : Int)) ∧ Aside0 (ownAll (L2.drop i.toNat) st al = some (ok2, st2, all2)) ∧ Aside0 (∃ Av cv, GetV wr (w.heap.size + 1) w.heap.size (w.heap.size + 2) al st (.slice Av al.length cv)) ∧ Aside0 (Below w.heap.size w wr) ∧ Aside0 (al.length ≤ 48 * (i.toNat + 1)) ∧ Aside0 ((kq : Int) = (L2.length : Int) - i))
              case atStart => exact ⟨0, st1, all1, rfl, rfl, ⟨by decide, by omega⟩, ⟨by have := HST2.out; rw [show (0 : Int).toNat = 0 from rfl, List.drop_zero, HL2.out]; exact this⟩, ⟨_, _, HGA.out⟩, ⟨HBW.out⟩, ⟨by have := HL3.out; simpa using this⟩, ⟨by omega⟩⟩
              case round =>
                clear HGA HBW
                obtain ⟨i, st, al, rfl, rfl, HI, HOA, ⟨Av2, cv2, hgv⟩, HBW0, HAL, HKQ⟩ := hrel
                have HGA := hid hgv
                have HBW := hid HBW0.out
                clear hgv HBW0
                obtain ⟨hcA_, hcS_, hfS_⟩ := HGA.out.cells
                have hbase : (w.heap.size + 2) ≤ wr.heap.size := (Array.getElem?_eq_some_iff.1 HGA.out.all).1
                have HBASE := hid hbase
                clear hbase
                by_cases hi : i < (L2.length : Int)
                · have ci : decide (i < (L2.length : Int)) = true := decide_eq_true hi
                  have pi : 0 ≤ i := HI.out.1
                  obtain ⟨ad2, e2, hx2⟩ := Kd.at_string HR2.out i pi hi
                  cases e2
                  replace hx2 := (HBW.out.cell (World.block_lt_of_cell? w _ hx2)).trans hx2
                  have hdr := drop_rdOf L2 i pi hi
                  have hoa := HOA.out
                  rw [hdr, ownAll] at hoa
                  obtain ⟨⟨ok, st', al'⟩, hs, hrest⟩ := Option.bind_eq_some_iff.mp hoa
                  have hal9 : al.length ≤ 900000 := by have := HAL.out; have := HLEN2.out; have := HM1.out; omega
                  have HS := hid hs
                  have HAL9 := hid hal9
                  have HII := hid hi
                  replace pi := eq_true pi
                  have qi2 := eq_true hi
                  have hwi : wrap64 (i + 1) = i + 1 := wrap64_in' _ (by have := HI.out.1; omega) (by have := HLEN2.out; have := HM1.out; omega)
                  clear hdr hoa hs hal9 hi
                  cases ok with
                  | false =>
                    rw [if_neg (by simp)] at hrest
                    simp only [Option.some.injEq, Prod.mk.injEq] at hrest
                    obtain ⟨rfl, rfl, rfl⟩ := hrest
                    have h := HH.out
                    rw [if_neg (by simp)] at h
                    unfold getFail at h
                    simp only [Option.some.injEq, Prod.mk.injEq] at h
                    obtain ⟨rfl, rfl, rfl, rfl⟩ := h
                    clear HH
                    go_wp2_with ((go_at_call 74; refine (step_calls (rdOf ByteArray.empty L2 i) false st' al' (w.heap.size + 1) w.heap.size (w.heap.size + 2) (by omega) (by omega) (by omega) al HAL9.out st w _ HS.out HGA.out.at HBASE.out HBW.out (by omega) (Nat.le_refl _)).mono ?_; rintro e w7 ⟨rfl, Av7, cv7, hg7, hb7, hz7, hl7⟩; clear HGA HBW; have HGA := hid hg7; have HBW := hid hb7; have HLA := hid hl7; clear hg7 hb7 hz7 hl7; obtain ⟨hcA_, hcS_, hfS_⟩ := HGA.out.cells))
                    refine bodyPost_ret (v := .tuple #[.int .u64 0, .string ⟨#[]⟩, .int .i64 0, .bool false]) ?_ rfl ⟨rfl, HBW.out.setCell (p := ⟨w.heap.size, 0, none⟩) (Nat.le_refl _) _⟩
                    have h0 := run_load22 _ w.heap.size 0 (setCell_row _ w.heap.size 0 _ 28 (0, 0) _ HGA.out.stamp)
                    simp [results, Try.results55, asAddr, h0]
                  | true =>
                    rw [if_pos rfl] at hrest
                    have HREST := Aside0.mk hrest
                    clear hrest
                    go_wp2_with ((go_at_call 74; refine (step_calls (rdOf ByteArray.empty L2 i) true st' al' (w.heap.size + 1) w.heap.size (w.heap.size + 2) (by omega) (by omega) (by omega) al HAL9.out st w _ HS.out HGA.out.at HBASE.out HBW.out (by omega) (Nat.le_refl _)).mono ?_; rintro e w7 ⟨rfl, Av7, cv7, hg7, hb7, hz7, hl7⟩; clear HGA HBW; have HGA := hid hg7; have HBW := hid hb7; have HLA := hid hl7; clear hg7 hb7 hz7 hl7; obtain ⟨hcA_, hcS_, hfS_⟩ := HGA.out.cells))
                    go_roundg (gk - 1)
                    case measure => have := HII.out; have := HKQ.out; omega
                    case rel => exact ⟨i + 1, st', al', rfl, by rw [hwi], ⟨by have := HI.out; have := HII.out; omega⟩, ⟨by rw [show (i + 1).toNat = i.toNat + 1 by have := HI.out; omega]; exact HREST.out⟩, ⟨_, _, HGA.out⟩, ⟨HBW.out⟩, ⟨by have := HLA.out; have := HAL.out; have := HI.out; omega⟩, ⟨by have := HII.out; have := HKQ.out; omega⟩⟩
                · have ci : decide (i < (L2.length : Int)) = false := decide_eq_false hi
                  have hie : L2.drop i.toNat = [] := List.drop_eq_nil_of_le (by omega)
                  have hoa := HOA.out
                  rw [hie, ownAll] at hoa
                  simp only [Option.some.injEq, Prod.mk.injEq] at hoa
                  obtain ⟨rfl, rfl, rfl⟩ := hoa
                  have h := HH.out
                  rw [if_pos rfl] at h
                  obtain ⟨⟨ts, tr2, tis⟩, htt, h⟩ := Option.bind_eq_some_iff.mp h
                  obtain ⟨⟨pl, pe⟩, hpp, h⟩ := Option.bind_eq_some_iff.mp h
                  have HTT := hid htt
                  have HPP := hid hpp
                  dsimp only at h
                  clear HH hie htt hpp hi HOA
                  by_cases hpe : pe = 0
                  · rw [if_pos hpe] at h
                    obtain ⟨q, hq, h⟩ := Option.bind_eq_some_iff.mp h
                    have HQ := hid hq
                    have cpe : (pe != 0) = false := bne_eq_false_iff_eq.2 hpe
                    have cpe2 : (pe == 0) = true := beq_iff_eq.2 hpe
                    obtain ⟨i9, hi9, hz9⟩ := Option.map_eq_some_iff.1 info9
                    simp only [Prod.mk.injEq] at hz9
                    obtain ⟨hcut2, hrd2, hcl2⟩ := print_take_of (P := Try.prog) Value.string (⟨#[]⟩ : ByteArray) 22 9 .i64 Try.underlying22 hi9 hz9.2.1 (some ad) c0 l0 m (by have := HM1.out; omega) (by have := HMM.out; omega) HC0.out
                    obtain ⟨L3, hL3⟩ : ∃ L3, L3 = l0.take m.toNat := ⟨_, rfl⟩
                    rw [← hL3] at hcut2 hrd2 hcl2 HQ
                    have HR3 := hid (Kd.C_of_reads (h1 := fun _ => rfl) (hrd2 w (Kd.reads_of_C HR0.out)))
                    have HCL2 := hid hcl2
                    clear hrd2 hcl2 hL3 hi9 hz9 hq hpe
                    cases q with
                    | false =>
                      rw [if_neg (by simp)] at h
                      unfold getFail at h
                      simp only [Option.some.injEq, Prod.mk.injEq] at h
                      obtain ⟨rfl, rfl, rfl, rfl⟩ := h
                      go_wp2_with (first
                        | (refine wpList_string_own rfl 73 9 (.tmp 64) rfl 5 Try.underlying73 Try.underlying5 Try.underlying9 (w.heap.size + 2) al _ rfl HGA.out.own ?_)
                        | (go_at_call 59; refine (tally_TakeText.calls (B al) ts tr2 tis _ HTT.out).mono ?_; rintro e w8 ⟨rfl, hd8⟩; have b8 := hd8.below; clear hd8; have n0_ := hid (GetV.below HGA.out b8); have n1_ := hid (below_step HBW.out b8); clear HGA HBW b8; have HGA := n0_; have HBW := n1_; clear n0_ n1_; obtain ⟨hcA_, hcS_, hfS_⟩ := HGA.out.cells)
                        | (go_at_call 77; refine (sheaf_Put.calls st ts pl pe _ HPP.out).mono ?_; rintro e w9 ⟨v9, rfl, hR9, b9⟩; obtain ⟨Ap, cp, rfl⟩ := Kd.R_slice hR9; have HR9 := hid hR9; clear hR9; have n0_ := hid (GetV.below HGA.out b9); have n1_ := hid (below_step HBW.out b9); clear HGA HBW b9; have HGA := n0_; have HBW := n1_; clear n0_ n1_; obtain ⟨hcA_, hcS_, hfS_⟩ := HGA.out.cells)
                        | (go_at_call 78; refine (slices_Equal_string_string.calls 11000 _ _ pl _ _ L3 false _ (Kd.R_reads' HR9.out).2.2 (Kd.R_reads' HR9.out).2.1 (Kd.C_below HR3.out HBW.out) HCL2.out HQ.out).mono ?_; rintro e w10 ⟨rfl, hd10⟩; have b10 := hd10.below; clear hd10; have n0_ := hid (GetV.below HGA.out b10); have n1_ := hid (below_step HBW.out b10); clear HGA HBW b10; have HGA := n0_; have HBW := n1_; clear n0_ n1_; obtain ⟨hcA_, hcS_, hfS_⟩ := HGA.out.cells))
                      refine bodyPost_ret (v := .tuple #[.int .u64 0, .string ⟨#[]⟩, .int .i64 0, .bool false]) ?_ rfl ⟨rfl, HBW.out.setCell (p := ⟨w.heap.size, 0, none⟩) (Nat.le_refl _) _⟩
                      have h0 := run_load22 _ w.heap.size 0 (setCell_row _ w.heap.size 0 _ 28 (0, 0) _ HGA.out.stamp)
                      simp [results, Try.results55, asAddr, h0]
                    | true =>
                      rw [if_pos rfl] at h
                      simp only [Option.some.injEq, Prod.mk.injEq] at h
                      obtain ⟨rfl, rfl, rfl, rfl⟩ := h
                      go_wp2_with (first
                        | (refine wpList_string_own rfl 73 9 (.tmp 64) rfl 5 Try.underlying73 Try.underlying5 Try.underlying9 (w.heap.size + 2) al _ rfl HGA.out.own ?_)
                        | (go_at_call 59; refine (tally_TakeText.calls (B al) ts tr2 tis _ HTT.out).mono ?_; rintro e w8 ⟨rfl, hd8⟩; have b8 := hd8.below; clear hd8; have n0_ := hid (GetV.below HGA.out b8); have n1_ := hid (below_step HBW.out b8); clear HGA HBW b8; have HGA := n0_; have HBW := n1_; clear n0_ n1_; obtain ⟨hcA_, hcS_, hfS_⟩ := HGA.out.cells)
                        | (go_at_call 77; refine (sheaf_Put.calls st ts pl pe _ HPP.out).mono ?_; rintro e w9 ⟨v9, rfl, hR9, b9⟩; obtain ⟨Ap, cp, rfl⟩ := Kd.R_slice hR9; have HR9 := hid hR9; clear hR9; have n0_ := hid (GetV.below HGA.out b9); have n1_ := hid (below_step HBW.out b9); clear HGA HBW b9; have HGA := n0_; have HBW := n1_; clear n0_ n1_; obtain ⟨hcA_, hcS_, hfS_⟩ := HGA.out.cells)
                        | (go_at_call 78; refine (slices_Equal_string_string.calls 11000 _ _ pl _ _ L3 true _ (Kd.R_reads' HR9.out).2.2 (Kd.R_reads' HR9.out).2.1 (Kd.C_below HR3.out HBW.out) HCL2.out HQ.out).mono ?_; rintro e w10 ⟨rfl, hd10⟩; have b10 := hd10.below; clear hd10; have n0_ := hid (GetV.below HGA.out b10); have n1_ := hid (below_step HBW.out b10); clear HGA HBW b10; have HGA := n0_; have HBW := n1_; clear n0_ n1_; obtain ⟨hcA_, hcS_, hfS_⟩ := HGA.out.cells))
                      first
                        | refine bodyPost_ret (v := .tuple #[.int .u64 st, .string ts, .int .i64 m, .bool true]) ?_ rfl ⟨rfl, HBW.out⟩
                        | refine bodyPost_ret (v := .tuple #[.int .u64 st, .string ts, .int .i64 m, .bool true]) ?_ rfl ⟨rfl, HBW.out.setCell (p := ⟨w.heap.size, 0, none⟩) (Nat.le_refl _) _⟩
                      have h0 := run_load22 _ w.heap.size st (setCell_row _ w.heap.size 0 _ 28 (0, 0) _ HGA.out.stamp)
                      simp [results, Try.results55, asAddr, h0]
                  · rw [if_neg hpe] at h
                    unfold getFail at h
                    simp only [Option.some.injEq, Prod.mk.injEq] at h
                    obtain ⟨rfl, rfl, rfl, rfl⟩ := h
                    have cpe : (pe != 0) = true := bne_iff_ne.2 hpe
                    have cpe2 : (pe == 0) = false := beq_eq_false_iff_ne.2 hpe
                    clear hpe
                    go_wp2_with (first
                      | (refine wpList_string_own rfl 73 9 (.tmp 64) rfl 5 Try.underlying73 Try.underlying5 Try.underlying9 (w.heap.size + 2) al _ rfl HGA.out.own ?_)
                      | (go_at_call 59; refine (tally_TakeText.calls (B al) ts tr2 tis _ HTT.out).mono ?_; rintro e w8 ⟨rfl, hd8⟩; have b8 := hd8.below; clear hd8; have n0_ := hid (GetV.below HGA.out b8); have n1_ := hid (below_step HBW.out b8); clear HGA HBW b8; have HGA := n0_; have HBW := n1_; clear n0_ n1_; obtain ⟨hcA_, hcS_, hfS_⟩ := HGA.out.cells)
                      | (go_at_call 77; refine (sheaf_Put.calls st ts pl pe _ HPP.out).mono ?_; rintro e w9 ⟨v9, rfl, hR9, b9⟩; obtain ⟨Ap, cp, rfl⟩ := Kd.R_slice hR9; have HR9 := hid hR9; clear hR9; have n0_ := hid (GetV.below HGA.out b9); have n1_ := hid (below_step HBW.out b9); clear HGA HBW b9; have HGA := n0_; have HBW := n1_; clear n0_ n1_; obtain ⟨hcA_, hcS_, hfS_⟩ := HGA.out.cells))
                    refine bodyPost_ret (v := .tuple #[.int .u64 0, .string ⟨#[]⟩, .int .i64 0, .bool false]) ?_ rfl ⟨rfl, HBW.out.setCell (p := ⟨w.heap.size, 0, none⟩) (Nat.le_refl _) _⟩
                    have h0 := run_load22 _ w.heap.size 0 (setCell_row _ w.heap.size 0 _ 28 (0, 0) _ HGA.out.stamp)
                    simp [results, Try.results55, asAddr, h0]
            · rw [if_neg hm1] at h; cases h
end Go.Proofs.Ytnhgakmnkpjpdaa
