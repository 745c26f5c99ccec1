/- Package sheaf: the contracts of pieces and Put, by walking them. No condition but that the text is not too long. -/
import Derived.Test.YtknmbhllinbcjaaQ1
import Derived.Test.YtknmbhllinbcjaaL3
import Derived.RangeFuncOwn
import Derived.RangeFuncCalls
import Derived.RangeFuncLeaves
import Derived.TacticsIn
import Derived.RegionIn
import Derived.OwnWalkIn
import Derived.LoopIn
import Derived.BigFrameIn
set_option linter.unusedVariables false
set_option linter.unusedSimpArgs false
namespace Go.Proofs.Ytknmbhllinbcjaa
open Go Go.RowKit Go.Proofs.YtknmbhllinbcjaaW.PrintWords Go.Proofs.YtknmbhllinbcjaaW.PrintLast Go.Proofs.YtknmbhllinbcjaaW.PrintMore
attribute [local go_sem] Oper.semAt_some max2_int min2_int max_two min_two max_three min_three max_four min_four
theorem pieces_calls (b : ByteArray) (w : World) :
    Calls Try.prog 20 #[.string b] w fun e w' => e = .returned (.func (.func 39) #[] #[.pointer (some ⟨w.heap.size, 0, none⟩)]) ∧ w' = w.alloc (.cells #[.string b] 9) := by
  go_enter Try.func20, Try.ntmps20
  go_wp2
  go_ret
  exact ⟨rfl, rfl⟩
/-- The j-th piece of some bytes. -/
def pieceAt (L : List UInt8) (j : Nat) : ByteArray := B ((L.drop (48 * j)).take 48)
def piecesTo (L : List UInt8) (j : Nat) : List ByteArray := (List.range j).map (pieceAt L)
def piecesL (L : List UInt8) : List ByteArray := piecesTo L ((L.length + 47) / 48)
theorem piecesTo_succ (L : List UInt8) (j : Nat) : piecesTo L (j + 1) = piecesTo L j ++ [pieceAt L j] := by unfold piecesTo; rw [List.range_succ, List.map_append]; rfl
/-- A box that holds a string. -/
def BoxS (W : World) (g : Nat) (s : ByteArray) : Prop := W.heap[g]? = some (.cells #[.string s] 9 (0, 0))
def boxLen (g : Nat) (W : World) : Nat := match W.cell? ⟨g, 0, none⟩ with | some (.string s) => s.size | _ => 0
theorem BoxS.cell {W : World} {g : Nat} {s : ByteArray} (h : BoxS W g s) : W.cell? ⟨g, 0, none⟩ = some (.string s) ∧ W.frozen? ⟨g, 0, none⟩ = false := by
  unfold BoxS at h
  constructor <;> simp [World.cell?, World.frozen?, h]
theorem BoxS.len {W : World} {g : Nat} {s : ByteArray} (h : BoxS W g s) : boxLen g W = s.size := by unfold boxLen; rw [h.cell.1]
theorem BoxS.set {W : World} {g : Nat} {s : ByteArray} (h : BoxS W g s) (s' : ByteArray) : BoxS (W.setCell ⟨g, 0, none⟩ (.string s')) g s' := setCell_row W g 0 _ 9 (0, 0) (.string s') h
set_option maxRecDepth 100000 in
set_option maxHeartbeats 2000000 in
theorem pieces_in (n l g : Nat) (L : List UInt8) (hL : L.length < 9223372036854775807) (J : List ByteArray → World → Prop) (W : World)
    (hJ : ∀ pre W1 v, J pre W1 → J pre (W1.setCell ⟨g, 0, none⟩ v))
    (hY : ∀ j W1, 48 * j < L.length → J (piecesTo L j) W1 → BoxS W1 g (B (L.drop (48 * j))) → YieldAt Fence.wide (n - 1) Try.prog l #[.string (pieceAt L j)] W1 fun e W' => e = .returned (.bool true) ∧ J (piecesTo L j ++ [pieceAt L j]) W' ∧ BoxS W' g (B (L.drop (48 * j))))
    (h0 : J [] W) (hb : BoxS W g (B L)) :
    CallsIn Fence.wide n Try.prog 39 #[.func (.yield l) #[] #[], .pointer (some ⟨g, 0, none⟩)] W fun e W' => (∃ v, e = .returned v) ∧ J (piecesL L) W' := by
  refine callsIn_of_wp Try.func39 rfl trivial ?_ rfl
  simp only [Try.ntmps39, List.size_toArray, List.length_cons, List.length_nil, Nat.reduceAdd, Nat.reduceSub, Array.replicate_succ, Array.replicate_zero, List.push_toArray, List.append_toArray, List.nil_append, List.cons_append]
  gi_wp2
  gi_loopw [3] (fun v3 wr => ∃ j : Nat, Aside0 (48 * j < L.length + 48) ∧ Aside0 (BoxS wr g (B (L.drop (48 * j)))) ∧ Aside0 (J (piecesTo L j) wr)) (fun _ wr => boxLen g wr)
  case atStart => exact ⟨0, ⟨by omega⟩, ⟨hb⟩, ⟨h0⟩⟩
  case round =>
    obtain ⟨j, HJ, HB, HI⟩ := hrel
    obtain ⟨S, hS⟩ : ∃ S, S = B (L.drop (48 * j)) := ⟨_, rfl⟩
    rw [← hS] at HB
    obtain ⟨hc, hf⟩ := HB.out.cell
    have hsz : S.size = L.length - 48 * j := by rw [hS, B_size, List.length_drop]
    by_cases h1 : 48 * j < L.length
    · have c0 : (0 < S.size) = True := eq_true (by omega)
      have hn : 48 * (j + 1) < L.length + 48 := by omega
      have hnx : S.size ≤ 48 → 48 * (j + 1) ≥ L.length := by omega
      by_cases h48 : S.size ≤ 48
      · have hx : S = pieceAt L j := by
          rw [hS]
          unfold pieceAt
          rw [List.take_of_length_le (by rw [List.length_drop]; omega)]
        have HY := hid (hY j wr h1 HI.out (by rw [← hS]; exact HB.out))
        rw [← hx] at HY
        obtain ⟨f1, t1, a1, b1, hy1, hR1⟩ := HY.out
        have HR1 := hid hR1
        have H1 := hid h1
        have HS := hid hS
        have HX := hid hx
        have HN := hid hn
        have HSZ := hid hsz
        have HN48 := hid h48
        clear hR1 HY hx hS h1 hn hnx hsz
        gi_wp2
        all_goals try (exfalso; omega)
        refine ⟨fun hh => absurd hh (by decide), HR1.out.mono ?_⟩
        rintro e wx ⟨rfl, hJx, hBx⟩
        have hBx2 : BoxS wx g S := by rw [HS.out]; exact hBx
        obtain ⟨hcx, hfx⟩ := hBx2.cell
        gi_wp2
        have hd : L.drop (48 * (j + 1)) = [] := List.drop_eq_nil_of_le (by have := HSZ.out; omega)
        refine ⟨⟨j + 1, ⟨HN.out⟩, ⟨?_⟩, ⟨?_⟩⟩, ?_⟩
        · rw [hd]; exact hBx2.set _
        · rw [piecesTo_succ]
          refine hJ _ _ _ ?_
          rw [← HX.out]
          exact hJx
        · rw [(hBx2.set _).len, HB.out.len]
          have := HSZ.out
          have := H1.out
          show 0 < S.size
          omega
      · have hx : S.extract 0 48 = pieceAt L j := by
          rw [hS, B_extract]
          rfl
        have HY := hid (hY j wr h1 HI.out (by rw [← hS]; exact HB.out))
        rw [← hx] at HY
        obtain ⟨f1, t1, a1, b1, hy1, hR1⟩ := HY.out
        have HR1 := hid hR1
        have H1 := hid h1
        have HS := hid hS
        have HX := hid hx
        have HN := hid hn
        have HSZ := hid hsz
        have hgt : 48 < S.size := by omega
        have hgi : (48 : Int) ≤ (S.size : Int) := by omega
        clear hR1 HY hx hS h1 hn hnx hsz h48
        gi_wp2
        all_goals try (exfalso; omega)
        refine ⟨fun hh => absurd hh (by decide), HR1.out.mono ?_⟩
        rintro e wx ⟨rfl, hJx, hBx⟩
        have hBx2 : BoxS wx g S := by rw [HS.out]; exact hBx
        obtain ⟨hcx, hfx⟩ := hBx2.cell
        gi_wp2
        have hext : S.extract 48 S.size = B (L.drop (48 * (j + 1))) := by
          have h := HS.out
          rw [h, B_size, B_extract, List.drop_drop, List.take_of_length_le (by rw [List.length_drop, List.length_drop]; omega)]
          congr 2
        refine ⟨⟨j + 1, ⟨HN.out⟩, ⟨?_⟩, ⟨?_⟩⟩, ?_⟩
        · rw [← hext]; exact hBx2.set _
        · rw [piecesTo_succ]
          refine hJ _ _ _ ?_
          rw [← HX.out]
          exact hJx
        · rw [(hBx2.set _).len, HB.out.len, hext, B_size, List.length_drop]
          have := HSZ.out
          omega
    · have c0 : (0 < S.size) = False := eq_false (by omega)
      have hj : j = (L.length + 47) / 48 := by have := HJ.out; omega
      have HJJ := hid hj
      clear hj h1 hsz hS
      gi_wp2
      go_end0
      exact ⟨⟨_, rfl⟩, by unfold piecesL; rw [← HJJ.out]; exact HI.out⟩
theorem BoxS.lt {W : World} {g : Nat} {s : ByteArray} (h : BoxS W g s) : g < W.heap.size := (Array.getElem?_eq_some_iff.1 h).1
/-- 'for p := range pieces(b) { .. }': the caller's word for what holds between two rounds (it abides what is no cells, and the iterator's own box), and one walk of the body. -/
theorem wpIn_range_pieces {g : Operand} {ps : Array Tmp} {assign body : Code} {Q : Exit → Act → World → Prop} {a : Act} {w : World} (n gb : Nat) (L : List UInt8) (hL : L.length < 9223372036854775807)
    (hg : a.eval g = .func (.func 39) #[] #[.pointer (some ⟨gb, 0, none⟩)]) (eg : ∀ args w, (callFunc 39 args).run Try.prog w = .ok (.enter 39 args) w) (hbx : BoxS w gb (B L)) (hps : ps.size = 1)
    (I : List ByteArray → World → Prop)
    (hIp : ∀ s W l o o', I s W → W.heap[l]? = some o → o.isCells = false → w.heap.size ≤ l → I s (W.putObj l o'))
    (hIa : ∀ s W o, I s W → I s (W.alloc o))
    (hIg : ∀ s W v, I s W → I s (W.setCell ⟨gb, 0, none⟩ v))
    (h0 : I [] w) (a₁ : ByteArray → Act)
    (hassign : ∀ (l : Nat) (x : ByteArray) (W : World) (K : Act → World → Prop), K (a₁ x) W →
      assign.wpIn (Fence.wide.inRound l) (n - 1 - 1) Try.prog (Exit.then K (fun _ _ _ => False)) { tmps := (ps.zip #[.string x]).foldl (fun t (p, v) => t.setIfInBounds p v) a.tmps, defers := [] } W)
    (hbody : ∀ (l j : Nat) (W : World), 48 * j < L.length → I (piecesTo L j) W → BoxS W gb (B (L.drop (48 * j))) → body.wpIn (Fence.wide.inRound l) (n - 1 - 1) Try.prog
      (fun e _ W' => e = .normal ∧ KeepsOthers W W' ∧ W'.heap[gb]? = W.heap[gb]? ∧ I (piecesTo L j ++ [pieceAt L j]) W') (a₁ (pieceAt L j)) W)
    (hdone : ∀ (D : Nat) (W : World), w.heap.size ≤ D → I (piecesL L) W → W.heap[D]? = some (.deferred (some [])) → Q .normal { a with defers := { target := .collected D, args := #[] } :: a.defers } W) :
    (Code.rangeFunc g ps assign body).wpIn Fence.wide n Try.prog Q a w := by
  refine wpIn_rangeFunc ?_
  intro fn hfn
  have hgb := hbx.lt
  obtain ⟨rec, hrec⟩ : ∃ rec : LoopState → Option Code → Loop, rec = fun st pe => { state := st, pending := pe, fn, tmps := a.tmps, params := ps, assign, body, defers := w.heap.size } := ⟨_, rfl⟩
  obtain ⟨W1, hW1⟩ : ∃ W1, (w.alloc (.deferred (some []))).alloc (.loop (rec .ready none)) = W1 := ⟨_, rfl⟩
  have hL1 : W1.heap[w.heap.size + 1]? = some (.loop (rec .ready none)) := by
    rw [← hW1]; have := World.alloc_heap_new (w.alloc (.deferred (some []))) (.loop (rec .ready none)); rwa [World.size_alloc] at this
  have hK1 : W1.heap[w.heap.size]? = some (.deferred (some [])) := by
    rw [← hW1]; exact (Below.heap_alloc _ _ _ (by simp)).trans (World.alloc_heap_new w _)
  have hB1 : BoxS W1 gb (B L) := by
    rw [← hW1]; exact (Below.heap_alloc _ _ gb (by simp; omega)).trans ((Below.heap_alloc _ _ gb hgb).trans hbx)
  have hI1 : I [] W1 := by rw [← hW1]; exact hIa _ _ _ (hIa _ _ _ h0)
  refine ⟨w.heap.size + 1, [{ target := .collected w.heap.size, args := #[] }], W1, { target := .fn (.func 39) #[.pointer (some ⟨gb, 0, none⟩)], args := #[.func (.yield (w.heap.size + 1)) #[] #[]] }, W1, 39,
    #[.func (.yield (w.heap.size + 1)) #[] #[]] ++ #[.pointer (some ⟨gb, 0, none⟩)], W1, ?_, ?_, ?_, ?_, fun hh => absurd hh (by decide), ?_⟩
  · rw [← hW1, hrec]; exact run_enterLoop_outer _ _ _ _ _
  · simp only [resolve, hg]
    simp [go_sem]
  · intro f' hf'; trivial
  · simp [invoke, go_sem, eg]
  · refine CallsIn.mono (pieces_in (n - 1) (w.heap.size + 1) gb L hL
      (fun pre W => I pre W ∧ W.heap[w.heap.size + 1]? = some (.loop (rec .ready none)) ∧ W.heap[w.heap.size]? = some (.deferred (some [])))
      W1 ?_ ?_ ⟨hI1, hL1, hK1⟩ hB1) ?_
    · rintro pre W v ⟨hi, hl, hk⟩
      exact ⟨hIg _ _ _ hi, (Below.heap_setCell W ⟨gb, 0, none⟩ v (w.heap.size + 1) (by show w.heap.size + 1 ≠ gb; omega)).trans hl, (Below.heap_setCell W ⟨gb, 0, none⟩ v w.heap.size (by show w.heap.size ≠ gb; omega)).trans hk⟩
    · rintro j W hjL ⟨hi, hl, hk⟩ hbj
      have hlt : w.heap.size + 1 < W.heap.size := (Array.getElem?_eq_some_iff.1 hl).1
      have hy := run_yield (P := Try.prog) (args := #[.string (pieceAt L j)]) hl (by rw [hrec]; simp [hps])
      rw [hrec] at hy
      refine ⟨fn, _, assign, body, hy, roundIn_of_wpIn hfn (hassign _ _ W _ ⟨_, run_beginRound hl (by rw [hrec]), ?_⟩)⟩
      have hl2 : (W.putObj (w.heap.size + 1) (.loop { rec .ready none with state := .busy })).heap[w.heap.size + 1]? = some (.loop { rec .ready none with state := .busy }) := World.putObj_heap_same hlt
      have hk2 : (W.putObj (w.heap.size + 1) (.loop { rec .ready none with state := .busy })).heap[w.heap.size]? = some (.deferred (some [])) := (World.putObj_heap_other (by omega)).trans hk
      have hb2 : BoxS (W.putObj (w.heap.size + 1) (.loop { rec .ready none with state := .busy })) gb (B (L.drop (48 * j))) := (World.putObj_heap_other (by omega)).trans hbj
      refine wpIn_mono (hbody _ j _ hjL (hIp _ _ _ _ _ hi hl rfl (by omega)) hb2) ?_
      rintro e a3 W3 ⟨rfl, hk3, hg3, hi3⟩
      have hl3 := hk3.same _ _ hl2 rfl
      have hend := run_endRound (P := Try.prog) none hl3
      have hlt3 := (Array.getElem?_eq_some_iff.1 hl3).1
      refine ⟨_, _, hend, rfl, ⟨hIp _ _ _ _ _ hi3 hl3 rfl (by omega), ?_, (World.putObj_heap_other (by omega)).trans (hk3.same _ _ hk2 rfl)⟩, (World.putObj_heap_other (by omega)).trans (hg3.trans hb2)⟩
      rw [World.putObj_heap_same hlt3, hrec]
      rfl
    · rintro e W2 ⟨⟨v, rfl⟩, hi, hl, hk⟩
      refine ⟨none, _, ?_, hdone w.heap.size _ (Nat.le_refl _) (hIp _ _ _ _ (.loop { rec .ready none with state := .exhausted }) hi hl rfl (by omega)) ((World.putObj_heap_other (by omega)).trans hk)⟩
      have := run_endLoop (P := Try.prog) hl (by rw [hrec]; simp)
      rw [this, hrec]
end Go.Proofs.Ytknmbhllinbcjaa
