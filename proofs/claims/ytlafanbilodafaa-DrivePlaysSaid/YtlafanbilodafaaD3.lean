/- A drive: Sync. -/
import Derived.Test.YtlafanbilodafaaD2
import Derived.StillTailTactics
set_option linter.unusedVariables false
set_option linter.unusedSimpArgs false
namespace Go.Proofs.Ytlafanbilodafaa
open Go Go.RowKit Go.Proofs.YtlafanbilodafaaW.PrintWords Go.Proofs.YtlafanbilodafaaW.PrintLast Go.Proofs.YtlafanbilodafaaW.PrintMore
attribute [local go_sem] Oper.semAt_some max2_int min2_int max_two min_two max_three min_three max_four min_four
section
variable {P : Program} {w : World} {ops : Array Oper} {rest : List Oper} {o : Oper} {a : Act} {Q : Exit → Act → World → Prop}
/-- 'copy' of elements of several cells. -/
theorem wpList_copy_rows (hgd : o.guard = none) (x y : Operand) (t t2 : TypeId) (ho : o.op = .call { callee := .builtin .copy, args := #[x, y], argTypes := #[t, t2] })
    (e : TypeId) (ht : P.underlying t = some (.slice e)) (i : TypeInfo) (hi : P.info? e = some i) (size : Nat) (hsz : i.size = size)
    (g off n c : Nat) (hx : a.eval x = .slice (some ⟨g, off, none⟩) n c) (ad : Addr) (m c2 : Nat) (hy : a.eval y = .slice (some ad) m c2)
    (te : TypeId) (cs : Array Value) (hg : w.heap[g]? = some (.cells cs te (0, 0))) (new : List Value) (hl : new.length = Nat.min m n * size) (hsrc : ∀ j v, new[j]? = some v → w.cell? (ad.add j) = some v)
    (hb : off + new.length ≤ cs.size) (h1 : ∀ v ∈ new, v.oneCell' = true)
    (h : ∀ w', Upd w w' g (.cells (cs.toList.take off ++ new ++ cs.toList.drop (off + new.length)).toArray te (0, 0)) → wpList P ops Q rest (a.put o.dst (goInt (Nat.min m n))) w') : wpList P ops Q (o :: rest) a w :=
  wpList_plain hgd fun K hK => by
    have hld := run_loadCells_list (P := P) w ad new hsrc
    have hst := run_storeCells_at P g off te new 0 cs w hg (by simpa using hb) h1
    rw [hl] at hld
    have hrun : (Builtin.copy_ #[t, t2] o.type #[.slice (some ⟨g, off, none⟩) n c, .slice (some ad) m c2]).run P w = .ok (goInt (Nat.min m n)) (w.setRow g (cs.toList.take off ++ new ++ cs.toList.drop (off + new.length)).toArray) := by
      simp only [Nat.add_zero] at hst
      simp [Builtin.copy_, run_underlying ht, Builtin.lenOf, Builtin.firstCells, sizeOf, typeInfo, hi, hsz, hld, hst]
    unfold Oper.wp execOp
    simp only [ho, resolve, invoke, builtin, Sem.run_bind, Sem.run_pure, Result.andThen_ok, List.map_toArray, List.map_cons, List.map_nil, hx, hy, hrun]
    exact hK _ _ (h _ (Upd.setRow w g _ cs te (0, 0) hg))
end
theorem Drv.ne {base : Nat} {w : World} {d : DV} {s : DS} (h : Drv base w d s) {gn cn gs cs : Nat} (hvn : d.vn = .slice (some ⟨gn, 0, none⟩) s.now.length cn) (hvs : d.vs = .slice (some ⟨gs, 0, none⟩) s.sure.length cs) :
    d.D ≠ gn ∧ d.D ≠ gs ∧ gn ≠ gs ∧ (∀ k, k ∈ d.vo.ownBlock.toList → k ≠ d.D ∧ k ≠ gn ∧ k ≠ gs) ∧ (∀ k, k ∈ d.fz.toList → k ≠ d.D ∧ k ≠ gn ∧ k ≠ gs ∧ k ∉ d.vo.ownBlock.toList) ∧ gn ∈ d.fp ∧ gs ∈ d.fp ∧ d.D ∈ d.fp := by
  have hnd := h.nodup
  have e : d.fp = d.D :: gn :: gs :: (d.vo.ownBlock.toList ++ d.fz.toList) := by unfold DV.fp; rw [hvn, hvs]; rfl
  rw [e] at hnd ⊢
  obtain ⟨a1, a2⟩ := List.nodup_cons.1 hnd
  obtain ⟨b1, b2⟩ := List.nodup_cons.1 a2
  obtain ⟨c1, c2⟩ := List.nodup_cons.1 b2
  obtain ⟨-, -, d3⟩ := List.nodup_append.1 c2
  simp only [List.mem_cons, List.mem_append, not_or] at a1 b1 c1
  refine ⟨a1.1, a1.2.1, b1.1, fun k hk => ⟨fun e => a1.2.2.1 (e ▸ hk), fun e => b1.2.1 (e ▸ hk), fun e => c1.1 (e ▸ hk)⟩,
    fun k hk => ⟨fun e => a1.2.2.2 (e ▸ hk), fun e => b1.2.2 (e ▸ hk), fun e => c1.2 (e ▸ hk), fun e => d3 k e k hk rfl⟩, by simp, by simp, by simp⟩
theorem rowC_length (l : List (List UInt8)) (h : ∀ x ∈ l, x.length = 64) : (rowC l).length = l.length * 64 := flat_length _ 64 l (fun x hx => by rw [List.length_map]; exact h x hx)
theorem rowC_one (l : List (List UInt8)) : ∀ v ∈ rowC l, v.oneCell' = true := by
  intro v hv
  obtain ⟨x, _, hx⟩ := List.mem_flatMap.1 hv
  exact cb_one x v hx
theorem src_at {w : World} {g off : Nat} {cur : Array Value} {ty : TypeId} {fr : Nat × Nat} (hg : w.heap[g]? = some (.cells cur ty fr)) {xs : List Value} {n : Nat} (h : cur.toList.take n = xs) (hn : n ≤ cur.size) :
    ∀ j v, xs[j]? = some v → w.cell? ((⟨g, 0, none⟩ : Addr).add j) = some v := by
  intro j v hj
  have hlt : j < n := by
    have := (List.getElem?_eq_some_iff.1 hj).1
    rw [← h, List.length_take] at this
    omega
  have hadd : (⟨g, 0, none⟩ : Addr).add j = ⟨g, j, none⟩ := by unfold Addr.add; split <;> simp_all
  rw [hadd, cell_of_row w g j cur ty fr hg, own_at h hn j hlt, hj]
def syncS (s : DS) : DS := { s with sure := s.now, opn := [] }
theorem nodup_vo {d : DV} (h : d.fp.Nodup) : ({ d with vo := .slice none 0 0 } : DV).fp.Nodup ∧ ∀ k, k ∈ ({ d with vo := .slice none 0 0 } : DV).fp → k ∈ d.fp := by
  have e : ({ d with vo := .slice none 0 0 } : DV).fp = d.D :: (d.vn.ownBlock.toList ++ (d.vs.ownBlock.toList ++ d.fz.toList)) := rfl
  rw [e]
  refine ⟨?_, ?_⟩
  · refine List.Nodup.sublist ?_ h
    unfold DV.fp
    exact List.Sublist.cons_cons _ (List.Sublist.append_left (List.Sublist.append_left (List.sublist_append_right _ _) _) _)
  · intro k hk
    unfold DV.fp
    simp only [List.mem_cons, List.mem_append] at hk ⊢
    rcases hk with h | h | h | h <;> simp [h]
/-- All is sure. -/
theorem Drv.synced {base : Nat} {w w3 : World} {d : DV} {s : DS} (h : Drv base w d s) {gn cn gs cs : Nat} {curs : Array Value} (hvn : d.vn = .slice (some ⟨gn, 0, none⟩) s.now.length cn) (hvs : d.vs = .slice (some ⟨gs, 0, none⟩) s.sure.length cs)
    (hgs : w.heap[gs]? = some (.cells curs 65 (0, 0))) (hbs : base ≤ gs) (hcs : s.sure.length ≤ cs) (hms : cs ≤ maxLen) (hsz : curs.size = cs * 64)
    (u : Upd w w3 gs (.cells (curs.toList.take 0 ++ rowC s.now ++ curs.toList.drop (0 + (rowC s.now).length)).toArray 65 (0, 0))) :
    Drv base (w3.setCell ⟨d.D, 2, none⟩ (.slice none 0 0)) { d with vo := .slice none 0 0 } (syncS s) ∧ Only d.fp w (w3.setCell ⟨d.D, 2, none⟩ (.slice none 0 0)) := by
  obtain ⟨n1, n2, n3, n4, n5, m1, m2, m3⟩ := h.ne hvn hvs
  have hlen := h.len
  have hrl := rowC_length s.now h.secN
  have ho1 : Only [gs] w w3 := .of_upd u (by simp)
  have ho2 : Only [gs, d.D] w (w3.setCell ⟨d.D, 2, none⟩ (.slice none 0 0)) := (ho1.mono (by simp)).trans (Only.setCell (fp := [d.D]) _ _ _ (by simp)) (by simp)
  have hobj : w3.heap[d.D]? = some (.cells #[d.vn, d.vs, d.vo, fzV d.fz] 61 (0, 0)) := (u.other _ n2).trans h.obj
  have hgs3 : (w3.setCell ⟨d.D, 2, none⟩ (.slice none 0 0)).heap[gs]? = some (.cells (rowC s.now ++ curs.toList.drop (rowC s.now).length).toArray 65 (0, 0)) := by
    rw [heap_setCell_other _ _ _ _ (Ne.symm n2), u.at_]; simp
  have hlist : ∀ k, k ∈ [gs, d.D] → k ∈ d.fp := by
    intro k hk
    simp only [List.mem_cons, List.not_mem_nil, or_false] at hk
    rcases hk with rfl | rfl
    · exact m2
    · exact m3
  refine ⟨⟨h.hD, (setCell_at hobj 2 _).trans rfl, ?_, ?_, World.ownsRow_nil _ _ _ _, ?_, (nodup_vo h.nodup).1, ?_, h.secN, h.secN, ?_⟩, ho2.mono hlist⟩
  · refine ownsRow_kept h.now ho2 (fun k hk e => ?_)
    rw [hvn] at hk
    have : k = gn := by simpa [Value.ownBlock, eq_comm] using hk
    subst this
    simp only [List.mem_cons, List.not_mem_nil, or_false] at e
    rcases e with e | e
    · exact n3 e
    · exact n1 e.symm
  · show (w3.setCell ⟨d.D, 2, none⟩ (.slice none 0 0)).ownsRow base 65 64 d.vs s.now.length (rowC s.now)
    refine ⟨hrl, .inr ⟨gs, cs, _, by rw [hvs, hlen.1], hbs, hgs3, by omega, hms, ?_, ?_⟩⟩
    · have e2 : ((rowC s.now ++ curs.toList.drop (rowC s.now).length).toArray).size = (rowC s.now).length + (curs.size - (rowC s.now).length) := by simp
      have : s.now.length * 64 ≤ cs * 64 := Nat.mul_le_mul_right _ (by omega)
      rw [e2, hsz, hrl]
      omega
    · rw [List.toList_toArray, ← hrl, List.take_left]
  · exact h.fuse.kept ho2 (fun k hk e => by
      have := n5 k hk
      simp only [List.mem_cons, List.not_mem_nil, or_false] at e
      rcases e with e | e
      · exact this.2.2.1 e
      · exact this.1 e)
  · exact ⟨rfl, hlen.2⟩
  · intro x hx; cases hx
theorem Sync1_calls {base : Nat} {w : World} {d : DV} {s : DS} (h : Drv base w d s) (b : Nat) (hbx : w.heap[b]? = some (.cells #[ptr d.D] 23 (0, 0))) (hbf : b ∉ d.fp) :
    Calls Try.prog 23 #[ptr b] w fun e w' => e = .returned (.tuple #[]) ∧ Drv base w' { d with vo := .slice none 0 0 } (syncS s) ∧ Only d.fp w w' := by
  obtain ⟨gn, capn, curn, hvn, hbn, hgn, hcn, hmn, hszn, hxn⟩ := ownsRow_slice h.now (by have := h.len; omega)
  obtain ⟨gs, caps, curs, hvs, hbs, hgs, hcs, hms, hszs, hxs⟩ := ownsRow_slice h.sure (by have := h.len; omega)
  obtain ⟨h0, h1, h2, -, f0, f1, f2, -⟩ := h.cells
  have HD := hid h
  have HSY := hid (fun w0 (hw : Drv base w0 d s) (hh : w0.heap[gs]? = some (.cells curs 65 (0, 0))) w3 u => hw.synced (w3 := w3) hvn hvs hh hbs hcs hms hszs u)
  have hb0 : w.cell? ⟨b, 0, none⟩ = some (.pointer (some ⟨d.D, 0, none⟩)) := cell_of_row w _ _ _ _ _ hbx
  have hrl := rowC_length s.now h.secN
  have HG := hid hgs
  have HL := hid (show (rowC s.now).length = Nat.min s.now.length s.sure.length * 64 by rw [h.len.1, hrl]; congr 1; exact (Nat.min_self _).symm)
  have HF := hid (show 0 + (rowC s.now).length ≤ curs.size by have := h.len; rw [hrl, hszs]; have : s.now.length * 64 ≤ caps * 64 := Nat.mul_le_mul_right _ (by omega); omega)
  have HSRC := hid (src_at (w := w.drew) (off := 0) hgn hxn (by rw [hszn]; exact Nat.mul_le_mul_right _ hcn))
  obtain ⟨ti, hti, htz, hts, -⟩ := info_three info65
  have HB := hid hbx
  have hne := (h.ne hvn hvs).2.1
  have HNE := hid hne
  have hbg : b ≠ gs := fun e => hbf (e ▸ (h.ne hvn hvs).2.2.2.2.2.2.1)
  have HBG := hid hbg
  have HO := hid h.obj
  rw [hvn] at h0
  rw [hvs] at h1
  unfold ptr
  clear hrl
  clear h hbx hvn hbn hgn hcn hmn hszn hxn hvs hbs hgs hcs hms hszs hxs hne hbg hbf
  go_enter Try.func23, Try.ntmps23
  go_wp2
  go_still_tail 8, (by kernel_rfl)
  change wpList _ _ _ _ _ w.drew
  refine wpList_copy_rows rfl (.tmp 4) (.tmp 8) 57 57 rfl 65 Try.underlying57 ti hti 64 hts gs 0 s.sure.length caps rfl ⟨gn, 0, none⟩ s.now.length capn rfl 65 curs HG.out (rowC s.now) HL.out HSRC.out HF.out (rowC_one _) ?_
  intro w3 u
  have HU := hid (HSY.out w.drew (HD.out.kept (Only.drew [] w) (by simp)) HG.out w3 u)
  have hb3 : w3.cell? ⟨b, 0, none⟩ = some (.pointer (some ⟨d.D, 0, none⟩)) := cell_of_row w3 _ _ _ _ _ ((u.other _ HBG.out).trans HB.out)
  have hD3 := (u.other _ HNE.out).trans HO.out
  have h23 : w3.cell? ⟨d.D, 2, none⟩ = some d.vo := (cell_of_row w3 _ _ _ _ _ hD3).trans rfl
  have f23 : w3.frozen? ⟨d.D, 2, none⟩ = false := frozen_of_row w3 _ _ _ _ hD3
  clear hD3 u h0 h1 h2 f0 f1 f2 hb0
  go_wp2
  go_end0
  exact ⟨rfl, HU.out.1, (Only.drew d.fp w).trans HU.out.2 (fun _ h _ => h)⟩
end Go.Proofs.Ytlafanbilodafaa
