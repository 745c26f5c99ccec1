/- Chapter 05: a row, two slices of texts, and blocks beside them. -/
import Derived.Test.YthbbdilcclepoaaU3
import Derived.Test.YthbbdilcclepoaaS0
set_option maxRecDepth 100000
set_option linter.unusedVariables false
set_option linter.unusedSimpArgs false
namespace Go.Proofs.Ythbbdilcclepoaa
open Go Go.RowKit Go.Proofs.Ythbbdilcclepoaa.Q Go.Proofs.Ythbbdilcclepoaa.Pure Go.Proofs.YthbbdilcclepoaaW.PrintWords Go.Proofs.YthbbdilcclepoaaW.PrintLast Go.Proofs.YthbbdilcclepoaaW.PrintMore
structure Hf (w0 w : World) (F : List Nat) (D : Nat) (s : DS) (R : Nat) (tv : Value) (r : RS) (sv : Value) (xs : List ByteArray) (nv : Value) (ys : List ByteArray) (fz : List (Nat × Obj)) : Prop where
  rw : Rw w0 w [(D, s)] F 0 D s R tv r
  sure : w.ownsRow w0.heap.size 9 1 sv xs.length (strV xs)
  since : w.ownsRow w0.heap.size 9 1 nv ys.length (strV ys)
  mS : ∀ b ∈ sv.ownBlock.toList, b ∈ F ∧ b ∉ rwFp R tv
  mN : ∀ b ∈ nv.ownBlock.toList, b ∈ F ∧ b ∉ rwFp R tv ∧ b ∉ sv.ownBlock.toList
  box : ∀ p ∈ fz, w.heap[p.1]? = some p.2 ∧ p.1 ∈ F ∧ p.1 ∉ rwFp R tv ∧ p.1 ∉ nv.ownBlock.toList ∧ p.1 ∉ sv.ownBlock.toList ∧ w0.heap.size ≤ p.1
section
variable {w0 w w' : World} {F F' : List Nat} {D : Nat} {s s' : DS} {R R' : Nat} {tv tv' : Value} {r r' : RS} {sv sv' nv nv' : Value} {xs xs' ys ys' : List ByteArray} {fz fz' : List (Nat × Obj)}
theorem block_lt {W : World} {b : Nat} {o : Obj} (h : W.heap[b]? = some o) : b < W.heap.size := (Array.getElem?_eq_some_iff.1 h).1
theorem Hf.new (h : Hf w0 w F D s R tv r sv xs nv ys fz) (ho : Only [] w w') : Hf w0 w' F D s R tv r sv xs nv ys fz :=
  ⟨h.rw.new ho, ownsRow_kept h.sure ho (by simp), ownsRow_kept h.since ho (by simp), h.mS, h.mN, fun p hp => ⟨(ho.block p.1 (block_lt (h.box p hp).1) (by simp)).trans (h.box p hp).1, (h.box p hp).2⟩⟩
theorem Hf.less (h : Hf w0 w F D s R tv r sv xs nv ys fz) (hz : ∀ p ∈ fz', p ∈ fz) : Hf w0 w F D s R tv r sv xs nv ys fz' := ⟨h.rw, h.sure, h.since, h.mS, h.mN, fun p hp => h.box p (hz p hp)⟩
theorem Hf.wide (h : Hf w0 w F D s R tv r sv xs nv ys fz) (ho : Only [] w w') (G : List Nat) (hG : ∀ k ∈ G, w.heap.size ≤ k ∧ k < w'.heap.size) : Hf w0 w' (G ++ F) D s R tv r sv xs nv ys fz := by
  have h2 := h.new ho
  exact ⟨⟨h.rw.dr.grow [] _ ho (by simp) (fun k hk => (List.mem_append.1 hk).elim (fun e => .inr (hG k e)) .inl), h2.rw.hi, h2.rw.row, fun k hk => List.mem_append_right _ (h2.rw.fp k hk)⟩, h2.sure, h2.since, fun b hb => ⟨List.mem_append_right _ (h2.mS b hb).1, (h2.mS b hb).2⟩, fun b hb => ⟨List.mem_append_right _ (h2.mN b hb).1, (h2.mN b hb).2⟩, fun p hp => ⟨(h2.box p hp).1, List.mem_append_right _ (h2.box p hp).2.1, (h2.box p hp).2.2⟩⟩
theorem Hf.boxed (h : Hf w0 w F D s R tv r sv xs nv ys fz) (ho : Only [] w w') (b : Nat) (o : Obj) (hb : w'.heap[b]? = some o) (hl : w.heap.size ≤ b) : Hf w0 w' ([b] ++ F) D s R tv r sv xs nv ys ((b, o) :: fz) := by
  have h2 := h.wide ho [b] (fun k hk => by rw [List.mem_singleton.1 hk]; exact ⟨hl, block_lt hb⟩)
  refine ⟨h2.rw, h2.sure, h2.since, h2.mS, h2.mN, fun p hp => ?_⟩
  rcases List.mem_cons.1 hp with rfl | hp
  · refine ⟨hb, by simp, fun e => ?_, fun e => ?_, fun e => ?_, Nat.le_trans h.rw.dr.below.size hl⟩
    · have := (h.rw.row.fp_lt _ e).2
      have hl' : w.heap.size ≤ b := hl
      exact absurd this (by show ¬ b < w.heap.size; omega)
    · have := (ownsRow_lt h.since e).2
      exact absurd this (by show ¬ b < w.heap.size; omega)
    · have := (ownsRow_lt h.sure e).2
      exact absurd this (by show ¬ b < w.heap.size; omega)
  · exact h2.box p hp
theorem Hf.went (h : Hf w0 w F D s R tv r sv xs nv ys fz) (hw : Went w0 w w' [(D, s)] F 0 D s' R tv tv' r') : Hf w0 w' (tv'.ownBlock.toList ++ F) D s' R tv' r' sv xs nv ys fz := by
  have hfp : ∀ k, k ∈ F → k ∉ rwFp R tv → k ∉ rwFp R tv' := fun k hF hn e => by
    rcases List.mem_cons.1 e with rfl | e
    · exact hn (by simp [rwFp])
    · rcases hw.fresh k e with q | q
      · exact hn q
      · exact q hF
  refine ⟨hw.rw, ownsRow_at h.sure (fun k hk => hw.same k (h.mS k hk).1 (h.mS k hk).2), ownsRow_at h.since (fun k hk => hw.same k (h.mN k hk).1 (h.mN k hk).2.1), fun b hb => ⟨List.mem_append_right _ (h.mS b hb).1, hfp b (h.mS b hb).1 (h.mS b hb).2⟩, fun b hb => ⟨List.mem_append_right _ (h.mN b hb).1, hfp b (h.mN b hb).1 (h.mN b hb).2.1, (h.mN b hb).2.2⟩, fun p hp => ?_⟩
  obtain ⟨b1, b2, b3, b4⟩ := h.box p hp
  exact ⟨(hw.same p.1 b2 b3).trans b1, List.mem_append_right _ b2, hfp p.1 b2 b3, b4⟩
theorem Hf.ran (h : Hf w0 w F D s R tv r sv xs nv ys fz) (hd : Dr w0 w' ([(D, s)].set 0 (D, s')) F) (hs : Same F w w') : Hf w0 w' F D s' R tv r sv xs nv ys fz :=
  ⟨h.rw.went hd hs, ownsRow_at h.sure (fun k hk => hs k (h.mS k hk).1), ownsRow_at h.since (fun k hk => hs k (h.mN k hk).1), h.mS, h.mN, fun p hp => ⟨(hs p.1 (h.box p hp).2.1).trans (h.box p hp).1, (h.box p hp).2⟩⟩
theorem Hf.reopen (h : Hf w0 w F D s R tv r sv xs nv ys fz) (ho : Only [] w w') (hr : RowAt w.heap.size w' R' D tv' r') : Hf w0 w' (rwFp R' tv' ++ F) D s R' tv' r' sv xs nv ys fz := by
  have h2 := h.wide ho (rwFp R' tv') (fun k hk => hr.fp_lt k hk)
  have hfr : ∀ k, k < w.heap.size → k ∉ rwFp R' tv' := fun k hk e => by have := (hr.fp_lt k e).1; omega
  refine ⟨Rw.opened h.rw.dr h.rw.hi ho hr, h2.sure, h2.since, fun b hb => ⟨(h2.mS b hb).1, hfr b (ownsRow_lt h.sure hb).2⟩, fun b hb => ⟨(h2.mN b hb).1, hfr b (ownsRow_lt h.since hb).2, (h2.mN b hb).2.2⟩, fun p hp => ?_⟩
  obtain ⟨b1, b2, b3, b4⟩ := h2.box p hp
  exact ⟨b1, b2, hfr p.1 (block_lt (h.box p hp).1), b4⟩
/-- The slice of what is sure is another, told fresh. -/
theorem Hf.sureSet (h : Hf w0 w F D s R tv r sv xs nv ys fz) (ho : Only [] w w') (hv : w'.ownsRow w.heap.size 9 1 sv' xs'.length (strV xs')) : Hf w0 w' (sv'.ownBlock.toList ++ F) D s R tv r sv' xs' nv ys fz := by
  have h2 := h.wide ho sv'.ownBlock.toList (fun k hk => ownsRow_lt hv hk)
  have hfr : ∀ k, k < w.heap.size → k ∉ sv'.ownBlock.toList := fun k hk e => by have := (ownsRow_lt hv e).1; omega
  refine ⟨h2.rw, ownsRow_weaken hv h.rw.dr.below.size, h2.since, fun b hb => ⟨List.mem_append_left _ hb, fun e => ?_⟩, fun b hb => ⟨(h2.mN b hb).1, (h2.mN b hb).2.1, hfr b (ownsRow_lt h.since hb).2⟩, fun p hp => ?_⟩
  · exact hfr b (h.rw.row.fp_lt b e).2 hb
  · obtain ⟨b1, b2, b3, b4, b5, b6⟩ := h2.box p hp
    exact ⟨b1, b2, b3, b4, hfr p.1 (block_lt (h.box p hp).1), b6⟩
theorem Hf.sinceNil (h : Hf w0 w F D s R tv r sv xs nv ys fz) : Hf w0 w F D s R tv r sv xs (.slice none 0 0) [] fz :=
  ⟨h.rw, h.sure, World.ownsRow_nil _ _ _ _, h.mS, fun b hb => by simp [Value.ownBlock] at hb, fun p hp => ⟨(h.box p hp).1, (h.box p hp).2.1, (h.box p hp).2.2.1, by simp [Value.ownBlock], (h.box p hp).2.2.2.2⟩⟩
theorem Hf.sinceApp {g cap : Nat} {S : ByteArray} {ob : Obj} {W : World} (h : Hf w0 w F D s R tv r sv xs nv ys fz) (hown : W.ownsRow w0.heap.size 9 1 (.slice (some ⟨g, 0, none⟩) (ys.length + 1) cap) (ys.length + 1) (strV ys ++ [.string S])) (hg : (w.alloc ob).grownBy W nv.ownBlock)
    (hat : nv.ownBlock = some g ∨ g = w.heap.size + 1) (hgl : g < W.heap.size) : Hf w0 W ([g] ++ F) D s R tv r sv xs (.slice (some ⟨g, 0, none⟩) (ys.length + 1) cap) (ys ++ [S]) fz := by
  have ho : Only nv.ownBlock.toList w W := (Only.alloc nv.ownBlock.toList w ob).trans (Only.of_grown hg (fun k hk => by rw [hk]; simp)) (fun k hk _ => hk)
  have hdis : ∀ k ∈ rwFp R tv, k ∉ nv.ownBlock.toList := fun k h1 h2 => (h.mN k h2).2.1 h1
  have hge : ∀ k, k < w.heap.size → k ∉ nv.ownBlock.toList → k ≠ g := fun k hk hn e => by
    rcases hat with q | q
    · exact hn (by rw [q, e]; simp)
    · omega
  refine ⟨⟨h.rw.dr.grow nv.ownBlock.toList _ ho (fun k hkk => ⟨(h.mN k hkk).1, (ownsRow_lt h.since hkk).1⟩) (fun k hkk => ?_), h.rw.hi, h.rw.row.kept ho hdis, fun k hk => List.mem_append_right _ (h.rw.fp k hk)⟩, ownsRow_kept h.sure ho (fun k h1 h2 => (h.mN k h2).2.2 h1), ?_, fun b hb => ⟨List.mem_append_right _ (h.mS b hb).1, (h.mS b hb).2⟩, fun b hb => ?_, fun p hp => ?_⟩
  · rcases List.mem_append.1 hkk with e | e
    · rw [List.mem_singleton.1 e]
      rcases hat with q | q
      · exact .inl (h.mN g (by rw [q]; simp)).1
      · exact .inr ⟨by omega, hgl⟩
    · exact .inl e
  · rw [List.length_append, List.length_singleton, strV_snoc]
    exact hown
  · have hbg : b = g := by simpa [Value.ownBlock] using hb
    subst hbg
    refine ⟨by simp, fun e => ?_, fun e => ?_⟩
    · exact hge b (h.rw.row.fp_lt b e).2 (hdis b e) rfl
    · exact hge b (ownsRow_lt h.sure e).2 (fun q => (h.mN b q).2.2 e) rfl
  · obtain ⟨b1, b2, b3, b4, b5, b6⟩ := h.box p hp
    refine ⟨(ho.block p.1 (block_lt b1) b4).trans b1, List.mem_append_right _ b2, b3, fun e => ?_, b5, b6⟩
    have hbg : p.1 = g := by simpa [Value.ownBlock] using e
    exact hge p.1 (block_lt b1) b4 hbg
/-- A block beside is stored to. -/
theorem Hf.setBox {b : Nat} {o o' : Obj} (h : Hf w0 w F D s R tv r sv xs nv ys ((b, o) :: fz)) (ho : Only [b] w w') (hb : w'.heap[b]? = some o') (hne : ∀ p ∈ fz, p.1 ≠ b) : Hf w0 w' F D s R tv r sv xs nv ys ((b, o') :: fz) := by
  obtain ⟨b1, b2, b3, b4, b5, b6⟩ := h.box (b, o) (by simp)
  have hdis : ∀ k ∈ rwFp R tv, k ∉ [b] := fun k h1 h2 => b3 (by rw [List.mem_singleton.1 h2] at h1; exact h1)
  refine ⟨⟨h.rw.dr.grow [b] _ ho (fun k hk => by rw [List.mem_singleton.1 hk]; exact ⟨b2, b6⟩) (fun k hk => .inl hk), h.rw.hi, h.rw.row.kept ho hdis, h.rw.fp⟩, ownsRow_kept h.sure ho (fun k h1 h2 => b5 (by rw [List.mem_singleton.1 h2] at h1; exact h1)), ownsRow_kept h.since ho (fun k h1 h2 => b4 (by rw [List.mem_singleton.1 h2] at h1; exact h1)), h.mS, h.mN, fun p hp => ?_⟩
  rcases List.mem_cons.1 hp with rfl | hp
  · exact ⟨hb, b2, b3, b4, b5, b6⟩
  · obtain ⟨c1, c2⟩ := h.box p (by simp [hp])
    exact ⟨(ho.block p.1 (block_lt c1) (by simpa using hne p hp)).trans c1, c2⟩
end
end Go.Proofs.Ythbbdilcclepoaa
