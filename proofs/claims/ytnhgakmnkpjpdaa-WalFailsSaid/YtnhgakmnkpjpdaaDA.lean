import Derived.Test.YtnhgakmnkpjpdaaD9
import Derived.Test.YtnhgakmnkpjpdaaD4
import Derived.Deep.AppendLies
/- Drives side by side in memory, and blocks beside them: what each call does to all of them. -/
set_option maxRecDepth 100000
set_option linter.unusedVariables false
set_option linter.unusedSimpArgs false
namespace Go.Proofs.Ytnhgakmnkpjpdaa
open Go Go.RowKit Go.Proofs.YtnhgakmnkpjpdaaW.PrintWords Go.Proofs.YtnhgakmnkpjpdaaW.PrintLast Go.Proofs.YtnhgakmnkpjpdaaW.PrintMore
/-- Some blocks hold what they held. -/
def Same (F : List Nat) (w w' : World) : Prop := ∀ k ∈ F, w'.heap[k]? = w.heap[k]?
/-- The drives' blocks. -/
def Ds (w0 w : World) (l : List (Nat × DS)) (F : List Nat) (ds : List DV) : Prop := ds.length = l.length ∧ (∀ (i : Nat) (d : DV) (p : Nat × DS), ds[i]? = some d → l[i]? = some p → d.D = p.1 ∧ Drv w0.heap.size w d p.2) ∧
    (∀ (i j : Nat) (d d' : DV), i ≠ j → ds[i]? = some d → ds[j]? = some d' → ∀ k, k ∈ d.fp → k ∉ d'.fp) ∧ (∀ (i : Nat) (d : DV), ds[i]? = some d → ∀ k ∈ F, k ∉ d.fp)
/-- From w0 on some drives have been made, and other blocks beside them. -/
structure Dr (w0 w : World) (l : List (Nat × DS)) (F : List Nat) : Prop where
  below : Below w0.heap.size w0 w
  lt : ∀ k ∈ F, k < w.heap.size
  ex : ∃ ds : List DV, Ds w0 w l F ds
theorem Dr.start (w : World) : Dr w w [] [] := ⟨Below.refl _ _, (fun _ h => by cases h), [], rfl, (fun _ _ _ h => by simp at h), (fun _ _ _ _ _ h => by simp at h), (fun _ _ h => by simp at h)⟩
theorem Below.of_only {w0 w w' : World} {fp : List Nat} (h : Below w0.heap.size w0 w) (ho : Only fp w w') (hf : ∀ k ∈ fp, w0.heap.size ≤ k) : Below w0.heap.size w0 w' :=
  ⟨ho.os.trans h.os, ho.tape.trans h.tape, ho.output.trans h.output, Nat.le_trans h.size ho.size, fun k hk => (ho.block k (Nat.lt_of_lt_of_le hk h.size) (fun e => by have := hf k e; omega)).trans (h.block k hk)⟩
theorem Drv.weaken {b b' : Nat} {W : World} {d : DV} {s : DS} (h : Drv b W d s) (hb : b' ≤ b) : Drv b' W d s := by
  have own : ∀ {e : TypeId} {size : Nat} {v : Value} {n : Nat} {xs : List Value}, W.ownsRow b e size v n xs → W.ownsRow b' e size v n xs := fun {e size v n xs} hw => by
    refine ⟨hw.1, ?_⟩
    rcases hw.2 with h1 | ⟨g, cap, cur, h1, h2, h3⟩
    · exact .inl h1
    · exact .inr ⟨g, cap, cur, h1, Nat.le_trans hb h2, h3⟩
  refine ⟨Nat.le_trans hb h.hD, h.obj, own h.now, own h.sure, own h.opn, ?_, h.nodup, h.len, h.secN, h.secS, h.wr⟩
  have hf := h.fuse
  cases hz : d.fz <;> cases hk : s.fuse <;> rw [hz, hk] at hf
  · trivial
  · exact hf.elim
  · exact hf.elim
  · exact ⟨Nat.le_trans hb hf.1, hf.2⟩
/-- Something else goes on: blocks of F are written, others are made. -/
theorem Dr.grow {w0 w w' : World} {l : List (Nat × DS)} {F : List Nat} (h : Dr w0 w l F) (G F' : List Nat) (ho : Only G w w') (hG : ∀ k ∈ G, k ∈ F ∧ w0.heap.size ≤ k) (hF : ∀ k ∈ F', k ∈ F ∨ (w.heap.size ≤ k ∧ k < w'.heap.size)) : Dr w0 w' l F' := by
  obtain ⟨ds, h1, h2, h3, h4⟩ := h.ex
  refine ⟨Below.of_only h.below ho (fun k hk => (hG k hk).2), fun k hk => ?_, ds, h1, fun i d p hd hp => ?_, h3, fun i d hd k hk => ?_⟩
  · rcases hF k hk with e | e
    · exact Nat.lt_of_lt_of_le (h.lt k e) ho.size
    · exact e.2
  · obtain ⟨e, hdr⟩ := h2 i d p hd hp
    exact ⟨e, hdr.kept ho (fun k hk hg => h4 i d hd k (hG k hg).1 hk)⟩
  · obtain ⟨p, hp⟩ : ∃ p, l[i]? = some p := ⟨_, List.getElem?_eq_getElem (by rw [← h1]; exact (List.getElem?_eq_some_iff.1 hd).1)⟩
    rcases hF k hk with e | e
    · exact h4 i d hd k e
    · intro hkd
      have := ((h2 i d p hd hp).2.fp_lt k hkd).2
      omega
theorem Dr.new {w0 w w' : World} {l : List (Nat × DS)} {F : List Nat} (h : Dr w0 w l F) (ho : Only [] w w') : Dr w0 w' l F := h.grow [] F ho (by simp) (fun k hk => .inl hk)
/-- A drive goes on. -/
theorem Dr.went {w0 w w' : World} {l : List (Nat × DS)} {F : List Nat} (h : Dr w0 w l F) {i D : Nat} {s s' : DS} (hi : l[i]? = some (D, s)) {ds : List DV} (hds : Ds w0 w l F ds) (hg : ∀ d, ds[i]? = some d → Goes w0.heap.size w w' d s') : Dr w0 w' (l.set i (D, s')) F ∧ Same F w w' := by
  obtain ⟨h1, h2, h3, h4⟩ := hds
  have hil : i < l.length := (List.getElem?_eq_some_iff.1 hi).1
  obtain ⟨d, hd⟩ : ∃ d, ds[i]? = some d := ⟨_, List.getElem?_eq_getElem (by omega)⟩
  obtain ⟨e, hdr⟩ := h2 i d _ hd hi
  obtain ⟨d', e', hdr', ho, hfp⟩ := hg d hd
  have hF : ∀ k ∈ F, k ∉ d.fp := h4 i d hd
  have hsm : Same F w w' := fun k hk => ho.block k (h.lt k hk) (hF k hk)
  refine ⟨⟨Below.of_only h.below ho (fun k hk => (hdr.fp_lt k hk).1), fun k hk => Nat.lt_of_lt_of_le (h.lt k hk) ho.size, ds.set i d', ?_, fun j dj p hj hp => ?_, fun j j' dj dj' hne hj hj' k hk => ?_, fun j dj hj k hk => ?_⟩, hsm⟩
  · rw [List.length_set, List.length_set, h1]
  · rw [List.getElem?_set] at hj hp
    by_cases ej : i = j
    · subst ej
      rw [if_pos rfl, if_pos (by omega)] at hj
      rw [if_pos rfl, if_pos hil] at hp
      cases hj; cases hp
      exact ⟨e'.trans e, hdr'⟩
    · rw [if_neg ej] at hj hp
      obtain ⟨q1, q2⟩ := h2 j dj p hj hp
      exact ⟨q1, q2.kept ho (fun k hk => h3 j i dj d (Ne.symm ej) hj hd k hk)⟩
  · have low : ∀ {j : Nat} {dj : DV}, ds[j]? = some dj → ∀ k, k ∈ dj.fp → k < w.heap.size := fun {j dj} hj k hk => by
      obtain ⟨p, hp⟩ : ∃ p, l[j]? = some p := ⟨_, List.getElem?_eq_getElem (by rw [← h1]; exact (List.getElem?_eq_some_iff.1 hj).1)⟩
      exact ((h2 j dj p hj hp).2.fp_lt k hk).2
    rw [List.getElem?_set] at hj hj'
    by_cases ej : i = j
    · subst ej
      rw [if_pos rfl, if_pos (by omega)] at hj
      rw [if_neg hne] at hj'
      cases hj
      rcases hfp k hk with q | q
      · exact h3 i j' d dj' hne hd hj' k q
      · intro q'; have := low hj' k q'; omega
    · rw [if_neg ej] at hj
      by_cases ej' : i = j'
      · subst ej'
        rw [if_pos rfl, if_pos (by omega)] at hj'
        cases hj'
        intro q'
        rcases hfp k q' with q | q
        · exact h3 j i dj d (Ne.symm ej) hj hd k hk q
        · have := low hj k hk; omega
      · rw [if_neg ej'] at hj'
        exact h3 j j' dj dj' hne hj hj' k hk
  · rw [List.getElem?_set] at hj
    by_cases ej : i = j
    · subst ej
      rw [if_pos rfl, if_pos (by omega)] at hj
      cases hj
      intro q
      rcases hfp k q with q | q
      · exact hF k hk q
      · have := h.lt k hk; omega
    · rw [if_neg ej] at hj
      exact h4 j dj hj k hk
/-- One more drive, all of it in new blocks. -/
theorem Dr.more {w0 w w' : World} {l : List (Nat × DS)} {F : List Nat} (h : Dr w0 w l F) (d : DV) (s : DS) (hd : Drv w.heap.size w' d s) (ho : Only [] w w') : Dr w0 w' (l ++ [(d.D, s)]) F ∧ Same F w w' := by
  obtain ⟨ds, h1, h2, h3, h4⟩ := h.ex
  have hn := h.new ho
  have low : ∀ {j : Nat} {dj : DV}, ds[j]? = some dj → ∀ k, k ∈ dj.fp → k < w.heap.size := fun {j dj} hj k hk => by
    obtain ⟨p, hp⟩ : ∃ p, l[j]? = some p := ⟨_, List.getElem?_eq_getElem (by rw [← h1]; exact (List.getElem?_eq_some_iff.1 hj).1)⟩
    exact ((h2 j dj p hj hp).2.fp_lt k hk).2
  have snoc : ∀ {j : Nat} {dj : DV}, (ds ++ [d])[j]? = some dj → (j < ds.length ∧ ds[j]? = some dj) ∨ (j = ds.length ∧ dj = d) := fun {j dj} hj => by
    by_cases hlt : j < ds.length
    · rw [List.getElem?_append_left hlt] at hj; exact .inl ⟨hlt, hj⟩
    · rw [List.getElem?_append_right (by omega)] at hj
      by_cases e : j - ds.length = 0
      · rw [e] at hj; simp at hj; exact .inr ⟨by omega, hj.symm⟩
      · rw [List.getElem?_eq_none (by simp; omega)] at hj; cases hj
  refine ⟨⟨hn.below, hn.lt, ds ++ [d], by simp [h1], fun j dj p hj hp => ?_, fun j j' dj dj' hne hj hj' k hk => ?_, fun j dj hj k hk => ?_⟩, fun k hk => ho.block k (h.lt k hk) (by simp)⟩
  · rcases snoc hj with ⟨hlt, hj⟩ | ⟨rfl, rfl⟩
    · rw [List.getElem?_append_left (by omega)] at hp
      obtain ⟨q1, q2⟩ := h2 j dj p hj hp
      exact ⟨q1, q2.kept ho (by simp)⟩
    · rw [h1, List.getElem?_append_right (by omega), Nat.sub_self] at hp
      simp at hp
      subst hp
      exact ⟨rfl, hd.weaken h.below.size⟩
  · rcases snoc hj with ⟨hlt, hj2⟩ | ⟨ej, ed⟩
    · rcases snoc hj' with ⟨hlt', hj2'⟩ | ⟨ej', ed'⟩
      · exact h3 j j' dj dj' hne hj2 hj2' k hk
      · intro q; rw [ed'] at q; have := low hj2 k hk; have := (hd.fp_lt k q).1; omega
    · rcases snoc hj' with ⟨hlt', hj2'⟩ | ⟨ej', ed'⟩
      · intro q; rw [ed] at hk; have := low hj2' k q; have := (hd.fp_lt k hk).1; omega
      · exact absurd (by rw [ej, ej']) hne
  · rcases snoc hj with ⟨hlt, hj⟩ | ⟨rfl, rfl⟩
    · exact h4 j dj hj k hk
    · intro q; have := h.lt k hk; have := (hd.fp_lt k q).1; omega
/-- Fewer drives are looked at. -/
theorem Dr.drop {w0 w : World} {l : List (Nat × DS)} {F : List Nat} (h : Dr w0 w l F) (n : Nat) : Dr w0 w (l.take n) F := by
  obtain ⟨ds, h1, h2, h3, h4⟩ := h.ex
  have tk : ∀ {α : Type} {l : List α} {j : Nat} {x : α}, (l.take n)[j]? = some x → l[j]? = some x := fun {α l j x} hx => by
    rw [List.getElem?_take] at hx
    split at hx
    · exact hx
    · cases hx
  exact ⟨h.below, h.lt, ds.take n, by rw [List.length_take, List.length_take, h1], fun i d p hd hp => h2 i d p (tk hd) (tk hp), fun i j d d' hne hd hd' => h3 i j d d' hne (tk hd) (tk hd'), fun i d hd => h4 i d (tk hd)⟩
theorem Dr.tail {w0 w : World} {p : Nat × DS} {l : List (Nat × DS)} {F : List Nat} (h : Dr w0 w (p :: l) F) : Dr w0 w l F := by
  obtain ⟨ds, h1, h2, h3, h4⟩ := h.ex
  cases ds with
  | nil => simp at h1
  | cons d ds =>
    exact ⟨h.below, h.lt, ds, by simpa using h1, fun i d' p' hd hp => h2 (i + 1) d' p' (by simpa using hd) (by simpa using hp), fun i j d1 d2 hne hd hd' => h3 (i + 1) (j + 1) d1 d2 (by omega) (by simpa using hd) (by simpa using hd'), fun i d1 hd => h4 (i + 1) d1 (by simpa using hd)⟩
theorem Dr.less {w0 w : World} {l : List (Nat × DS)} {F : List Nat} (h : Dr w0 w l F) (F' : List Nat) (hF : ∀ k ∈ F', k ∈ F) : Dr w0 w l F' := by
  obtain ⟨ds, h1, h2, h3, h4⟩ := h.ex
  exact ⟨h.below, fun k hk => h.lt k (hF k hk), ds, h1, h2, h3, fun i d hd k hk => h4 i d hd k (hF k hk)⟩
theorem Dr.at {w0 w : World} {l : List (Nat × DS)} {F : List Nat} (h : Dr w0 w l F) {i D : Nat} {s : DS} (hi : l[i]? = some (D, s)) : ∃ d, d.D = D ∧ Drv w0.heap.size w d s := by
  obtain ⟨ds, h1, h2, -, -⟩ := h.ex
  have hil : i < l.length := (List.getElem?_eq_some_iff.1 hi).1
  obtain ⟨d, hd⟩ : ∃ d, ds[i]? = some d := ⟨_, List.getElem?_eq_getElem (by omega)⟩
  exact ⟨d, h2 i d _ hd hi⟩
/-! The calls -/
section
variable {w0 w : World} {l : List (Nat × DS)} {F : List Nat} {i D : Nat} {s : DS}
theorem Dr.act (h : Dr w0 w l F) (hi : l[i]? = some (D, s)) {f : FuncId} {args : Array Value} {R : Ending → Prop} {s' : DS} (hc : ∀ d, d.D = D → Drv w0.heap.size w d s → Calls Try.prog f args w fun e w' => R e ∧ Goes w0.heap.size w w' d s') :
    Calls Try.prog f args w fun e w' => R e ∧ Dr w0 w' (l.set i (D, s')) F ∧ Same F w w' := by
  obtain ⟨ds, hds⟩ := h.ex
  have hil : i < l.length := (List.getElem?_eq_some_iff.1 hi).1
  obtain ⟨d, hd⟩ : ∃ d, ds[i]? = some d := ⟨_, List.getElem?_eq_getElem (by rw [hds.1]; exact hil)⟩
  obtain ⟨e, hdr⟩ := hds.2.1 i d _ hd hi
  refine (hc d e hdr).mono fun en w' ⟨hr, hg⟩ => ⟨hr, h.went hi hds (fun d' hd' => ?_)⟩
  rw [hd] at hd'
  cases hd'
  exact hg
theorem Dr.write (h : Dr w0 w l F) (hi : l[i]? = some (D, s)) (hm : s.opn.length < 1000000) (n : Int) (t : ByteArray) :
    Calls Try.prog 8 #[ptr D, .int .i64 n, .string t] w fun e w' => e = .returned (.int .i64 (writeR s n t).2) ∧ Dr w0 w' (l.set i (D, (writeR s n t).1)) F ∧ Same F w w' :=
  h.act hi fun d e hd => by rw [← e]; exact Write_goes hd h.below.size hm n t
theorem Dr.sync (h : Dr w0 w l F) (hi : l[i]? = some (D, s)) :
    Calls Try.prog 70 #[ptr D] w fun e w' => e = .returned (.int .i64 (syncR s).2) ∧ Dr w0 w' (l.set i (D, (syncR s).1)) F ∧ Same F w w' :=
  h.act hi fun d e hd => by rw [← e]; exact Sync_goes hd
theorem Dr.fuse (h : Dr w0 w l F) (hi : l[i]? = some (D, s)) (n : Int) (hn : n < 9223372036854775808) :
    Calls Try.prog 24 #[ptr D, .int .i64 n] w fun e w' => e = .returned (.tuple #[]) ∧ Dr w0 w' (l.set i (D, fuseS s n)) F ∧ Same F w w' :=
  h.act hi fun d e hd => by rw [← e]; exact Fuse_goes hd h.below.size n hn
theorem Dr.crash (h : Dr w0 w l F) (hi : l[i]? = some (D, s)) (hm : s.opn.length < 1000000) (keep torn at_ : Int) (hk : 0 ≤ keep ∧ keep < 18446744073709551616) :
    Calls Try.prog 25 #[ptr D, .agg #[.int .u64 keep, .int .i64 torn, .int .i64 at_]] w fun e w' => e = .returned (.tuple #[]) ∧ Dr w0 w' (l.set i (D, crashS s keep torn at_)) F ∧ Same F w w' :=
  h.act hi fun d e hd => by rw [← e]; exact Crash_goes hd h.below.size hm keep torn at_ hk
theorem Dr.read (h : Dr w0 w l F) (hi : l[i]? = some (D, s)) (n : Int) :
    Calls Try.prog 10 #[ptr D, .int .i64 n] w fun e w' => e = .returned (.tuple #[.string (readS s n), .int .i64 (hasE s.now.length n)]) ∧ w' = w := by
  obtain ⟨d, e, hd⟩ := h.at hi
  rw [← e]; exact Read_calls hd n
theorem Dr.size (h : Dr w0 w l F) (hi : l[i]? = some (D, s)) : Calls Try.prog 32 #[ptr D] w fun e w' => e = .returned (.int .i64 s.now.length) ∧ w' = w := by
  obtain ⟨d, e, hd⟩ := h.at hi
  rw [← e]; exact Size_calls hd
/-- A drive is made, or copied. -/
def Given (w0 w' : World) (l : List (Nat × DS)) (s : DS) (F : List Nat) (w : World) (v : Value) : Prop := ∃ D, v = ptr D ∧ Dr w0 w' (l ++ [(D, s)]) F ∧ Same F w w'
theorem Dr.make (h : Dr w0 w l F) (n : Nat) (h8 : 8 ≤ n) (hn : n ≤ 4096) :
    Calls Try.prog 5 #[.int .i64 (n : Int)] w fun e w' => ∃ v, e = .returned (.tuple #[v, .int .i64 0]) ∧ Given w0 w' l (newS n) F w v :=
  (New_calls w n h8 hn).mono fun e w' ⟨v, he, d, hv, hd, ho⟩ => ⟨v, he, d.D, hv, h.more d _ hd ho⟩
end
end Go.Proofs.Ytnhgakmnkpjpdaa

/- A struct in memory with rows of its own: what a store, an append, a clearing do to it. General, over any program. -/
set_option linter.unusedVariables false
set_option linter.unusedSimpArgs false
namespace Go.Proofs.Ytnhgakmnkpjpdaa
open Go Go.RowKit
structure RowV where
  v : Value
  e : Nat
  size : Nat
  n : Nat
  xs : List Value
def RowV.fp (r : RowV) : List Nat := r.v.ownBlock.toList
def obFp (O : Nat) (rows : List RowV) : List Nat := O :: rows.flatMap RowV.fp
structure Ob (base : Nat) (W : World) (O ty : Nat) (cs : Array Value) (rows : List RowV) : Prop where
  hO : base ≤ O
  obj : W.heap[O]? = some (.cells cs ty (0, 0))
  own : ∀ r ∈ rows, W.ownsRow base r.e r.size r.v r.n r.xs
  nd : (obFp O rows).Nodup
section
variable {base : Nat} {w w' : World} {O ty : Nat} {cs : Array Value} {rows : List RowV}
theorem Ob.fp_lt (h : Ob base w O ty cs rows) : ∀ k ∈ obFp O rows, base ≤ k ∧ k < w.heap.size := by
  intro k hk
  rcases List.mem_cons.1 hk with rfl | hk
  · exact ⟨h.hO, (Array.getElem?_eq_some_iff.1 h.obj).1⟩
  · obtain ⟨r, hr, hkr⟩ := List.mem_flatMap.1 hk
    exact ownsRow_lt (h.own r hr) hkr
theorem Ob.kept (h : Ob base w O ty cs rows) {fp : List Nat} (ho : Only fp w w') (hd : ∀ k ∈ obFp O rows, k ∉ fp) : Ob base w' O ty cs rows :=
  ⟨h.hO, (ho.block O (h.fp_lt O (by simp [obFp])).2 (hd O (by simp [obFp]))).trans h.obj,
    fun r hr => ownsRow_kept (h.own r hr) ho (fun k hk => hd k (List.mem_cons_of_mem _ (List.mem_flatMap.2 ⟨r, hr, hk⟩))), h.nd⟩
theorem Ob.new (h : Ob base w O ty cs rows) (ho : Only [] w w') : Ob base w' O ty cs rows := h.kept ho (by simp)
theorem ownsRow_at {base : Nat} {e : TypeId} {size : Nat} {v : Value} {n : Nat} {xs : List Value} (h : w.ownsRow base e size v n xs) (hs : ∀ k, k ∈ v.ownBlock.toList → w'.heap[k]? = w.heap[k]?) : w'.ownsRow base e size v n xs := by
  refine ⟨h.1, ?_⟩
  rcases h.2 with hn | ⟨g, cap, cur, rfl, hb, hgg, rest⟩
  · exact .inl hn
  · exact .inr ⟨g, cap, cur, rfl, hb, (hs g (by simp [Value.ownBlock])).trans hgg, rest⟩
theorem Ob.same (h : Ob base w O ty cs rows) (hs : ∀ k ∈ obFp O rows, w'.heap[k]? = w.heap[k]?) : Ob base w' O ty cs rows :=
  ⟨h.hO, (hs O (by simp [obFp])).trans h.obj, fun r hr => ownsRow_at (h.own r hr) (fun k hk => hs k (List.mem_cons_of_mem _ (List.mem_flatMap.2 ⟨r, hr, hk⟩))), h.nd⟩
theorem Ob.cell (h : Ob base w O ty cs rows) (j : Nat) : w.cell? ⟨O, j, none⟩ = cs[j]? := cell_of_row w _ _ _ _ _ h.obj
theorem Ob.free (h : Ob base w O ty cs rows) (j : Nat) : w.frozen? ⟨O, j, none⟩ = false := frozen_of_row w _ _ _ _ h.obj
theorem Ob.nd_rows (h : Ob base w O ty cs rows) : O ∉ rows.flatMap RowV.fp ∧ (rows.flatMap RowV.fp).Nodup := List.nodup_cons.1 h.nd
theorem Ob.ne (h : Ob base w O ty cs rows) {r : RowV} (hr : r ∈ rows) {k : Nat} (hk : k ∈ r.fp) : k ≠ O := fun e => h.nd_rows.1 (e ▸ List.mem_flatMap.2 ⟨r, hr, hk⟩)
/-- A cell of the struct is stored to. -/
theorem Ob.set (h : Ob base w O ty cs rows) (j : Nat) (x : Value) : Ob base (w.setCell ⟨O, j, none⟩ x) O ty (cs.setIfInBounds j x) rows ∧ Only [O] w (w.setCell ⟨O, j, none⟩ x) := by
  have ho : Only [O] w (w.setCell ⟨O, j, none⟩ x) := Only.setCell _ _ _ (by simp)
  exact ⟨⟨h.hO, heap_setCell_same w O j cs ty x h.obj, fun r hr => ownsRow_kept (h.own r hr) ho (fun k hk e => h.ne hr hk (by simpa using e)), h.nd⟩, ho⟩
theorem flat_split (a b : List RowV) (r : RowV) : (a ++ r :: b).flatMap RowV.fp = a.flatMap RowV.fp ++ (r.fp ++ b.flatMap RowV.fp) := by simp [List.flatMap_append, List.flatMap_cons]
/-- Different rows lie in different blocks. -/
theorem Ob.apart {a b : List RowV} {r : RowV} (h : Ob base w O ty cs (a ++ r :: b)) {x : RowV} (hx : x ∈ a ∨ x ∈ b) {k : Nat} (hk : k ∈ x.fp) : k ∉ r.fp := by
  have hn := h.nd_rows.2
  rw [flat_split] at hn
  obtain ⟨-, h2, h3⟩ := List.nodup_append.1 hn
  obtain ⟨-, -, h4⟩ := List.nodup_append.1 h2
  intro hr
  rcases hx with hx | hx
  · exact h3 k (List.mem_flatMap.2 ⟨x, hx, hk⟩) k (List.mem_append_left _ hr) rfl
  · exact h4 k hr k (List.mem_flatMap.2 ⟨x, hx, hk⟩) rfl
/-- A row is another one, in the same block or in one that is new. -/
theorem Ob.turn {a b : List RowV} {r r' : RowV} (h : Ob base w O ty cs (a ++ r :: b)) (ho : Only r.fp w w') (hr' : w'.ownsRow base r'.e r'.size r'.v r'.n r'.xs) (hf : ∀ k, k ∈ r'.fp → k ∈ r.fp ∨ w.heap.size ≤ k) : Ob base w' O ty cs (a ++ r' :: b) := by
  have hO : O ∉ r.fp := fun e => h.ne (r := r) (by simp) e rfl
  refine ⟨h.hO, (ho.block O (h.fp_lt O (by simp [obFp])).2 hO).trans h.obj, fun x hx => ?_, ?_⟩
  · have hold : ∀ {y : RowV}, (y ∈ a ∨ y ∈ b) → w'.ownsRow base y.e y.size y.v y.n y.xs := fun {y} hy =>
      ownsRow_kept (h.own y (by rcases hy with hy | hy <;> simp [hy])) ho (fun k hk => h.apart hy hk)
    rcases List.mem_append.1 hx with hx | hx
    · exact hold (.inl hx)
    · rcases List.mem_cons.1 hx with rfl | hx
      · exact hr'
      · exact hold (.inr hx)
  · have hlow := h.fp_lt
    have hn := h.nd
    unfold obFp at *
    rw [flat_split] at hn hlow ⊢
    obtain ⟨n1, n2⟩ := List.nodup_cons.1 hn
    obtain ⟨n3, n4, n5⟩ := List.nodup_append.1 n2
    obtain ⟨n6, n7, n8⟩ := List.nodup_append.1 n4
    have hl : ∀ k, k ∈ O :: (a.flatMap RowV.fp ++ (r.fp ++ b.flatMap RowV.fp)) → k < w.heap.size := fun k hk => (hlow k hk).2
    have hr1 : r'.fp.Nodup := by unfold RowV.fp; cases r'.v.ownBlock <;> simp
    have key : ∀ k, k ∈ r'.fp → k ≠ O ∧ k ∉ a.flatMap RowV.fp ∧ k ∉ b.flatMap RowV.fp := by
      intro k hk
      rcases hf k hk with q | q
      · exact ⟨fun e => hO (e ▸ q), fun e => n5 k e k (List.mem_append_left _ q) rfl, fun e => n8 k q k e rfl⟩
      · refine ⟨fun e => ?_, fun e => ?_, fun e => ?_⟩
        · have := hl k (by simp [e]); omega
        · have := hl k (List.mem_cons_of_mem _ (List.mem_append_left _ e)); omega
        · have := hl k (List.mem_cons_of_mem _ (List.mem_append_right _ (List.mem_append_right _ e))); omega
    refine List.nodup_cons.2 ⟨?_, List.nodup_append.2 ⟨n3, List.nodup_append.2 ⟨hr1, n7, fun x hx y hy e => (key x hx).2.2 (e ▸ hy)⟩, ?_⟩⟩
    · intro e
      rcases List.mem_append.1 e with e | e
      · exact n1 (List.mem_append_left _ e)
      · rcases List.mem_append.1 e with e | e
        · exact (key O e).1 rfl
        · exact n1 (List.mem_append_right _ (List.mem_append_right _ e))
    · intro x hx y hy e
      rcases List.mem_append.1 hy with hy | hy
      · exact (key y hy).2.1 (e ▸ hx)
      · exact n5 x hx y (List.mem_append_right _ hy) e
theorem obFp_turn {O : Nat} {a b : List RowV} {r r' : RowV} {m : Nat} (hf : ∀ k, k ∈ r'.fp → k ∈ r.fp ∨ m ≤ k) : ∀ k, k ∈ obFp O (a ++ r' :: b) → k ∈ obFp O (a ++ r :: b) ∨ m ≤ k := by
  intro k hk
  unfold obFp at *
  rw [flat_split] at hk ⊢
  simp only [List.mem_cons, List.mem_append] at hk ⊢
  rcases hk with e | e | e | e
  · exact .inl (.inl e)
  · exact .inl (.inr (.inl e))
  · rcases hf k e with q | q
    · exact .inl (.inr (.inr (.inl q)))
    · exact .inr q
  · exact .inl (.inr (.inr (.inr e)))
theorem fp_mem {O : Nat} {a b : List RowV} {r : RowV} {k : Nat} (hk : k ∈ r.fp) : k ∈ obFp O (a ++ r :: b) := by
  unfold obFp; rw [flat_split]; simp [hk]
/-- Something is appended to a row, out of a block that is laid for it. -/
theorem Ob.appended {a b : List RowV} {r : RowV} (h : Ob base w O ty cs (a ++ r :: b)) {ob : Obj} {g cap : Nat} {news : List Value} {n' : Nat} (hown : w'.ownsRow base r.e r.size (.slice (some ⟨g, 0, none⟩) n' cap) n' (r.xs ++ news))
    (hg : (w.alloc ob).grownBy w' r.v.ownBlock) (hat : r.v.ownBlock = some g ∨ g = w.heap.size + 1) :
    Ob base w' O ty cs (a ++ ⟨.slice (some ⟨g, 0, none⟩) n' cap, r.e, r.size, n', r.xs ++ news⟩ :: b) ∧ Only (obFp O (a ++ r :: b)) w w' ∧
      ∀ k, k ∈ obFp O (a ++ ⟨.slice (some ⟨g, 0, none⟩) n' cap, r.e, r.size, n', r.xs ++ news⟩ :: b) → k ∈ obFp O (a ++ r :: b) ∨ w.heap.size ≤ k := by
  have ho : Only r.fp w w' := ((Only.alloc [] w ob).mono (by simp)).trans (Only.of_grown hg (fun k hk => by unfold RowV.fp; rw [hk]; simp)) (fun _ h _ => h)
  have hf : ∀ k, k ∈ (⟨.slice (some ⟨g, 0, none⟩) n' cap, r.e, r.size, n', r.xs ++ news⟩ : RowV).fp → k ∈ r.fp ∨ w.heap.size ≤ k := by
    intro k hk
    have e : k = g := by simpa [RowV.fp, Value.ownBlock, eq_comm] using hk
    subst e
    rcases hat with e | e
    · exact .inl (by unfold RowV.fp; rw [e]; simp)
    · exact .inr (by omega)
  exact ⟨h.turn ho hown hf, ho.mono (fun k hk => fp_mem hk), obFp_turn hf⟩
/-- A cell of a row is stored to. -/
theorem Ob.stored {a b : List RowV} {r : RowV} (h : Ob base w O ty cs (a ++ r :: b)) {g cap : Nat} (hv : r.v = .slice (some ⟨g, 0, none⟩) r.n cap) (j : Nat) (u : Value) :
    Ob base (w.setCell ⟨g, j, none⟩ u) O ty cs (a ++ ⟨r.v, r.e, r.size, r.n, r.xs.set j u⟩ :: b) ∧ Only (obFp O (a ++ r :: b)) w (w.setCell ⟨g, j, none⟩ u) := by
  have hr := h.own r (by simp)
  rw [hv] at hr
  have hs := World.ownsRow.stored (w := w) hr j u
  have hg : g ∈ r.fp := by unfold RowV.fp; rw [hv]; simp [Value.ownBlock]
  have ho : Only r.fp w (w.setCell ⟨g, j, none⟩ u) := Only.setCell _ _ _ hg
  exact ⟨h.turn (r' := ⟨r.v, r.e, r.size, r.n, r.xs.set j u⟩) ho (by show (w.setCell _ _).ownsRow base r.e r.size r.v r.n _; rw [hv]; exact hs.1) (fun k hk => .inl hk), ho.mono (fun k hk => fp_mem hk)⟩
end
end Go.Proofs.Ytnhgakmnkpjpdaa
