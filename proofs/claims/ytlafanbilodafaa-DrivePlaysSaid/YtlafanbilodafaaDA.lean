/- Drives side by side in memory, and blocks beside them: what each call does to all of them. -/
import Derived.Test.YtlafanbilodafaaD9
set_option linter.unusedVariables false
set_option linter.unusedSimpArgs false
namespace Go.Proofs.Ytlafanbilodafaa
open Go Go.RowKit Go.Proofs.YtlafanbilodafaaW.PrintWords Go.Proofs.YtlafanbilodafaaW.PrintLast Go.Proofs.YtlafanbilodafaaW.PrintMore
/-- Some blocks hold what they held. -/
def Same (F : List Nat) (w w' : World) : Prop := ∀ k ∈ F, w'.heap[k]? = w.heap[k]?
/-- The drives' blocks. -/
def Ds (w0 w : World) (l : List (Nat × DS)) (F : List Nat) (ds : List DV) : Prop := ds.length = l.length ∧ (∀ (i : Nat) (d : DV) (p : Nat × DS), ds[i]? = some d → l[i]? = some p → d.D = p.1 ∧ Drv w0.heap.size w d p.2) ∧
    (∀ (i j : Nat) (d d' : DV), i ≠ j → ds[i]? = some d → ds[j]? = some d' → ∀ k, k ∈ d.fp → k ∉ d'.fp) ∧ (∀ (i : Nat) (d : DV), ds[i]? = some d → ∀ k ∈ F, k ∉ d.fp)
/-- From w0 on some drives have been made, and other blocks beside them. -/
structure Dr (w0 w : World) (l : List (Nat × DS)) (F : List Nat) : Prop where
  below : Below w0.heap.size w0 w
  lt : ∀ k ∈ F, k < w.heap.size
  ex : ∃ ds : List DV, Ds w0 w l F ds
theorem Dr.start (w : World) : Dr w w [] [] := ⟨Below.refl _ _, (fun _ h => by cases h), [], rfl, (fun _ _ _ h => by simp at h), (fun _ _ _ _ _ h => by simp at h), (fun _ _ h => by simp at h)⟩
theorem Below.of_only {w0 w w' : World} {fp : List Nat} (h : Below w0.heap.size w0 w) (ho : Only fp w w') (hf : ∀ k ∈ fp, w0.heap.size ≤ k) : Below w0.heap.size w0 w' :=
  ⟨ho.os.trans h.os, ho.tape.trans h.tape, ho.output.trans h.output, Nat.le_trans h.size ho.size, fun k hk => (ho.block k (Nat.lt_of_lt_of_le hk h.size) (fun e => by have := hf k e; omega)).trans (h.block k hk)⟩
theorem Drv.weaken {b b' : Nat} {W : World} {d : DV} {s : DS} (h : Drv b W d s) (hb : b' ≤ b) : Drv b' W d s := by
  have own : ∀ {e : TypeId} {size : Nat} {v : Value} {n : Nat} {xs : List Value}, W.ownsRow b e size v n xs → W.ownsRow b' e size v n xs := fun {e size v n xs} hw => by
    refine ⟨hw.1, ?_⟩
    rcases hw.2 with h1 | ⟨g, cap, cur, h1, h2, h3⟩
    · exact .inl h1
    · exact .inr ⟨g, cap, cur, h1, Nat.le_trans hb h2, h3⟩
  refine ⟨Nat.le_trans hb h.hD, h.obj, own h.now, own h.sure, own h.opn, ?_, h.nodup, h.len, h.secN, h.secS, h.wr⟩
  have hf := h.fuse
  cases hz : d.fz <;> cases hk : s.fuse <;> rw [hz, hk] at hf
  · trivial
  · exact hf.elim
  · exact hf.elim
  · exact ⟨Nat.le_trans hb hf.1, hf.2⟩
/-- Something else goes on: blocks of F are written, others are made. -/
theorem Dr.grow {w0 w w' : World} {l : List (Nat × DS)} {F : List Nat} (h : Dr w0 w l F) (G F' : List Nat) (ho : Only G w w') (hG : ∀ k ∈ G, k ∈ F ∧ w0.heap.size ≤ k) (hF : ∀ k ∈ F', k ∈ F ∨ (w.heap.size ≤ k ∧ k < w'.heap.size)) : Dr w0 w' l F' := by
  obtain ⟨ds, h1, h2, h3, h4⟩ := h.ex
  refine ⟨Below.of_only h.below ho (fun k hk => (hG k hk).2), fun k hk => ?_, ds, h1, fun i d p hd hp => ?_, h3, fun i d hd k hk => ?_⟩
  · rcases hF k hk with e | e
    · exact Nat.lt_of_lt_of_le (h.lt k e) ho.size
    · exact e.2
  · obtain ⟨e, hdr⟩ := h2 i d p hd hp
    exact ⟨e, hdr.kept ho (fun k hk hg => h4 i d hd k (hG k hg).1 hk)⟩
  · obtain ⟨p, hp⟩ : ∃ p, l[i]? = some p := ⟨_, List.getElem?_eq_getElem (by rw [← h1]; exact (List.getElem?_eq_some_iff.1 hd).1)⟩
    rcases hF k hk with e | e
    · exact h4 i d hd k e
    · intro hkd
      have := ((h2 i d p hd hp).2.fp_lt k hkd).2
      omega
theorem Dr.new {w0 w w' : World} {l : List (Nat × DS)} {F : List Nat} (h : Dr w0 w l F) (ho : Only [] w w') : Dr w0 w' l F := h.grow [] F ho (by simp) (fun k hk => .inl hk)
/-- A drive goes on. -/
theorem Dr.went {w0 w w' : World} {l : List (Nat × DS)} {F : List Nat} (h : Dr w0 w l F) {i D : Nat} {s s' : DS} (hi : l[i]? = some (D, s)) {ds : List DV} (hds : Ds w0 w l F ds) (hg : ∀ d, ds[i]? = some d → Goes w0.heap.size w w' d s') : Dr w0 w' (l.set i (D, s')) F ∧ Same F w w' := by
  obtain ⟨h1, h2, h3, h4⟩ := hds
  have hil : i < l.length := (List.getElem?_eq_some_iff.1 hi).1
  obtain ⟨d, hd⟩ : ∃ d, ds[i]? = some d := ⟨_, List.getElem?_eq_getElem (by omega)⟩
  obtain ⟨e, hdr⟩ := h2 i d _ hd hi
  obtain ⟨d', e', hdr', ho, hfp⟩ := hg d hd
  have hF : ∀ k ∈ F, k ∉ d.fp := h4 i d hd
  have hsm : Same F w w' := fun k hk => ho.block k (h.lt k hk) (hF k hk)
  refine ⟨⟨Below.of_only h.below ho (fun k hk => (hdr.fp_lt k hk).1), fun k hk => Nat.lt_of_lt_of_le (h.lt k hk) ho.size, ds.set i d', ?_, fun j dj p hj hp => ?_, fun j j' dj dj' hne hj hj' k hk => ?_, fun j dj hj k hk => ?_⟩, hsm⟩
  · rw [List.length_set, List.length_set, h1]
  · rw [List.getElem?_set] at hj hp
    by_cases ej : i = j
    · subst ej
      rw [if_pos rfl, if_pos (by omega)] at hj
      rw [if_pos rfl, if_pos hil] at hp
      cases hj; cases hp
      exact ⟨e'.trans e, hdr'⟩
    · rw [if_neg ej] at hj hp
      obtain ⟨q1, q2⟩ := h2 j dj p hj hp
      exact ⟨q1, q2.kept ho (fun k hk => h3 j i dj d (Ne.symm ej) hj hd k hk)⟩
  · have low : ∀ {j : Nat} {dj : DV}, ds[j]? = some dj → ∀ k, k ∈ dj.fp → k < w.heap.size := fun {j dj} hj k hk => by
      obtain ⟨p, hp⟩ : ∃ p, l[j]? = some p := ⟨_, List.getElem?_eq_getElem (by rw [← h1]; exact (List.getElem?_eq_some_iff.1 hj).1)⟩
      exact ((h2 j dj p hj hp).2.fp_lt k hk).2
    rw [List.getElem?_set] at hj hj'
    by_cases ej : i = j
    · subst ej
      rw [if_pos rfl, if_pos (by omega)] at hj
      rw [if_neg hne] at hj'
      cases hj
      rcases hfp k hk with q | q
      · exact h3 i j' d dj' hne hd hj' k q
      · intro q'; have := low hj' k q'; omega
    · rw [if_neg ej] at hj
      by_cases ej' : i = j'
      · subst ej'
        rw [if_pos rfl, if_pos (by omega)] at hj'
        cases hj'
        intro q'
        rcases hfp k q' with q | q
        · exact h3 j i dj d (Ne.symm ej) hj hd k hk q
        · have := low hj k hk; omega
      · rw [if_neg ej'] at hj'
        exact h3 j j' dj dj' hne hj hj' k hk
  · rw [List.getElem?_set] at hj
    by_cases ej : i = j
    · subst ej
      rw [if_pos rfl, if_pos (by omega)] at hj
      cases hj
      intro q
      rcases hfp k q with q | q
      · exact hF k hk q
      · have := h.lt k hk; omega
    · rw [if_neg ej] at hj
      exact h4 j dj hj k hk
/-- One more drive, all of it in new blocks. -/
theorem Dr.more {w0 w w' : World} {l : List (Nat × DS)} {F : List Nat} (h : Dr w0 w l F) (d : DV) (s : DS) (hd : Drv w.heap.size w' d s) (ho : Only [] w w') : Dr w0 w' (l ++ [(d.D, s)]) F ∧ Same F w w' := by
  obtain ⟨ds, h1, h2, h3, h4⟩ := h.ex
  have hn := h.new ho
  have low : ∀ {j : Nat} {dj : DV}, ds[j]? = some dj → ∀ k, k ∈ dj.fp → k < w.heap.size := fun {j dj} hj k hk => by
    obtain ⟨p, hp⟩ : ∃ p, l[j]? = some p := ⟨_, List.getElem?_eq_getElem (by rw [← h1]; exact (List.getElem?_eq_some_iff.1 hj).1)⟩
    exact ((h2 j dj p hj hp).2.fp_lt k hk).2
  have snoc : ∀ {j : Nat} {dj : DV}, (ds ++ [d])[j]? = some dj → (j < ds.length ∧ ds[j]? = some dj) ∨ (j = ds.length ∧ dj = d) := fun {j dj} hj => by
    by_cases hlt : j < ds.length
    · rw [List.getElem?_append_left hlt] at hj; exact .inl ⟨hlt, hj⟩
    · rw [List.getElem?_append_right (by omega)] at hj
      by_cases e : j - ds.length = 0
      · rw [e] at hj; simp at hj; exact .inr ⟨by omega, hj.symm⟩
      · rw [List.getElem?_eq_none (by simp; omega)] at hj; cases hj
  refine ⟨⟨hn.below, hn.lt, ds ++ [d], by simp [h1], fun j dj p hj hp => ?_, fun j j' dj dj' hne hj hj' k hk => ?_, fun j dj hj k hk => ?_⟩, fun k hk => ho.block k (h.lt k hk) (by simp)⟩
  · rcases snoc hj with ⟨hlt, hj⟩ | ⟨rfl, rfl⟩
    · rw [List.getElem?_append_left (by omega)] at hp
      obtain ⟨q1, q2⟩ := h2 j dj p hj hp
      exact ⟨q1, q2.kept ho (by simp)⟩
    · rw [h1, List.getElem?_append_right (by omega), Nat.sub_self] at hp
      simp at hp
      subst hp
      exact ⟨rfl, hd.weaken h.below.size⟩
  · rcases snoc hj with ⟨hlt, hj2⟩ | ⟨ej, ed⟩
    · rcases snoc hj' with ⟨hlt', hj2'⟩ | ⟨ej', ed'⟩
      · exact h3 j j' dj dj' hne hj2 hj2' k hk
      · intro q; rw [ed'] at q; have := low hj2 k hk; have := (hd.fp_lt k q).1; omega
    · rcases snoc hj' with ⟨hlt', hj2'⟩ | ⟨ej', ed'⟩
      · intro q; rw [ed] at hk; have := low hj2' k q; have := (hd.fp_lt k hk).1; omega
      · exact absurd (by rw [ej, ej']) hne
  · rcases snoc hj with ⟨hlt, hj⟩ | ⟨rfl, rfl⟩
    · exact h4 j dj hj k hk
    · intro q; have := h.lt k hk; have := (hd.fp_lt k q).1; omega
/-- Fewer drives are looked at. -/
theorem Dr.drop {w0 w : World} {l : List (Nat × DS)} {F : List Nat} (h : Dr w0 w l F) (n : Nat) : Dr w0 w (l.take n) F := by
  obtain ⟨ds, h1, h2, h3, h4⟩ := h.ex
  have tk : ∀ {α : Type} {l : List α} {j : Nat} {x : α}, (l.take n)[j]? = some x → l[j]? = some x := fun {α l j x} hx => by
    rw [List.getElem?_take] at hx
    split at hx
    · exact hx
    · cases hx
  exact ⟨h.below, h.lt, ds.take n, by rw [List.length_take, List.length_take, h1], fun i d p hd hp => h2 i d p (tk hd) (tk hp), fun i j d d' hne hd hd' => h3 i j d d' hne (tk hd) (tk hd'), fun i d hd => h4 i d (tk hd)⟩
theorem Dr.tail {w0 w : World} {p : Nat × DS} {l : List (Nat × DS)} {F : List Nat} (h : Dr w0 w (p :: l) F) : Dr w0 w l F := by
  obtain ⟨ds, h1, h2, h3, h4⟩ := h.ex
  cases ds with
  | nil => simp at h1
  | cons d ds =>
    exact ⟨h.below, h.lt, ds, by simpa using h1, fun i d' p' hd hp => h2 (i + 1) d' p' (by simpa using hd) (by simpa using hp), fun i j d1 d2 hne hd hd' => h3 (i + 1) (j + 1) d1 d2 (by omega) (by simpa using hd) (by simpa using hd'), fun i d1 hd => h4 (i + 1) d1 (by simpa using hd)⟩
theorem Dr.less {w0 w : World} {l : List (Nat × DS)} {F : List Nat} (h : Dr w0 w l F) (F' : List Nat) (hF : ∀ k ∈ F', k ∈ F) : Dr w0 w l F' := by
  obtain ⟨ds, h1, h2, h3, h4⟩ := h.ex
  exact ⟨h.below, fun k hk => h.lt k (hF k hk), ds, h1, h2, h3, fun i d hd k hk => h4 i d hd k (hF k hk)⟩
theorem Dr.at {w0 w : World} {l : List (Nat × DS)} {F : List Nat} (h : Dr w0 w l F) {i D : Nat} {s : DS} (hi : l[i]? = some (D, s)) : ∃ d, d.D = D ∧ Drv w0.heap.size w d s := by
  obtain ⟨ds, h1, h2, -, -⟩ := h.ex
  have hil : i < l.length := (List.getElem?_eq_some_iff.1 hi).1
  obtain ⟨d, hd⟩ : ∃ d, ds[i]? = some d := ⟨_, List.getElem?_eq_getElem (by omega)⟩
  exact ⟨d, h2 i d _ hd hi⟩
/-! The calls -/
section
variable {w0 w : World} {l : List (Nat × DS)} {F : List Nat} {i D : Nat} {s : DS}
theorem Dr.act (h : Dr w0 w l F) (hi : l[i]? = some (D, s)) {f : FuncId} {args : Array Value} {R : Ending → Prop} {s' : DS} (hc : ∀ d, d.D = D → Drv w0.heap.size w d s → Calls Try.prog f args w fun e w' => R e ∧ Goes w0.heap.size w w' d s') :
    Calls Try.prog f args w fun e w' => R e ∧ Dr w0 w' (l.set i (D, s')) F ∧ Same F w w' := by
  obtain ⟨ds, hds⟩ := h.ex
  have hil : i < l.length := (List.getElem?_eq_some_iff.1 hi).1
  obtain ⟨d, hd⟩ : ∃ d, ds[i]? = some d := ⟨_, List.getElem?_eq_getElem (by rw [hds.1]; exact hil)⟩
  obtain ⟨e, hdr⟩ := hds.2.1 i d _ hd hi
  refine (hc d e hdr).mono fun en w' ⟨hr, hg⟩ => ⟨hr, h.went hi hds (fun d' hd' => ?_)⟩
  rw [hd] at hd'
  cases hd'
  exact hg
theorem Dr.write (h : Dr w0 w l F) (hi : l[i]? = some (D, s)) (hm : s.opn.length < 1000000) (n : Int) (t : ByteArray) :
    Calls Try.prog 9 #[ptr D, .int .i64 n, .string t] w fun e w' => e = .returned (.int .i64 (writeR s n t).2) ∧ Dr w0 w' (l.set i (D, (writeR s n t).1)) F ∧ Same F w w' :=
  h.act hi fun d e hd => by rw [← e]; exact Write_goes hd h.below.size hm n t
theorem Dr.sync (h : Dr w0 w l F) (hi : l[i]? = some (D, s)) :
    Calls Try.prog 8 #[ptr D] w fun e w' => e = .returned (.int .i64 (syncR s).2) ∧ Dr w0 w' (l.set i (D, (syncR s).1)) F ∧ Same F w w' :=
  h.act hi fun d e hd => by rw [← e]; exact Sync_goes hd
theorem Dr.fuse (h : Dr w0 w l F) (hi : l[i]? = some (D, s)) (n : Int) (hn : n < 9223372036854775808) :
    Calls Try.prog 7 #[ptr D, .int .i64 n] w fun e w' => e = .returned (.tuple #[]) ∧ Dr w0 w' (l.set i (D, fuseS s n)) F ∧ Same F w w' :=
  h.act hi fun d e hd => by rw [← e]; exact Fuse_goes hd h.below.size n hn
theorem Dr.crash (h : Dr w0 w l F) (hi : l[i]? = some (D, s)) (hm : s.opn.length < 1000000) (keep torn at_ : Int) (hk : 0 ≤ keep ∧ keep < 18446744073709551616) :
    Calls Try.prog 10 #[ptr D, .agg #[.int .u64 keep, .int .i64 torn, .int .i64 at_]] w fun e w' => e = .returned (.tuple #[]) ∧ Dr w0 w' (l.set i (D, crashS s keep torn at_)) F ∧ Same F w w' :=
  h.act hi fun d e hd => by rw [← e]; exact Crash_goes hd h.below.size hm keep torn at_ hk
theorem Dr.read (h : Dr w0 w l F) (hi : l[i]? = some (D, s)) (n : Int) :
    Calls Try.prog 14 #[ptr D, .int .i64 n] w fun e w' => e = .returned (.tuple #[.string (readS s n), .int .i64 (hasE s.now.length n)]) ∧ w' = w := by
  obtain ⟨d, e, hd⟩ := h.at hi
  rw [← e]; exact Read_calls hd n
theorem Dr.pending (h : Dr w0 w l F) (hi : l[i]? = some (D, s)) : Calls Try.prog 12 #[ptr D] w fun e w' => e = .returned (.int .i64 s.opn.length) ∧ w' = w := by
  obtain ⟨d, e, hd⟩ := h.at hi
  rw [← e]; exact Pending_calls hd
theorem Dr.size (h : Dr w0 w l F) (hi : l[i]? = some (D, s)) : Calls Try.prog 29 #[ptr D] w fun e w' => e = .returned (.int .i64 s.now.length) ∧ w' = w := by
  obtain ⟨d, e, hd⟩ := h.at hi
  rw [← e]; exact Size_calls hd
/-- A drive is made, or copied. -/
def Given (w0 w' : World) (l : List (Nat × DS)) (s : DS) (F : List Nat) (w : World) (v : Value) : Prop := ∃ D, v = ptr D ∧ Dr w0 w' (l ++ [(D, s)]) F ∧ Same F w w'
theorem Dr.make (h : Dr w0 w l F) (n : Nat) (h8 : 8 ≤ n) (hn : n ≤ 4096) :
    Calls Try.prog 6 #[.int .i64 (n : Int)] w fun e w' => ∃ v, e = .returned (.tuple #[v, .int .i64 0]) ∧ Given w0 w' l (newS n) F w v :=
  (New_calls w n h8 hn).mono fun e w' ⟨v, he, d, hv, hd, ho⟩ => ⟨v, he, d.D, hv, h.more d _ hd ho⟩
theorem Dr.copy (h : Dr w0 w l F) (hi : l[i]? = some (D, s)) (hm : s.opn.length < 1000000) :
    Calls Try.prog 13 #[ptr D] w fun e w' => ∃ v, e = .returned v ∧ Given w0 w' l s F w v := by
  obtain ⟨d, e, hd⟩ := h.at hi
  rw [← e]
  exact (Copy_calls hd hm).mono fun e w' ⟨v, he, d', hv, hd', ho⟩ => ⟨v, he, d'.D, hv, h.more d' s hd' ho⟩
end
end Go.Proofs.Ytlafanbilodafaa
