/- A drive: Write whole. -/
import Derived.Test.YtlafanbilodafaaD5
set_option linter.unusedVariables false
set_option linter.unusedSimpArgs false
namespace Go.Proofs.Ytlafanbilodafaa
open Go Go.RowKit Go.Proofs.YtlafanbilodafaaW.PrintWords Go.Proofs.YtlafanbilodafaaW.PrintLast Go.Proofs.YtlafanbilodafaaW.PrintMore
attribute [local go_sem] Oper.semAt_some max2_int min2_int max_two min_two max_three min_three max_four min_four
/-- One that went on went on from what went on. -/
theorem Goes.after {base : Nat} {w w1 w' : World} {d : DV} {s' : DS} (hg : Goes base w1 w' d s') (ho : Only d.fp w w1) : Goes base w w' d s' := by
  obtain ⟨d', e, hd, h1, h2⟩ := hg
  refine ⟨d', e, hd, ho.trans h1 (fun _ h _ => h), fun k hk => (h2 k hk).imp id (fun h => Nat.le_trans ho.size h)⟩
theorem Goes.trans {base : Nat} {w w1 w' : World} {d d1 : DV} {s' : DS} (e : d1.D = d.D) (ho : Only d.fp w w1) (hf : ∀ k, k ∈ d1.fp → k ∈ d.fp ∨ w.heap.size ≤ k) (hg : Goes base w1 w' d1 s') : Goes base w w' d s' := by
  obtain ⟨d', e', hd, h1, h2⟩ := hg
  refine ⟨d', e'.trans e, hd, ho.trans h1 (fun k hk hl => (hf k hk).resolve_right (by omega)), fun k hk => ?_⟩
  rcases h2 k hk with h | h
  · exact hf k h
  · exact .inr (Nat.le_trans ho.size h)
def wrR (s : DS) (n : Nat) (L : List UInt8) : DS × Int := if s.fuse = some 0 then (s, 30) else (writeS { s with fuse := decF s.fuse } n L, 0)
def writeR (s : DS) (n : Int) (t : ByteArray) : DS × Int :=
  if hasE s.now.length n = 0 then (if t.size ≤ 64 then wrR s n.toNat (padS t) else (s, 3)) else (s, 2)
set_option maxRecDepth 100000 in
theorem on_write {base : Nat} {w : World} {d : DV} {s : DS} (h : Drv base w d s) (hb : base ≤ w.heap.size) (hm : s.opn.length < 1000000) (n : Nat) (hn : n < s.now.length) (t : ByteArray) (bn bt bd : Nat)
    (h1 : w.heap[bn]? = some (.cells #[.int .i64 (n : Int)] 3 (0, 0))) (h2 : w.heap[bt]? = some (.cells #[.string t] 9 (0, 0))) (h3 : w.heap[bd]? = some (.cells #[ptr d.D] 23 (0, 0)))
    (hx : bn ∉ d.fp ∧ bt ∉ d.fp ∧ bd ∉ d.fp) :
    Calls Try.prog 22 #[ptr d.D, .func (.func 25) #[] #[ptr bn, ptr bt, ptr bd]] w fun e w' => e = .returned (.int .i64 (wrR s n (padS t)).2) ∧ Goes base w w' d (wrR s n (padS t)).1 := by
  obtain ⟨-, -, -, i3, -, -, -, f3⟩ := h.cells
  have HD := hid h
  have HBX := hid (And.intro h1 (And.intro h2 h3))
  have HBF := hid hx
  have HB0 := hid hb
  unfold ptr
  rcases fuse_cases h.fuse with ⟨hz, hk⟩ | ⟨f, k, hz, hk, hcell⟩
  · have hs : ({ s with fuse := decF s.fuse } : DS) = s := by rw [hk, decF, ← hk]
    have hw : wrR s n (padS t) = (writeS s n (padS t), 0) := by unfold wrR; rw [if_neg (by rw [hk]; simp), hs]
    rw [hw]
    rw [hz] at i3
    clear h h1 h2 h3 hx hz hk hs hw
    unfold fzV at i3
    go_enter Try.func22, Try.ntmps22
    go_wp2_with (go_at_call 25; refine (Write1_calls HD.out HB0.out hm n hn t bn bt bd HBX.out.1 HBX.out.2.1 HBX.out.2.2 HBF.out).mono ?_; rintro e w' ⟨rfl, hd⟩; have HD2 := hid hd; clear hd)
    go_ret
    exact ⟨rfl, HD2.out⟩
  · have hcf : w.cell? ⟨f, 0, none⟩ = some (.int .i64 (k : Int)) := (cell_of_row w _ _ _ _ _ hcell).trans rfl
    rw [hz] at i3
    unfold fzV at i3
    by_cases h0 : k = 0
    · subst h0
      have hw : wrR s n (padS t) = (s, 30) := by unfold wrR; rw [if_pos hk]
      rw [hw]
      clear h h1 h2 h3 hx hz hk hcell hw
      go_enter Try.func22, Try.ntmps22
      go_wp2
      go_ret
      exact ⟨rfl, d, rfl, HD.out, Only.refl _ _, fun k hk => .inl hk⟩
    · obtain ⟨-, ff, hlt, hB, hO⟩ := h.burnt hz hk (by omega)
      have hw : wrR s n (padS t) = (writeS { s with fuse := decF s.fuse } n (padS t), 0) := by unfold wrR; rw [if_neg (by rw [hk]; simpa using h0)]
      rw [hw]
      have HB := hid hB
      have HOB := hid hO
      have hne : bn ≠ f ∧ bt ≠ f ∧ bd ≠ f := by
        have : f ∈ d.fp := by unfold DV.fp; rw [hz]; simp
        exact ⟨fun e => hx.1 (e ▸ this), fun e => hx.2.1 (e ▸ this), fun e => hx.2.2 (e ▸ this)⟩
      have HNE := hid hne
      have c0 : ((k : Int) == 0) = false := by rw [beq_eq_false_iff_ne]; omega
      have hpos : (0 : Int) < (k : Int) := by omega
      have HB1 := hid (show base ≤ (w.setCell ⟨f, 0, none⟩ (.int .i64 ((k : Int) - 1))).heap.size from Nat.le_trans hb hO.size)
      clear h h1 h2 h3 hx hz hk hcell hB hO hne h0 hw
      go_enter Try.func22, Try.ntmps22
      go_wp2_with (go_at_call 25; refine (Write1_calls HB.out HB1.out hm n hn t bn bt bd ((heap_setCell_other _ _ _ _ HNE.out.1).trans HBX.out.1) ((heap_setCell_other _ _ _ _ HNE.out.2.1).trans HBX.out.2.1) ((heap_setCell_other _ _ _ _ HNE.out.2.2).trans HBX.out.2.2) HBF.out).mono ?_; rintro e w' ⟨rfl, hd⟩; have HD2 := hid hd; clear hd)
      go_ret
      exact ⟨rfl, HD2.out.after HOB.out⟩
/-- Three boxes. -/
theorem boxes (w : World) (a b c : Obj) :
    (((w.alloc a).alloc b).alloc c).heap[w.heap.size]? = some a ∧ (((w.alloc a).alloc b).alloc c).heap[w.heap.size + 1]? = some b ∧ (((w.alloc a).alloc b).alloc c).heap[w.heap.size + 2]? = some c := by
  refine ⟨?_, ?_, ?_⟩
  · rw [heap_alloc_old _ _ (by simp; omega), heap_alloc_old _ _ (by simp), heap_alloc_new]
  · rw [heap_alloc_old _ _ (by simp)]; have := heap_alloc_new (w.alloc a) b; simpa using this
  · have := heap_alloc_new ((w.alloc a).alloc b) c; simpa using this
set_option maxRecDepth 100000 in
theorem Write_goes {base : Nat} {w : World} {d : DV} {s : DS} (h : Drv base w d s) (hb : base ≤ w.heap.size) (hm : s.opn.length < 1000000) (n : Int) (t : ByteArray) :
    Calls Try.prog 9 #[ptr d.D, .int .i64 n, .string t] w fun e w' => e = .returned (.int .i64 (writeR s n t).2) ∧ Goes base w w' d (writeR s n t).1 := by
  obtain ⟨hb1, hb2, hb3⟩ := boxes w (.cells #[ptr d.D] 23) (.cells #[.int .i64 n] 3) (.cells #[.string t] 9)
  obtain ⟨W, hW⟩ : ∃ W, W = ((w.alloc (.cells #[ptr d.D] 23)).alloc (.cells #[.int .i64 n] 3)).alloc (.cells #[.string t] 9) := ⟨_, rfl⟩
  have hO : Only d.fp w W := by rw [hW]; exact ((Only.alloc d.fp w _).trans (Only.alloc d.fp _ _) (fun _ h _ => h)).trans (Only.alloc d.fp _ _) (fun _ h _ => h)
  have hO0 : Only [] w W := by rw [hW]; exact ((Only.alloc [] w _).trans (Only.alloc [] _ _) (fun _ h _ => h)).trans (Only.alloc [] _ _) (fun _ h _ => h)
  have hD : Drv base W d s := h.kept hO0 (by simp)
  have hf : ∀ i, w.heap.size + i ∉ d.fp := fun i e => by have := (h.fp_lt _ e).2; omega
  rw [← hW] at hb1 hb2 hb3
  have HD := hid hD
  have HB := hid (Nat.le_trans hb hO.size)
  have HO := hid hO
  have HF := hid hf
  have HX := hid (And.intro hb1 (And.intro hb2 hb3))
  have c1 : W.cell? ⟨w.heap.size, 0, none⟩ = some (.pointer (some ⟨d.D, 0, none⟩)) := (cell_of_row W _ _ _ _ _ hb1).trans rfl
  have c2 : W.cell? ⟨w.heap.size + 1, 0, none⟩ = some (.int .i64 n) := (cell_of_row W _ _ _ _ _ hb2).trans rfl
  have c3 : W.cell? ⟨w.heap.size + 2, 0, none⟩ = some (.string t) := (cell_of_row W _ _ _ _ _ hb3).trans rfl
  by_cases c : 0 ≤ n ∧ n < (s.now.length : Int)
  · have he : hasE s.now.length n = 0 := by unfold hasE; rw [if_pos c]
    by_cases c4 : t.size ≤ 64
    · have e4 : decide (64 < (t.size : Int)) = false := decide_eq_false (by omega)
      have HE := hid he
      obtain ⟨m, rfl⟩ : ∃ m : Nat, n = (m : Int) := ⟨n.toNat, by omega⟩
      have hw : writeR s m t = wrR s m (padS t) := by unfold writeR; rw [if_pos he, if_pos c4, Int.toNat_natCast]
      rw [hw]
      have hmn : m < s.now.length := by omega
      unfold ptr at *
      rw [hW] at c1 c2 c3
      clear h hO hO0 hD hf hb1 hb2 hb3 he c c4 hw
      go_enter Try.func9, Try.ntmps9
      go_wp2_with (first
        | (go_at_call 24; rw [← hW]; refine (has_calls HD.out (m : Int)).mono ?_; rintro e w' ⟨rfl, rfl⟩; rw [HE.out, hW])
        | (go_at_call 22; rw [← hW]; refine (on_write HD.out HB.out hm m hmn t (w.heap.size + 1) (w.heap.size + 2) w.heap.size HX.out.2.1 HX.out.2.2 HX.out.1 ⟨HF.out 1, HF.out 2, HF.out 0⟩).mono ?_; rintro e w' ⟨rfl, hd⟩; have HD2 := hid hd; clear hd))
      go_ret
      exact ⟨rfl, HD2.out.after HO.out⟩
    · have e4 : decide (64 < (t.size : Int)) = true := decide_eq_true (by omega)
      have HE := hid he
      have hw : writeR s n t = (s, 3) := by unfold writeR; rw [if_pos he, if_neg c4]
      rw [hw]
      unfold ptr at *
      rw [hW] at c1 c2 c3
      clear h hO hO0 hD hf hb1 hb2 hb3 he c c4 hw
      go_enter Try.func9, Try.ntmps9
      go_wp2_with (go_at_call 24; rw [← hW]; refine (has_calls HD.out n).mono ?_; rintro e w' ⟨rfl, rfl⟩; rw [HE.out, hW])
      go_ret
      rw [hW] at HD HO
      exact ⟨rfl, d, rfl, HD.out, HO.out, fun k hk => .inl hk⟩
  · have he : hasE s.now.length n = 2 := by unfold hasE; rw [if_neg c]
    have HE := hid he
    have hw : writeR s n t = (s, 2) := by unfold writeR; rw [if_neg (by rw [he]; decide)]
    rw [hw]
    unfold ptr at *
    rw [hW] at c1 c2 c3
    clear h hO hO0 hD hf hb1 hb2 hb3 he c hw
    go_enter Try.func9, Try.ntmps9
    go_wp2_with (go_at_call 24; rw [← hW]; refine (has_calls HD.out n).mono ?_; rintro e w' ⟨rfl, rfl⟩; rw [HE.out, hW])
    go_ret
    rw [hW] at HD HO
    exact ⟨rfl, d, rfl, HD.out, HO.out, fun k hk => .inl hk⟩
end Go.Proofs.Ytlafanbilodafaa
