/- A drive: the fuse; Sync whole. -/
import Derived.Test.YtlafanbilodafaaD3
set_option linter.unusedVariables false
set_option linter.unusedSimpArgs false
namespace Go.Proofs.Ytlafanbilodafaa
open Go Go.RowKit Go.Proofs.YtlafanbilodafaaW.PrintWords Go.Proofs.YtlafanbilodafaaW.PrintLast Go.Proofs.YtlafanbilodafaaW.PrintMore
attribute [local go_sem] Oper.semAt_some max2_int min2_int max_two min_two max_three min_three max_four min_four
def decF : Option Nat → Option Nat
  | none => none
  | some k => some (k - 1)
theorem Drv.burnt {base : Nat} {w : World} {d : DV} {s : DS} (h : Drv base w d s) {f k : Nat} (hz : d.fz = some f) (hk : s.fuse = some k) (hp : 0 < k) :
    w.cell? ⟨f, 0, none⟩ = some (.int .i64 (k : Int)) ∧ w.frozen? ⟨f, 0, none⟩ = false ∧ k < 9223372036854775808 ∧
    Drv base (w.setCell ⟨f, 0, none⟩ (.int .i64 ((k : Int) - 1))) d { s with fuse := decF s.fuse } ∧ Only d.fp w (w.setCell ⟨f, 0, none⟩ (.int .i64 ((k : Int) - 1))) := by
  have hf := h.fuse
  rw [hz, hk] at hf
  obtain ⟨hb, hlt, hcell⟩ := hf
  obtain ⟨gn, capn, curn, hvn, -⟩ := ownsRow_slice h.now (by have := h.len; omega)
  obtain ⟨gs, caps, curs, hvs, -⟩ := ownsRow_slice h.sure (by have := h.len; omega)
  obtain ⟨n1, n2, n3, n4, n5, m1, m2, m3⟩ := h.ne hvn hvs
  obtain ⟨p1, p2, p3, p4⟩ := n5 f (by rw [hz]; simp)
  have ho : Only [f] w (w.setCell ⟨f, 0, none⟩ (.int .i64 ((k : Int) - 1))) := Only.setCell _ _ _ (by simp)
  have hfp : f ∈ d.fp := by unfold DV.fp; rw [hz]; simp
  refine ⟨(cell_of_row w _ _ _ _ _ hcell).trans rfl, frozen_of_row w _ _ _ _ hcell, hlt, ⟨h.hD, ?_, ?_, ?_, ?_, ?_, h.nodup, h.len, h.secN, h.secS, h.wr⟩, ho.mono (by simpa using hfp)⟩
  · rw [heap_setCell_other _ _ _ _ (Ne.symm p1)]; exact h.obj
  · exact ownsRow_kept h.now ho (fun q hq e => by rw [hvn] at hq; simp [Value.ownBlock] at hq e; omega)
  · exact ownsRow_kept h.sure ho (fun q hq e => by rw [hvs] at hq; simp [Value.ownBlock] at hq e; omega)
  · exact ownsRow_kept h.opn ho (fun q hq e => by rw [List.mem_singleton] at e; exact p4 (e ▸ hq))
  · rw [hz, hk]
    refine ⟨hb, by omega, (setCell_at hcell 0 _).trans ?_⟩
    have : ((k - 1 : Nat) : Int) = (k : Int) - 1 := by omega
    show some (Obj.cells #[Value.int .i64 ((k : Int) - 1)] 3 (0, 0)) = some (Obj.cells #[Value.int .i64 ((k - 1 : Nat) : Int)] 3 (0, 0))
    rw [this]
theorem fuse_cases {base : Nat} {W : World} {z k : Option Nat} (h : FuseAt base W z k) : (z = none ∧ k = none) ∨ ∃ f n, z = some f ∧ k = some n ∧ W.heap[f]? = some (.cells #[.int .i64 (n : Int)] 3 (0, 0)) := by
  cases z <;> cases k
  · exact .inl ⟨rfl, rfl⟩
  · exact h.elim
  · exact h.elim
  · exact .inr ⟨_, _, rfl, rfl, h.2.2⟩
def syncR (s : DS) : DS × Int := if s.fuse = some 0 then (s, 30) else (syncS { s with fuse := decF s.fuse }, 0)
set_option maxRecDepth 100000 in
theorem on_sync {base : Nat} {w : World} {d : DV} {s : DS} (h : Drv base w d s) (b : Nat) (hbx : w.heap[b]? = some (.cells #[ptr d.D] 23 (0, 0))) (hbf : b ∉ d.fp) :
    Calls Try.prog 22 #[ptr d.D, .func (.func 23) #[] #[ptr b]] w fun e w' => e = .returned (.int .i64 (syncR s).2) ∧ (∃ vo', Drv base w' { d with vo := vo' } (syncR s).1 ∧ ∀ k, k ∈ vo'.ownBlock.toList → k ∈ d.vo.ownBlock.toList) ∧ Only d.fp w w' := by
  obtain ⟨-, -, -, h3, -, -, -, f3⟩ := h.cells
  have HD := hid h
  have HBX := hid hbx
  have HBF := hid hbf
  unfold ptr
  rcases fuse_cases h.fuse with ⟨hz, hk⟩ | ⟨f, n, hz, hk, hcell⟩
  · have hR : syncR s = (syncS { s with fuse := decF s.fuse }, 0) := by unfold syncR; rw [if_neg (by rw [hk]; simp)]
    have hs : ({ s with fuse := decF s.fuse } : DS) = s := by rw [hk, decF, ← hk]
    rw [hs] at hR
    rw [hR]
    rw [hz] at h3
    clear h hbx hbf hz hk hR hs
    unfold fzV at h3
    go_enter Try.func22, Try.ntmps22
    go_wp2_with (go_at_call 23; refine (Sync1_calls HD.out b HBX.out HBF.out).mono ?_; rintro e w' ⟨rfl, hd, ho⟩; have HD2 := hid hd; have HO := hid ho; clear hd ho)
    go_ret
    exact ⟨rfl, ⟨_, HD2.out, by simp [Value.ownBlock]⟩, HO.out⟩
  · have hcf : w.cell? ⟨f, 0, none⟩ = some (.int .i64 (n : Int)) := (cell_of_row w _ _ _ _ _ hcell).trans rfl
    rw [hz] at h3
    unfold fzV at h3
    by_cases h0 : n = 0
    · subst h0
      have hR : syncR s = (s, 30) := by unfold syncR; rw [if_pos hk]
      rw [hR]
      clear h hbx hbf hz hk hR hcell
      go_enter Try.func22, Try.ntmps22
      go_wp2
      go_ret
      exact ⟨rfl, ⟨d.vo, HD.out, fun k hk => hk⟩, Only.refl _ _⟩
    · obtain ⟨-, ff, hlt, hB, hO⟩ := h.burnt hz hk (by omega)
      have hR : syncR s = (syncS { s with fuse := decF s.fuse }, 0) := by unfold syncR; rw [if_neg (by rw [hk]; simpa using h0)]
      rw [hR]
      have HB := hid hB
      have HOB := hid hO
      have hne : b ≠ f := fun e => hbf (by rw [e]; unfold DV.fp; rw [hz]; simp)
      have HNE := hid hne
      have c0 : ((n : Int) == 0) = false := by rw [beq_eq_false_iff_ne]; omega
      have hpos : (0 : Int) < (n : Int) := by omega
      clear h hbx hbf hz hk hR hcell hB hO hne h0
      go_enter Try.func22, Try.ntmps22
      go_wp2_with (go_at_call 23; refine (Sync1_calls HB.out b ((heap_setCell_other _ _ _ _ HNE.out).trans HBX.out) HBF.out).mono ?_; rintro e w' ⟨rfl, hd, ho⟩; have HD2 := hid hd; have HO := hid ho; clear hd ho)
      go_ret
      exact ⟨rfl, ⟨_, HD2.out, by simp [Value.ownBlock]⟩, HOB.out.trans HO.out (fun _ h _ => h)⟩
theorem DV.fp_vo {d : DV} {vo' : Value} (h : ∀ k, k ∈ vo'.ownBlock.toList → k ∈ d.vo.ownBlock.toList) : ∀ k, k ∈ ({ d with vo := vo' } : DV).fp → k ∈ d.fp := by
  intro k hk
  unfold DV.fp at *
  simp only [List.mem_cons, List.mem_append] at hk ⊢
  rcases hk with h1 | h1 | h1 | h1 | h1
  · exact .inl h1
  · exact .inr (.inl h1)
  · exact .inr (.inr (.inl h1))
  · exact .inr (.inr (.inr (.inl (h k h1))))
  · exact .inr (.inr (.inr (.inr h1)))
set_option maxRecDepth 100000 in
theorem Sync_calls {base : Nat} {w : World} {d : DV} {s : DS} (h : Drv base w d s) :
    Calls Try.prog 8 #[ptr d.D] w fun e w' => e = .returned (.int .i64 (syncR s).2) ∧ (∃ vo', Drv base w' { d with vo := vo' } (syncR s).1 ∧ ∀ k, k ∈ vo'.ownBlock.toList → k ∈ d.vo.ownBlock.toList) ∧ Only d.fp w w' := by
  have HD := hid h
  have hA : Drv base (w.alloc (.cells #[ptr d.D] 23)) d s := h.kept (Only.alloc [] _ _) (by simp)
  have HA := hid hA
  have HF := hid (show w.heap.size ∉ d.fp from fun e => by have := (h.fp_lt _ e).2; omega)
  clear h hA
  unfold ptr
  go_enter Try.func8, Try.ntmps8
  go_wp2_with (first
    | (go_at_call 21; refine (none_calls HA.out).mono ?_; rintro e w' ⟨rfl, rfl⟩)
    | (go_at_call 22; refine (on_sync HA.out w.heap.size (heap_alloc_new _ _) HF.out).mono ?_; rintro e w' ⟨rfl, hd, ho⟩; have HD2 := hid hd; have HO := hid ho; clear hd ho))
  go_ret
  exact ⟨rfl, HD2.out, (Only.alloc d.fp w _).trans HO.out (fun _ h _ => h)⟩
/-- The drive goes on as s'. -/
def Goes (base : Nat) (w w' : World) (d : DV) (s' : DS) : Prop := ∃ d' : DV, d'.D = d.D ∧ Drv base w' d' s' ∧ Only d.fp w w' ∧ ∀ k, k ∈ d'.fp → k ∈ d.fp ∨ w.heap.size ≤ k
theorem Sync_goes {base : Nat} {w : World} {d : DV} {s : DS} (h : Drv base w d s) :
    Calls Try.prog 8 #[ptr d.D] w fun e w' => e = .returned (.int .i64 (syncR s).2) ∧ Goes base w w' d (syncR s).1 :=
  (Sync_calls h).mono fun e w' ⟨he, ⟨vo', hd, hv⟩, ho⟩ => ⟨he, { d with vo := vo' }, rfl, hd, ho, fun k hk => .inl (DV.fp_vo hv k hk)⟩
theorem Fuse_goes {base : Nat} {w : World} {d : DV} {s : DS} (h : Drv base w d s) (hb : base ≤ w.heap.size) (n : Int) (hn : n < 9223372036854775808) :
    Calls Try.prog 7 #[ptr d.D, .int .i64 n] w fun e w' => e = .returned (.tuple #[]) ∧ Goes base w w' d (fuseS s n) :=
  (Fuse_calls h hb n hn).mono fun e w' ⟨he, z, hd, ho, hz⟩ => ⟨he, { d with fz := z }, rfl, hd, ho.mono (by unfold DV.fp; simp), fun k hk => by
    unfold DV.fp at *
    simp only [List.mem_cons, List.mem_append] at hk ⊢
    rcases hk with h1 | h1 | h1 | h1 | h1
    · exact .inl (.inl h1)
    · exact .inl (.inr (.inl h1))
    · exact .inl (.inr (.inr (.inl h1)))
    · exact .inl (.inr (.inr (.inr (.inl h1))))
    · exact .inr (hz k h1)⟩
end Go.Proofs.Ytlafanbilodafaa
