/- split.Split, where it refuses; the law's two slices that the document fixes. -/
import Derived.Test.YtmjohabfikpahaaVH
set_option maxRecDepth 1000000
set_option linter.unusedVariables false
set_option linter.unusedSimpArgs false
namespace Go.Proofs.Ytmjohabfikpahaa
open Go Go.Shelf Go.RowKit Go.Lib Go.Sort Go.Proofs
/-- What Split takes. -/
def Takes (t : Int) (zs : List Int) : Prop := Fine zs ∧ 0 ≤ t ∧ t < 4611686018427387904
set_option maxHeartbeats 4000000 in
theorem Split_refused (t : Int) (A : Option Addr) (zs : List Int) (n c : Nat) (w : World) (hI : Ints w A zs) (hn : n = zs.length) (hz : ∀ z ∈ zs, I64 z) (hl : zs.length ≤ 9223372036854775807) (h : ¬ Takes t zs) :
    Calls Try.prog 4 #[.int .i64 t, .slice A n c] w fun e w' => e = .returned (.tuple #[.slice none 0 0, .int .i64 2]) ∧ Only [] w w' := by
  have hsum := sum_calls A zs n c w hI hn hz hl
  have e8 : ∀ args w, (callFunc 8 args).run Try.prog w = .ok (.enter 8 args) w := enters_of Try.func8 (by kernel_rfl) rfl
  have HT : Aside (¬ Takes t zs) := h
  clear hI hn hz h
  go_enter Try.func4, Try.ntmps4
  go_wp2_with fail
  go_at_call 8
  refine hsum.mono ?_
  rintro e w1 ⟨s, is, rfl, hs1, hs2, ho⟩
  have HO : Aside (Only [] w w1) := ho
  have HS : Aside (is = true ↔ Fine zs) := hs1
  clear hsum hs1 hs2 ho
  cases is with
  | false =>
    go_wp2_with fail
    go_ret2
    exact ⟨rfl, HO.out⟩
  | true =>
    by_cases h0 : t < 0
    · have q0 : decide (t < 0) = true := decide_eq_true h0
      go_wp2_with fail
      go_ret2
      exact ⟨rfl, HO.out⟩
    · have q0 : decide (t < 0) = false := decide_eq_false h0
      have q1 : decide ((4611686018427387904 : Int) ≤ t) = true := decide_eq_true (by
        by_cases c : (4611686018427387904 : Int) ≤ t
        · exact c
        · exact absurd ⟨HS.out.1 (by simp), by omega, by omega⟩ HT.out)
      go_wp2_with fail
      go_ret2
      exact ⟨rfl, HO.out⟩
theorem fine_two : Fine [1, 1] := ⟨by simp, by simp, by simp, by simp, by simp⟩
theorem told_two {o : List Int} (h : Told 101 ([1, 1] : List Int).sum.toNat (nats [1, 1]) o) : o.length = 2 ∧ o.getD 0 0 = 51 ∧ o.getD 1 0 = 50 := by
  have hl := h.len
  have h0 := h.each 0 (by decide)
  have h1 := h.each 1 (by decide)
  have hs := h.sum
  have ho := h.ord 1 0 (by decide) (by decide)
  have q0 : qN 101 ([1, 1] : List Int).sum.toNat (nats [1, 1]) 0 = 50 := by decide
  have q1 : qN 101 ([1, 1] : List Int).sum.toNat (nats [1, 1]) 1 = 50 := by decide
  have r0 : rN 101 ([1, 1] : List Int).sum.toNat (nats [1, 1]) 0 = 1 := by decide
  have r1 : rN 101 ([1, 1] : List Int).sum.toNat (nats [1, 1]) 1 = 1 := by decide
  rw [q0, r0] at h0
  rw [q1, r1] at h1
  rw [q0, q1, r0, r1] at ho
  have hl2 : o.length = 2 := hl
  match o, hl2 with
  | [a, b], _ =>
    simp only [List.getD_cons_zero, List.getD_cons_succ, List.sum_cons, List.sum_nil] at *
    refine ⟨rfl, ?_, ?_⟩
    · rcases h0 with h0 | h0
      · rcases h1 with h1 | h1
        · omega
        · have := ho (by omega) (by omega)
          omega
      · omega
    · rcases h1 with h1 | h1
      · omega
      · rcases h0 with h0 | h0
        · have := ho (by omega) (by omega)
          omega
        · omega
set_option maxHeartbeats 4000000 in
theorem halves_calls (w : World) : Calls Try.prog 6 #[] w fun e w' => e = .returned (.bool true) ∧ Only [] w w' := by
  obtain ⟨b1, b2, b3⟩ := new_one w (.cells #[.int .i64 1, .int .i64 1] 2)
  have hI : Ints (w.alloc (.cells #[.int .i64 1, .int .i64 1] 2)) (some ⟨w.heap.size, 0, none⟩) [1, 1] := fun _ =>
    ⟨w.heap.size, 0, rfl, by rw [b3]; omega, fun j hj => by
      rw [Nat.zero_add, cell_of_row _ _ _ _ _ _ b2]
      simp only [List.length_cons, List.length_nil] at hj
      match j, hj with
      | 0, _ => rfl
      | 1, _ => rfl⟩
  have hsp := Split_calls 101 (some ⟨w.heap.size, 0, none⟩) [1, 1] 2 2 (w.alloc (.cells #[.int .i64 1, .int .i64 1] 2)) (by decide) hI rfl (by intro z hz; simp at hz; subst hz; unfold I64; omega) fine_two
  rw [show ((101 : Nat) : Int) = 101 from rfl] at hsp
  have HB : Aside (Only [] w (w.alloc (.cells #[.int .i64 1, .int .i64 1] 2))) := b1
  have e4 : ∀ args w, (callFunc 4 args).run Try.prog w = .ok (.enter 4 args) w := enters_of Try.func4 (by kernel_rfl) rfl
  clear b1 b2 b3 hI
  go_enter Try.func6, Try.ntmps6
  go_wp2_with fail
  go_at_call 4
  refine hsp.mono ?_
  rintro e w1 ⟨O, o, rfl, ht, hi, ho⟩
  obtain ⟨hl, t0, t1⟩ := told_two ht
  obtain ⟨b, off, hA, hb, hc⟩ := hi (by omega)
  cases hA
  have c0 := hc 0 (by omega)
  have c1 := hc 1 (by omega)
  rw [t0] at c0
  rw [t1] at c1
  rw [Nat.zero_add] at c0 c1
  have HO : Aside (Only [] w w1) := HB.out.trans ho (fun _ h _ => h)
  clear hsp ht hi ho hl t0 t1 hb hc HB
  go_wp2_with fail
  go_ret
  exact ⟨rfl, HO.out⟩
end Go.Proofs.Ytmjohabfikpahaa
