/- slices.Min, split.sum. -/
import Derived.Test.YtmjohabfikpahaaVD
set_option maxRecDepth 1000000
set_option linter.unusedVariables false
set_option linter.unusedSimpArgs false
namespace Go.Proofs.Ytmjohabfikpahaa
open Go Go.Shelf Go.RowKit Go.Lib Go.Sort Go.Proofs
theorem least2 (k k' : IntKind) (x y : Int) : Builtin.min2 (.int k x) (.int k' y) = pure (.int k (if y < x then y else x)) := by simp only [Builtin.min2]
theorem least_two (ats : Array TypeId) (ty : TypeId) (a b : Value) : Builtin.min_ ats ty #[a, b] = (Builtin.min2 a b >>= fun s => pure s) := by simp only [Builtin.min_, List.foldlM_cons, List.foldlM_nil]
attribute [local go_sem] least2 least_two
set_option maxHeartbeats 4000000 in
theorem Min_calls (A : Option Addr) (zs : List Int) (n c : Nat) (w : World) (hI : Ints w A zs) (hn : n = zs.length) (h0 : 0 < n) (hl : zs.length ≤ 4611686018427387904) :
    Calls Try.prog 17 #[.slice A n c] w fun e w' => ∃ m : Int, e = .returned (.int .i64 m) ∧ (m < 0 ↔ ∃ z ∈ zs, z < 0) ∧ w' = w := by
  obtain ⟨b, off, rfl, hb, hc⟩ := hI (by omega)
  have HC : Aside (∀ j, j < zs.length → w.cell? ⟨b, off + j, none⟩ = some (.int .i64 (zs.getD j 0))) := hc
  obtain ⟨z0, hz0⟩ : ∃ z0, z0 = zs.getD 0 0 := ⟨_, rfl⟩
  have c0 := hc 0 (by omega)
  rw [← hz0, Nat.add_zero] at c0
  have HZ0 : Aside (z0 = zs.getD 0 0) := hz0
  have HN : Aside (n = zs.length) := hn
  have hn2 : n ≤ 4611686018427387904 := by omega
  have q0 : decide ((n : Int) < 1) = false := decide_eq_false (by omega)
  have q0n : ¬ (n : Int) < 1 := by omega
  have q2 : (0 : Int) < (n : Int) := by omega
  clear hI hc hz0 hn
  go_enter Try.func17, Try.ntmps17
  go_wp2_with fail
  go_loopg [3, 4] n (fun kx s3 s4 wr => ∃ (i : Nat) (m : Int), s3 = .int .i64 m ∧ s4 = .int .i64 i ∧ 1 ≤ i ∧ i ≤ n ∧ n - i ≤ kx ∧ wr = w ∧ Aside (m ∈ zs ∧ ∀ j, j < i → m ≤ zs.getD j 0))
  case atStart => exact ⟨1, z0, rfl, rfl, by omega, by omega, by omega, rfl, by
    refine ⟨?_, fun j hj => ?_⟩
    · rw [HZ0.out]; exact getD_mem (by have := HN.out; omega)
    · obtain rfl : j = 0 := by omega
      rw [HZ0.out]; exact Int.le_refl _⟩
  case round =>
    obtain ⟨i, m, rfl, rfl, hi1, hin, hk, hwr, HM⟩ := hrel
    have hwr2 := hwr.symm
    clear hwr
    subst hwr2
    by_cases hlt : i < n
    · have q1 : decide ((i : Int) < (n : Int)) = true := decide_eq_true (by omega)
      obtain ⟨z, hz⟩ : ∃ z, z = zs.getD i 0 := ⟨_, rfl⟩
      have hcz := HC.out i (by have := HN.out; omega)
      rw [← hz] at hcz
      have HZ : Aside (z = zs.getD i 0) := hz
      have ei : ((i : Int)).toNat = i := by omega
      clear hz
      obtain ⟨m2, hm2⟩ : ∃ m2, (if z < m then z else m) = m2 := ⟨_, rfl⟩
      have HM2 : Aside (m2 ∈ zs ∧ ∀ j, j < i + 1 → m2 ≤ zs.getD j 0) := by
        have h9 := HM.out
        refine ⟨?_, fun j hj => ?_⟩
        · rw [← hm2]
          split
          · rw [HZ.out]; exact getD_mem (by have := HN.out; omega)
          · exact h9.1
        · have h8 : m2 ≤ z ∧ m2 ≤ m := by rw [← hm2]; split <;> omega
          by_cases cj : j = i
          · rw [cj, ← HZ.out]; exact h8.1
          · exact Int.le_trans h8.2 (h9.2 j (by omega))
      clear HM
      go_wp2_with fail
      go_roundg (n - (i + 1))
      case measure => omega
      case rel => exact ⟨i + 1, m2, rfl, by go_num, by omega, by omega, Nat.le_refl _, rfl, HM2⟩
    · have q1 : decide ((i : Int) < (n : Int)) = false := decide_eq_false (by omega)
      go_wp2_with fail
      go_ret
      refine ⟨m, rfl, ⟨fun h => ⟨m, HM.out.1, h⟩, fun ⟨z, hz, hz2⟩ => ?_⟩, rfl⟩
      obtain ⟨j, hj, e⟩ := List.getElem_of_mem hz
      have h8 := HM.out.2 j (by have := HN.out; omega)
      rw [List.getD_eq_getElem?_getD, List.getElem?_eq_getElem hj, e] at h8
      simp at h8
      omega
/-- Weights that may be. -/
def Fine (zs : List Int) : Prop := 1 ≤ zs.length ∧ zs.length ≤ 4096 ∧ (∀ z ∈ zs, 0 ≤ z) ∧ 0 < zs.sum ∧ zs.sum < 4611686018427387904
set_option maxHeartbeats 4000000 in
theorem sum_calls (A : Option Addr) (zs : List Int) (n c : Nat) (w : World) (hI : Ints w A zs) (hn : n = zs.length) (hz : ∀ z ∈ zs, I64 z) (hl : zs.length ≤ 9223372036854775807) :
    Calls Try.prog 8 #[.slice A n c] w fun e w' => ∃ (s : Int) (is : Bool), e = .returned (.tuple #[.int .i64 s, .bool is]) ∧ (is = true ↔ Fine zs) ∧ (is = true → s = zs.sum) ∧ Only [] w w' := by
  by_cases h1 : n < 1
  · have q1 : decide ((n : Int) < 1) = true := decide_eq_true (by omega)
    have q1n : (n : Int) < 1 := by omega
    have hF : ¬ Fine zs := fun h => by have := h.1; omega
    have HF : Aside (¬ Fine zs) := hF
    clear hF hI hz hn
    go_enter Try.func8, Try.ntmps8
    go_wp2_with fail
    go_ret2
    exact ⟨0, false, rfl, by simp only [Bool.false_eq_true, false_iff]; exact HF.out, fun h => by simp at h, Only.refl _ _⟩
  have q1 : decide ((n : Int) < 1) = false := decide_eq_false (by omega)
  by_cases h2 : 4096 < n
  · have q2 : decide ((4096 : Int) < (n : Int)) = true := decide_eq_true (by omega)
    have hF : ¬ Fine zs := fun h => by have := h.2.1; omega
    have HF : Aside (¬ Fine zs) := hF
    clear hF hI hz hn
    go_enter Try.func8, Try.ntmps8
    go_wp2_with fail
    go_ret2
    exact ⟨0, false, rfl, by simp only [Bool.false_eq_true, false_iff]; exact HF.out, fun h => by simp at h, Only.refl _ _⟩
  have q2 : decide ((4096 : Int) < (n : Int)) = false := decide_eq_false (by omega)
  have hmin := Min_calls A zs n c w hI hn (by omega) (by omega)
  have hsum := Sum_calls A zs n c w hI hn hz hl
  have e17 : ∀ args w, (callFunc 17 args).run Try.prog w = .ok (.enter 17 args) w := enters_of Try.func17 (by kernel_rfl) rfl
  have e5 : ∀ args w, (callFunc 5 args).run Try.prog w = .ok (.enter 5 args) w := enters_of Try.func5 (by kernel_rfl) rfl
  have HL : Aside (1 ≤ zs.length ∧ zs.length ≤ 4096) := ⟨by omega, by omega⟩
  clear hI hz hn
  go_enter Try.func8, Try.ntmps8
  go_wp2_with fail
  go_at_call 17
  refine hmin.mono ?_
  rintro e w2 ⟨m, rfl, hm, hw2⟩
  have hw3 := hw2.symm
  clear hw2 hmin
  subst hw3
  have HM : Aside (m < 0 ↔ ∃ z ∈ zs, z < 0) := hm
  clear hm
  by_cases h3 : m < 0
  · have q3 : decide (m < 0) = true := decide_eq_true h3
    have HF : Aside (¬ Fine zs) := fun h => by
      obtain ⟨z, z1, z2⟩ := HM.out.1 h3
      have := h.2.2.1 z z1
      omega
    go_wp2_with fail
    go_ret2
    exact ⟨0, false, rfl, by simp only [Bool.false_eq_true, false_iff]; exact HF.out, fun h => by simp at h, Only.refl _ _⟩
  have q3 : decide (m < 0) = false := decide_eq_false h3
  have HP : Aside (∀ z ∈ zs, 0 ≤ z) := fun z z1 => by
    by_cases z2 : z < 0
    · exact absurd (HM.out.2 ⟨z, z1, z2⟩) h3
    · omega
  clear HM
  go_wp2_with fail
  go_at_call 5
  refine hsum.mono ?_
  rintro e w3 ⟨s, is, rfl, hs1, hs2, ho⟩
  have HS : Aside ((is = true ↔ I64 zs.sum) ∧ (is = true → s = zs.sum) ∧ Only [] w w3) := ⟨hs1, hs2, ho⟩
  clear hsum hs1 hs2 ho
  have hF : Fine zs ↔ (is = true ∧ 0 < s ∧ s < 4611686018427387904) := by
    constructor
    · intro h
      have h9 : is = true := HS.out.1.2 ⟨by have := h.2.2.2.1; omega, by have := h.2.2.2.2; omega⟩
      rw [HS.out.2.1 h9]
      exact ⟨h9, h.2.2.2⟩
    · intro ⟨h9, h8⟩
      rw [HS.out.2.1 h9] at h8
      exact ⟨HL.out.1, HL.out.2, HP.out, h8⟩
  have HF : Aside (Fine zs ↔ (is = true ∧ 0 < s ∧ s < 4611686018427387904)) := hF
  clear hF
  by_cases hok : is = true ∧ 0 < s ∧ s < 4611686018427387904
  · have t1 : decide (0 < s) = true := decide_eq_true hok.2.1
    have t2 : decide (s < 4611686018427387904) = true := decide_eq_true hok.2.2
    obtain ⟨rfl, h5, h6⟩ := hok
    go_wp2_with fail
    go_ret2
    exact ⟨s, true, rfl, by simp only [true_iff]; exact HF.out.2 ⟨by simp, h5, h6⟩, fun _ => HS.out.2.1 (by simp), HS.out.2.2⟩
  · have HN : Aside (¬ Fine zs) := fun h => hok (HF.out.1 h)
    have HOK : Aside (¬ (is = true ∧ 0 < s ∧ s < 4611686018427387904)) := hok
    clear hok HF
    cases is with
    | false =>
      go_wp2_with fail
      go_ret2
      exact ⟨s, false, rfl, by simp only [Bool.false_eq_true, false_iff]; exact HN.out, fun h => by simp at h, HS.out.2.2⟩
    | true =>
      by_cases h5 : 0 < s
      · have t1 : decide (0 < s) = true := decide_eq_true h5
        have t2 : decide (s < 4611686018427387904) = false := decide_eq_false (fun h => HOK.out ⟨rfl, h5, h⟩)
        go_wp2_with fail
        go_ret2
        exact ⟨s, false, rfl, by simp only [Bool.false_eq_true, false_iff]; exact HN.out, fun h => by simp at h, HS.out.2.2⟩
      · have t1 : decide (0 < s) = false := decide_eq_false h5
        go_wp2_with fail
        go_ret2
        exact ⟨s, false, rfl, by simp only [Bool.false_eq_true, false_iff]; exact HN.out, fun h => by simp at h, HS.out.2.2⟩
end Go.Proofs.Ytmjohabfikpahaa
