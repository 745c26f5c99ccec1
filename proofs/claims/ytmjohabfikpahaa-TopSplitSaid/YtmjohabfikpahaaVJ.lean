/- The law TopSplit, where the split is refused. -/
import Derived.Test.YtmjohabfikpahaaVI
set_option maxRecDepth 1000000
set_option linter.unusedVariables false
set_option linter.unusedSimpArgs false
namespace Go.Proofs.Ytmjohabfikpahaa
open Go Go.Shelf Go.RowKit Go.Lib Go.Sort Go.Proofs
set_option maxHeartbeats 8000000 in
theorem law_refused (t : Int) (A : Option Addr) (zs : List Int) (n c : Nat) (w : World) (hI : Ints w A zs) (hn : n = zs.length) (hz : ∀ z ∈ zs, I64 z) (hl : zs.length ≤ 9223372036854775807) (h : ¬ Takes t zs) :
    Calls Try.prog 3 #[.int .i64 t, .slice A n c] w fun e w' => e = .returned (.bool true) ∧ Only [] w w' := by
  have hsp := Split_refused t A zs n c w hI hn hz hl h
  have hsum := fun w1 h1 => Sum_calls A zs n c w1 h1 hn hz hl
  have e4 : ∀ args w, (callFunc 4 args).run Try.prog w = .ok (.enter 4 args) w := enters_of Try.func4 (by kernel_rfl) rfl
  have e5 : ∀ args w, (callFunc 5 args).run Try.prog w = .ok (.enter 5 args) w := enters_of Try.func5 (by kernel_rfl) rfl
  have e6 : ∀ args w, (callFunc 6 args).run Try.prog w = .ok (.enter 6 args) w := enters_of Try.func6 (by kernel_rfl) rfl
  have HN : Aside (n = zs.length) := hn
  have HNT : Aside (¬ Takes t zs) := h
  have HI : Aside (Ints w A zs) := hI
  have hnb : n ≤ 9223372036854775807 := by omega
  clear hI hn hz h hl
  go_enter Try.func3, Try.ntmps3
  go_wp2_with fail
  go_at_call 4
  refine hsp.mono ?_
  rintro e w1 ⟨rfl, o1⟩
  have hsum2 := hsum w1 (HI.out.new o1)
  have HO1 : Aside (Only [] w w1) := o1
  clear hsp hsum o1
  go_wp2_with fail
  go_at_call 5
  refine hsum2.mono ?_
  rintro e w2 ⟨s, fits, rfl, hs1, hs2, o2⟩
  have HO2 : Aside (Only [] w w2) := HO1.out.trans o2 (fun _ h _ => h)
  have HS : Aside ((fits = true ↔ I64 zs.sum) ∧ (fits = true → s = zs.sum)) := ⟨hs1, hs2⟩
  have HI2 : Aside (Ints w2 A zs) := HI.out.new HO2.out
  clear hsum2 hs1 hs2 o2 HO1 HI
  by_cases b0 : 0 ≤ t
  · have q0 : decide ((0 : Int) ≤ t) = true := decide_eq_true (by omega)
    by_cases b1 : t < 4611686018427387904
    · have q1 : decide (t < (4611686018427387904 : Int)) = true := decide_eq_true (by omega)
      by_cases b2 : 1 ≤ n
      · have q2 : decide ((1 : Int) ≤ (n : Int)) = true := decide_eq_true (by omega)
        by_cases b3 : n ≤ 4096
        · have q3 : decide ((n : Int) ≤ (4096 : Int)) = true := decide_eq_true (by omega)
          cases fits with
          | false =>
            have qf : False ∨ True := .inr trivial
            have HBAD : Aside ((false = true ∧ ∀ j, j < n → 0 ≤ zs.getD j 0) → False) := fun h => by simp at h
            go_wp2_with fail
            go_loopg [9, 10] n (fun kx s9 s10 wr => ∃ (i : Nat) (f : Bool), s9 = .bool f ∧ s10 = .int .i64 i ∧ i ≤ n ∧ n - i ≤ kx ∧ Aside (f = true ↔ (false = true ∧ ∀ j, j < i → 0 ≤ zs.getD j 0)) ∧ wr = w2)
            case atStart => exact ⟨0, false, rfl, rfl, by omega, by omega, (show _ ↔ _ from ⟨fun h => ⟨h, fun j hj => by omega⟩, fun h => h.1⟩), rfl⟩
            case round =>
              obtain ⟨i, f, rfl, rfl, hin, hk, HF, hwr⟩ := hrel
              have hwr2 := hwr.symm
              clear hwr
              subst hwr2
              by_cases hlt : i < n
              · have p1 : decide ((i : Int) < (n : Int)) = true := decide_eq_true (by omega)
                have p2 : (i : Int) < (n : Int) := by omega
                have ei : ((i : Int)).toNat = i := by omega
                obtain ⟨b, off, hA, hb, hc⟩ := HI2.out (by have := HN.out; omega)
                subst hA
                obtain ⟨z, hzz⟩ : ∃ z, z = zs.getD i 0 := ⟨_, rfl⟩
                have hcz := hc i (by have := HN.out; omega)
                rw [← hzz] at hcz
                have HZ : Aside (z = zs.getD i 0) := hzz
                clear hc hzz
                have hnext : ∀ f2 : Bool, (f2 = true ↔ (f = true ∧ 0 ≤ z)) → (f2 = true ↔ (false = true ∧ ∀ j, j < i + 1 → 0 ≤ zs.getD j 0)) := fun f2 h2 => by
                  rw [h2, HF.out]
                  constructor
                  · rintro ⟨⟨g1, g2⟩, g3⟩
                    exact ⟨g1, fun j hj => by
                      by_cases c : j = i
                      · subst c; rw [← HZ.out]; exact g3
                      · exact g2 j (by omega)⟩
                  · rintro ⟨g1, g2⟩
                    exact ⟨⟨g1, fun j hj => g2 j (by omega)⟩, by rw [HZ.out]; exact g2 i (by omega)⟩
                have HX : Aside (∀ f2 : Bool, (f2 = true ↔ (f = true ∧ 0 ≤ z)) → (f2 = true ↔ (false = true ∧ ∀ j, j < i + 1 → 0 ≤ zs.getD j 0))) := hnext
                clear hnext HF
                cases f with
                | false =>
                  go_wp2_with fail
                  go_roundg (n - (i + 1))
                  case measure => omega
                  case rel => exact ⟨i + 1, false, rfl, by go_num, hlt, Nat.le_refl _, HX.out false (by simp), rfl⟩
                | true =>
                  by_cases hz0 : 0 ≤ z
                  · have p3 : decide ((0 : Int) ≤ z) = true := decide_eq_true hz0
                    go_wp2_with fail
                    go_roundg (n - (i + 1))
                    case measure => omega
                    case rel => exact ⟨i + 1, true, rfl, by go_num, hlt, Nat.le_refl _, HX.out true (by simp [hz0]), rfl⟩
                  · have p3 : decide ((0 : Int) ≤ z) = false := decide_eq_false hz0
                    go_wp2_with fail
                    go_roundg (n - (i + 1))
                    case measure => omega
                    case rel => exact ⟨i + 1, false, rfl, by go_num, hlt, Nat.le_refl _, HX.out false (by simp [hz0]), rfl⟩
              · have p1 : decide ((i : Int) < (n : Int)) = false := decide_eq_false (by omega)
                have hin2 : i = n := by omega
                subst hin2
                obtain rfl : f = false := by
                  cases f with
                  | false => rfl
                  | true => first | exact absurd (HBAD.out (HF.out.1 rfl)) (by simp) | exact absurd (HBAD.out ⟨trivial, (HF.out.1 rfl).2⟩) (by simp)
                clear HF
                go_wp2_with fail
                go_at_call 6
                refine (halves_calls _).mono ?_
                rintro e w3 ⟨rfl, o3⟩
                have HO3 : Aside (Only [] w w3) := HO2.out.trans o3 (fun _ h _ => h)
                clear o3
                go_wp2_with fail
                go_ret
                exact ⟨rfl, HO3.out⟩
          | true =>
            by_cases b5 : 0 < s
            · have q5 : decide ((0 : Int) < s) = true := decide_eq_true b5
              by_cases b6 : s < 4611686018427387904
              · have q6 : decide (s < (4611686018427387904 : Int)) = true := decide_eq_true b6
                have HBAD : Aside ((true = true ∧ ∀ j, j < n → 0 ≤ zs.getD j 0) → False) := fun h => HNT.out ⟨⟨by have := HN.out; omega, by have := HN.out; omega, fun z hz => by
                    obtain ⟨j, hj, e⟩ := List.getElem_of_mem hz
                    have h9 := h.2 j (by have := HN.out; omega)
                    rw [List.getD_eq_getElem?_getD, List.getElem?_eq_getElem hj, e] at h9
                    exact h9, by rw [← HS.out.2 (by simp)]; exact b5, by rw [← HS.out.2 (by simp)]; exact b6⟩, b0, b1⟩
                go_wp2_with fail
                go_loopg [9, 10] n (fun kx s9 s10 wr => ∃ (i : Nat) (f : Bool), s9 = .bool f ∧ s10 = .int .i64 i ∧ i ≤ n ∧ n - i ≤ kx ∧ Aside (f = true ↔ (true = true ∧ ∀ j, j < i → 0 ≤ zs.getD j 0)) ∧ wr = w2)
                case atStart => exact ⟨0, true, rfl, rfl, by omega, by omega, (show _ ↔ _ from ⟨fun h => ⟨h, fun j hj => by omega⟩, fun h => h.1⟩), rfl⟩
                case round =>
                  obtain ⟨i, f, rfl, rfl, hin, hk, HF, hwr⟩ := hrel
                  have hwr2 := hwr.symm
                  clear hwr
                  subst hwr2
                  by_cases hlt : i < n
                  · have p1 : decide ((i : Int) < (n : Int)) = true := decide_eq_true (by omega)
                    have p2 : (i : Int) < (n : Int) := by omega
                    have ei : ((i : Int)).toNat = i := by omega
                    obtain ⟨b, off, hA, hb, hc⟩ := HI2.out (by have := HN.out; omega)
                    subst hA
                    obtain ⟨z, hzz⟩ : ∃ z, z = zs.getD i 0 := ⟨_, rfl⟩
                    have hcz := hc i (by have := HN.out; omega)
                    rw [← hzz] at hcz
                    have HZ : Aside (z = zs.getD i 0) := hzz
                    clear hc hzz
                    have hnext : ∀ f2 : Bool, (f2 = true ↔ (f = true ∧ 0 ≤ z)) → (f2 = true ↔ (true = true ∧ ∀ j, j < i + 1 → 0 ≤ zs.getD j 0)) := fun f2 h2 => by
                      rw [h2, HF.out]
                      constructor
                      · rintro ⟨⟨g1, g2⟩, g3⟩
                        exact ⟨g1, fun j hj => by
                          by_cases c : j = i
                          · subst c; rw [← HZ.out]; exact g3
                          · exact g2 j (by omega)⟩
                      · rintro ⟨g1, g2⟩
                        exact ⟨⟨g1, fun j hj => g2 j (by omega)⟩, by rw [HZ.out]; exact g2 i (by omega)⟩
                    have HX : Aside (∀ f2 : Bool, (f2 = true ↔ (f = true ∧ 0 ≤ z)) → (f2 = true ↔ (true = true ∧ ∀ j, j < i + 1 → 0 ≤ zs.getD j 0))) := hnext
                    clear hnext HF
                    cases f with
                    | false =>
                      go_wp2_with fail
                      go_roundg (n - (i + 1))
                      case measure => omega
                      case rel => exact ⟨i + 1, false, rfl, by go_num, hlt, Nat.le_refl _, HX.out false (by simp), rfl⟩
                    | true =>
                      by_cases hz0 : 0 ≤ z
                      · have p3 : decide ((0 : Int) ≤ z) = true := decide_eq_true hz0
                        go_wp2_with fail
                        go_roundg (n - (i + 1))
                        case measure => omega
                        case rel => exact ⟨i + 1, true, rfl, by go_num, hlt, Nat.le_refl _, HX.out true (by simp [hz0]), rfl⟩
                      · have p3 : decide ((0 : Int) ≤ z) = false := decide_eq_false hz0
                        go_wp2_with fail
                        go_roundg (n - (i + 1))
                        case measure => omega
                        case rel => exact ⟨i + 1, false, rfl, by go_num, hlt, Nat.le_refl _, HX.out false (by simp [hz0]), rfl⟩
                  · have p1 : decide ((i : Int) < (n : Int)) = false := decide_eq_false (by omega)
                    have hin2 : i = n := by omega
                    subst hin2
                    obtain rfl : f = false := by
                      cases f with
                      | false => rfl
                      | true => first | exact absurd (HBAD.out (HF.out.1 rfl)) (by simp) | exact absurd (HBAD.out ⟨trivial, (HF.out.1 rfl).2⟩) (by simp)
                    clear HF
                    go_wp2_with fail
                    go_at_call 6
                    refine (halves_calls _).mono ?_
                    rintro e w3 ⟨rfl, o3⟩
                    have HO3 : Aside (Only [] w w3) := HO2.out.trans o3 (fun _ h _ => h)
                    clear o3
                    go_wp2_with fail
                    go_ret
                    exact ⟨rfl, HO3.out⟩
              · have q6 : decide (s < (4611686018427387904 : Int)) = false := decide_eq_false b6
                have HBAD : Aside ((false = true ∧ ∀ j, j < n → 0 ≤ zs.getD j 0) → False) := fun h => by simp at h
                go_wp2_with fail
                go_loopg [9, 10] n (fun kx s9 s10 wr => ∃ (i : Nat) (f : Bool), s9 = .bool f ∧ s10 = .int .i64 i ∧ i ≤ n ∧ n - i ≤ kx ∧ Aside (f = true ↔ (false = true ∧ ∀ j, j < i → 0 ≤ zs.getD j 0)) ∧ wr = w2)
                case atStart => exact ⟨0, false, rfl, rfl, by omega, by omega, (show _ ↔ _ from ⟨fun h => ⟨h, fun j hj => by omega⟩, fun h => h.1⟩), rfl⟩
                case round =>
                  obtain ⟨i, f, rfl, rfl, hin, hk, HF, hwr⟩ := hrel
                  have hwr2 := hwr.symm
                  clear hwr
                  subst hwr2
                  by_cases hlt : i < n
                  · have p1 : decide ((i : Int) < (n : Int)) = true := decide_eq_true (by omega)
                    have p2 : (i : Int) < (n : Int) := by omega
                    have ei : ((i : Int)).toNat = i := by omega
                    obtain ⟨b, off, hA, hb, hc⟩ := HI2.out (by have := HN.out; omega)
                    subst hA
                    obtain ⟨z, hzz⟩ : ∃ z, z = zs.getD i 0 := ⟨_, rfl⟩
                    have hcz := hc i (by have := HN.out; omega)
                    rw [← hzz] at hcz
                    have HZ : Aside (z = zs.getD i 0) := hzz
                    clear hc hzz
                    have hnext : ∀ f2 : Bool, (f2 = true ↔ (f = true ∧ 0 ≤ z)) → (f2 = true ↔ (false = true ∧ ∀ j, j < i + 1 → 0 ≤ zs.getD j 0)) := fun f2 h2 => by
                      rw [h2, HF.out]
                      constructor
                      · rintro ⟨⟨g1, g2⟩, g3⟩
                        exact ⟨g1, fun j hj => by
                          by_cases c : j = i
                          · subst c; rw [← HZ.out]; exact g3
                          · exact g2 j (by omega)⟩
                      · rintro ⟨g1, g2⟩
                        exact ⟨⟨g1, fun j hj => g2 j (by omega)⟩, by rw [HZ.out]; exact g2 i (by omega)⟩
                    have HX : Aside (∀ f2 : Bool, (f2 = true ↔ (f = true ∧ 0 ≤ z)) → (f2 = true ↔ (false = true ∧ ∀ j, j < i + 1 → 0 ≤ zs.getD j 0))) := hnext
                    clear hnext HF
                    cases f with
                    | false =>
                      go_wp2_with fail
                      go_roundg (n - (i + 1))
                      case measure => omega
                      case rel => exact ⟨i + 1, false, rfl, by go_num, hlt, Nat.le_refl _, HX.out false (by simp), rfl⟩
                    | true =>
                      by_cases hz0 : 0 ≤ z
                      · have p3 : decide ((0 : Int) ≤ z) = true := decide_eq_true hz0
                        go_wp2_with fail
                        go_roundg (n - (i + 1))
                        case measure => omega
                        case rel => exact ⟨i + 1, true, rfl, by go_num, hlt, Nat.le_refl _, HX.out true (by simp [hz0]), rfl⟩
                      · have p3 : decide ((0 : Int) ≤ z) = false := decide_eq_false hz0
                        go_wp2_with fail
                        go_roundg (n - (i + 1))
                        case measure => omega
                        case rel => exact ⟨i + 1, false, rfl, by go_num, hlt, Nat.le_refl _, HX.out false (by simp [hz0]), rfl⟩
                  · have p1 : decide ((i : Int) < (n : Int)) = false := decide_eq_false (by omega)
                    have hin2 : i = n := by omega
                    subst hin2
                    obtain rfl : f = false := by
                      cases f with
                      | false => rfl
                      | true => first | exact absurd (HBAD.out (HF.out.1 rfl)) (by simp) | exact absurd (HBAD.out ⟨trivial, (HF.out.1 rfl).2⟩) (by simp)
                    clear HF
                    go_wp2_with fail
                    go_at_call 6
                    refine (halves_calls _).mono ?_
                    rintro e w3 ⟨rfl, o3⟩
                    have HO3 : Aside (Only [] w w3) := HO2.out.trans o3 (fun _ h _ => h)
                    clear o3
                    go_wp2_with fail
                    go_ret
                    exact ⟨rfl, HO3.out⟩
            · have q5 : decide ((0 : Int) < s) = false := decide_eq_false b5
              have HBAD : Aside ((false = true ∧ ∀ j, j < n → 0 ≤ zs.getD j 0) → False) := fun h => by simp at h
              go_wp2_with fail
              go_loopg [9, 10] n (fun kx s9 s10 wr => ∃ (i : Nat) (f : Bool), s9 = .bool f ∧ s10 = .int .i64 i ∧ i ≤ n ∧ n - i ≤ kx ∧ Aside (f = true ↔ (false = true ∧ ∀ j, j < i → 0 ≤ zs.getD j 0)) ∧ wr = w2)
              case atStart => exact ⟨0, false, rfl, rfl, by omega, by omega, (show _ ↔ _ from ⟨fun h => ⟨h, fun j hj => by omega⟩, fun h => h.1⟩), rfl⟩
              case round =>
                obtain ⟨i, f, rfl, rfl, hin, hk, HF, hwr⟩ := hrel
                have hwr2 := hwr.symm
                clear hwr
                subst hwr2
                by_cases hlt : i < n
                · have p1 : decide ((i : Int) < (n : Int)) = true := decide_eq_true (by omega)
                  have p2 : (i : Int) < (n : Int) := by omega
                  have ei : ((i : Int)).toNat = i := by omega
                  obtain ⟨b, off, hA, hb, hc⟩ := HI2.out (by have := HN.out; omega)
                  subst hA
                  obtain ⟨z, hzz⟩ : ∃ z, z = zs.getD i 0 := ⟨_, rfl⟩
                  have hcz := hc i (by have := HN.out; omega)
                  rw [← hzz] at hcz
                  have HZ : Aside (z = zs.getD i 0) := hzz
                  clear hc hzz
                  have hnext : ∀ f2 : Bool, (f2 = true ↔ (f = true ∧ 0 ≤ z)) → (f2 = true ↔ (false = true ∧ ∀ j, j < i + 1 → 0 ≤ zs.getD j 0)) := fun f2 h2 => by
                    rw [h2, HF.out]
                    constructor
                    · rintro ⟨⟨g1, g2⟩, g3⟩
                      exact ⟨g1, fun j hj => by
                        by_cases c : j = i
                        · subst c; rw [← HZ.out]; exact g3
                        · exact g2 j (by omega)⟩
                    · rintro ⟨g1, g2⟩
                      exact ⟨⟨g1, fun j hj => g2 j (by omega)⟩, by rw [HZ.out]; exact g2 i (by omega)⟩
                  have HX : Aside (∀ f2 : Bool, (f2 = true ↔ (f = true ∧ 0 ≤ z)) → (f2 = true ↔ (false = true ∧ ∀ j, j < i + 1 → 0 ≤ zs.getD j 0))) := hnext
                  clear hnext HF
                  cases f with
                  | false =>
                    go_wp2_with fail
                    go_roundg (n - (i + 1))
                    case measure => omega
                    case rel => exact ⟨i + 1, false, rfl, by go_num, hlt, Nat.le_refl _, HX.out false (by simp), rfl⟩
                  | true =>
                    by_cases hz0 : 0 ≤ z
                    · have p3 : decide ((0 : Int) ≤ z) = true := decide_eq_true hz0
                      go_wp2_with fail
                      go_roundg (n - (i + 1))
                      case measure => omega
                      case rel => exact ⟨i + 1, true, rfl, by go_num, hlt, Nat.le_refl _, HX.out true (by simp [hz0]), rfl⟩
                    · have p3 : decide ((0 : Int) ≤ z) = false := decide_eq_false hz0
                      go_wp2_with fail
                      go_roundg (n - (i + 1))
                      case measure => omega
                      case rel => exact ⟨i + 1, false, rfl, by go_num, hlt, Nat.le_refl _, HX.out false (by simp [hz0]), rfl⟩
                · have p1 : decide ((i : Int) < (n : Int)) = false := decide_eq_false (by omega)
                  have hin2 : i = n := by omega
                  subst hin2
                  obtain rfl : f = false := by
                    cases f with
                    | false => rfl
                    | true => first | exact absurd (HBAD.out (HF.out.1 rfl)) (by simp) | exact absurd (HBAD.out ⟨trivial, (HF.out.1 rfl).2⟩) (by simp)
                  clear HF
                  go_wp2_with fail
                  go_at_call 6
                  refine (halves_calls _).mono ?_
                  rintro e w3 ⟨rfl, o3⟩
                  have HO3 : Aside (Only [] w w3) := HO2.out.trans o3 (fun _ h _ => h)
                  clear o3
                  go_wp2_with fail
                  go_ret
                  exact ⟨rfl, HO3.out⟩
        · have q3 : decide ((n : Int) ≤ (4096 : Int)) = false := decide_eq_false (by omega)
          have HBAD : Aside ((false = true ∧ ∀ j, j < n → 0 ≤ zs.getD j 0) → False) := fun h => by simp at h
          go_wp2_with fail
          go_loopg [9, 10] n (fun kx s9 s10 wr => ∃ (i : Nat) (f : Bool), s9 = .bool f ∧ s10 = .int .i64 i ∧ i ≤ n ∧ n - i ≤ kx ∧ Aside (f = true ↔ (false = true ∧ ∀ j, j < i → 0 ≤ zs.getD j 0)) ∧ wr = w2)
          case atStart => exact ⟨0, false, rfl, rfl, by omega, by omega, (show _ ↔ _ from ⟨fun h => ⟨h, fun j hj => by omega⟩, fun h => h.1⟩), rfl⟩
          case round =>
            obtain ⟨i, f, rfl, rfl, hin, hk, HF, hwr⟩ := hrel
            have hwr2 := hwr.symm
            clear hwr
            subst hwr2
            by_cases hlt : i < n
            · have p1 : decide ((i : Int) < (n : Int)) = true := decide_eq_true (by omega)
              have p2 : (i : Int) < (n : Int) := by omega
              have ei : ((i : Int)).toNat = i := by omega
              obtain ⟨b, off, hA, hb, hc⟩ := HI2.out (by have := HN.out; omega)
              subst hA
              obtain ⟨z, hzz⟩ : ∃ z, z = zs.getD i 0 := ⟨_, rfl⟩
              have hcz := hc i (by have := HN.out; omega)
              rw [← hzz] at hcz
              have HZ : Aside (z = zs.getD i 0) := hzz
              clear hc hzz
              have hnext : ∀ f2 : Bool, (f2 = true ↔ (f = true ∧ 0 ≤ z)) → (f2 = true ↔ (false = true ∧ ∀ j, j < i + 1 → 0 ≤ zs.getD j 0)) := fun f2 h2 => by
                rw [h2, HF.out]
                constructor
                · rintro ⟨⟨g1, g2⟩, g3⟩
                  exact ⟨g1, fun j hj => by
                    by_cases c : j = i
                    · subst c; rw [← HZ.out]; exact g3
                    · exact g2 j (by omega)⟩
                · rintro ⟨g1, g2⟩
                  exact ⟨⟨g1, fun j hj => g2 j (by omega)⟩, by rw [HZ.out]; exact g2 i (by omega)⟩
              have HX : Aside (∀ f2 : Bool, (f2 = true ↔ (f = true ∧ 0 ≤ z)) → (f2 = true ↔ (false = true ∧ ∀ j, j < i + 1 → 0 ≤ zs.getD j 0))) := hnext
              clear hnext HF
              cases f with
              | false =>
                go_wp2_with fail
                go_roundg (n - (i + 1))
                case measure => omega
                case rel => exact ⟨i + 1, false, rfl, by go_num, hlt, Nat.le_refl _, HX.out false (by simp), rfl⟩
              | true =>
                by_cases hz0 : 0 ≤ z
                · have p3 : decide ((0 : Int) ≤ z) = true := decide_eq_true hz0
                  go_wp2_with fail
                  go_roundg (n - (i + 1))
                  case measure => omega
                  case rel => exact ⟨i + 1, true, rfl, by go_num, hlt, Nat.le_refl _, HX.out true (by simp [hz0]), rfl⟩
                · have p3 : decide ((0 : Int) ≤ z) = false := decide_eq_false hz0
                  go_wp2_with fail
                  go_roundg (n - (i + 1))
                  case measure => omega
                  case rel => exact ⟨i + 1, false, rfl, by go_num, hlt, Nat.le_refl _, HX.out false (by simp [hz0]), rfl⟩
            · have p1 : decide ((i : Int) < (n : Int)) = false := decide_eq_false (by omega)
              have hin2 : i = n := by omega
              subst hin2
              obtain rfl : f = false := by
                cases f with
                | false => rfl
                | true => first | exact absurd (HBAD.out (HF.out.1 rfl)) (by simp) | exact absurd (HBAD.out ⟨trivial, (HF.out.1 rfl).2⟩) (by simp)
              clear HF
              go_wp2_with fail
              go_at_call 6
              refine (halves_calls _).mono ?_
              rintro e w3 ⟨rfl, o3⟩
              have HO3 : Aside (Only [] w w3) := HO2.out.trans o3 (fun _ h _ => h)
              clear o3
              go_wp2_with fail
              go_ret
              exact ⟨rfl, HO3.out⟩
      · have q2 : decide ((1 : Int) ≤ (n : Int)) = false := decide_eq_false (by omega)
        have HBAD : Aside ((false = true ∧ ∀ j, j < n → 0 ≤ zs.getD j 0) → False) := fun h => by simp at h
        go_wp2_with fail
        go_loopg [9, 10] n (fun kx s9 s10 wr => ∃ (i : Nat) (f : Bool), s9 = .bool f ∧ s10 = .int .i64 i ∧ i ≤ n ∧ n - i ≤ kx ∧ Aside (f = true ↔ (false = true ∧ ∀ j, j < i → 0 ≤ zs.getD j 0)) ∧ wr = w2)
        case atStart => exact ⟨0, false, rfl, rfl, by omega, by omega, (show _ ↔ _ from ⟨fun h => ⟨h, fun j hj => by omega⟩, fun h => h.1⟩), rfl⟩
        case round =>
          obtain ⟨i, f, rfl, rfl, hin, hk, HF, hwr⟩ := hrel
          have hwr2 := hwr.symm
          clear hwr
          subst hwr2
          by_cases hlt : i < n
          · have p1 : decide ((i : Int) < (n : Int)) = true := decide_eq_true (by omega)
            have p2 : (i : Int) < (n : Int) := by omega
            have ei : ((i : Int)).toNat = i := by omega
            obtain ⟨b, off, hA, hb, hc⟩ := HI2.out (by have := HN.out; omega)
            subst hA
            obtain ⟨z, hzz⟩ : ∃ z, z = zs.getD i 0 := ⟨_, rfl⟩
            have hcz := hc i (by have := HN.out; omega)
            rw [← hzz] at hcz
            have HZ : Aside (z = zs.getD i 0) := hzz
            clear hc hzz
            have hnext : ∀ f2 : Bool, (f2 = true ↔ (f = true ∧ 0 ≤ z)) → (f2 = true ↔ (false = true ∧ ∀ j, j < i + 1 → 0 ≤ zs.getD j 0)) := fun f2 h2 => by
              rw [h2, HF.out]
              constructor
              · rintro ⟨⟨g1, g2⟩, g3⟩
                exact ⟨g1, fun j hj => by
                  by_cases c : j = i
                  · subst c; rw [← HZ.out]; exact g3
                  · exact g2 j (by omega)⟩
              · rintro ⟨g1, g2⟩
                exact ⟨⟨g1, fun j hj => g2 j (by omega)⟩, by rw [HZ.out]; exact g2 i (by omega)⟩
            have HX : Aside (∀ f2 : Bool, (f2 = true ↔ (f = true ∧ 0 ≤ z)) → (f2 = true ↔ (false = true ∧ ∀ j, j < i + 1 → 0 ≤ zs.getD j 0))) := hnext
            clear hnext HF
            cases f with
            | false =>
              go_wp2_with fail
              go_roundg (n - (i + 1))
              case measure => omega
              case rel => exact ⟨i + 1, false, rfl, by go_num, hlt, Nat.le_refl _, HX.out false (by simp), rfl⟩
            | true =>
              by_cases hz0 : 0 ≤ z
              · have p3 : decide ((0 : Int) ≤ z) = true := decide_eq_true hz0
                go_wp2_with fail
                go_roundg (n - (i + 1))
                case measure => omega
                case rel => exact ⟨i + 1, true, rfl, by go_num, hlt, Nat.le_refl _, HX.out true (by simp [hz0]), rfl⟩
              · have p3 : decide ((0 : Int) ≤ z) = false := decide_eq_false hz0
                go_wp2_with fail
                go_roundg (n - (i + 1))
                case measure => omega
                case rel => exact ⟨i + 1, false, rfl, by go_num, hlt, Nat.le_refl _, HX.out false (by simp [hz0]), rfl⟩
          · have p1 : decide ((i : Int) < (n : Int)) = false := decide_eq_false (by omega)
            have hin2 : i = n := by omega
            subst hin2
            obtain rfl : f = false := by
              cases f with
              | false => rfl
              | true => first | exact absurd (HBAD.out (HF.out.1 rfl)) (by simp) | exact absurd (HBAD.out ⟨trivial, (HF.out.1 rfl).2⟩) (by simp)
            clear HF
            go_wp2_with fail
            go_at_call 6
            refine (halves_calls _).mono ?_
            rintro e w3 ⟨rfl, o3⟩
            have HO3 : Aside (Only [] w w3) := HO2.out.trans o3 (fun _ h _ => h)
            clear o3
            go_wp2_with fail
            go_ret
            exact ⟨rfl, HO3.out⟩
    · have q1 : decide (t < (4611686018427387904 : Int)) = false := decide_eq_false (by omega)
      have HBAD : Aside ((false = true ∧ ∀ j, j < n → 0 ≤ zs.getD j 0) → False) := fun h => by simp at h
      go_wp2_with fail
      go_loopg [9, 10] n (fun kx s9 s10 wr => ∃ (i : Nat) (f : Bool), s9 = .bool f ∧ s10 = .int .i64 i ∧ i ≤ n ∧ n - i ≤ kx ∧ Aside (f = true ↔ (false = true ∧ ∀ j, j < i → 0 ≤ zs.getD j 0)) ∧ wr = w2)
      case atStart => exact ⟨0, false, rfl, rfl, by omega, by omega, (show _ ↔ _ from ⟨fun h => ⟨h, fun j hj => by omega⟩, fun h => h.1⟩), rfl⟩
      case round =>
        obtain ⟨i, f, rfl, rfl, hin, hk, HF, hwr⟩ := hrel
        have hwr2 := hwr.symm
        clear hwr
        subst hwr2
        by_cases hlt : i < n
        · have p1 : decide ((i : Int) < (n : Int)) = true := decide_eq_true (by omega)
          have p2 : (i : Int) < (n : Int) := by omega
          have ei : ((i : Int)).toNat = i := by omega
          obtain ⟨b, off, hA, hb, hc⟩ := HI2.out (by have := HN.out; omega)
          subst hA
          obtain ⟨z, hzz⟩ : ∃ z, z = zs.getD i 0 := ⟨_, rfl⟩
          have hcz := hc i (by have := HN.out; omega)
          rw [← hzz] at hcz
          have HZ : Aside (z = zs.getD i 0) := hzz
          clear hc hzz
          have hnext : ∀ f2 : Bool, (f2 = true ↔ (f = true ∧ 0 ≤ z)) → (f2 = true ↔ (false = true ∧ ∀ j, j < i + 1 → 0 ≤ zs.getD j 0)) := fun f2 h2 => by
            rw [h2, HF.out]
            constructor
            · rintro ⟨⟨g1, g2⟩, g3⟩
              exact ⟨g1, fun j hj => by
                by_cases c : j = i
                · subst c; rw [← HZ.out]; exact g3
                · exact g2 j (by omega)⟩
            · rintro ⟨g1, g2⟩
              exact ⟨⟨g1, fun j hj => g2 j (by omega)⟩, by rw [HZ.out]; exact g2 i (by omega)⟩
          have HX : Aside (∀ f2 : Bool, (f2 = true ↔ (f = true ∧ 0 ≤ z)) → (f2 = true ↔ (false = true ∧ ∀ j, j < i + 1 → 0 ≤ zs.getD j 0))) := hnext
          clear hnext HF
          cases f with
          | false =>
            go_wp2_with fail
            go_roundg (n - (i + 1))
            case measure => omega
            case rel => exact ⟨i + 1, false, rfl, by go_num, hlt, Nat.le_refl _, HX.out false (by simp), rfl⟩
          | true =>
            by_cases hz0 : 0 ≤ z
            · have p3 : decide ((0 : Int) ≤ z) = true := decide_eq_true hz0
              go_wp2_with fail
              go_roundg (n - (i + 1))
              case measure => omega
              case rel => exact ⟨i + 1, true, rfl, by go_num, hlt, Nat.le_refl _, HX.out true (by simp [hz0]), rfl⟩
            · have p3 : decide ((0 : Int) ≤ z) = false := decide_eq_false hz0
              go_wp2_with fail
              go_roundg (n - (i + 1))
              case measure => omega
              case rel => exact ⟨i + 1, false, rfl, by go_num, hlt, Nat.le_refl _, HX.out false (by simp [hz0]), rfl⟩
        · have p1 : decide ((i : Int) < (n : Int)) = false := decide_eq_false (by omega)
          have hin2 : i = n := by omega
          subst hin2
          obtain rfl : f = false := by
            cases f with
            | false => rfl
            | true => first | exact absurd (HBAD.out (HF.out.1 rfl)) (by simp) | exact absurd (HBAD.out ⟨trivial, (HF.out.1 rfl).2⟩) (by simp)
          clear HF
          go_wp2_with fail
          go_at_call 6
          refine (halves_calls _).mono ?_
          rintro e w3 ⟨rfl, o3⟩
          have HO3 : Aside (Only [] w w3) := HO2.out.trans o3 (fun _ h _ => h)
          clear o3
          go_wp2_with fail
          go_ret
          exact ⟨rfl, HO3.out⟩
  · have q0 : decide ((0 : Int) ≤ t) = false := decide_eq_false (by omega)
    have HBAD : Aside ((false = true ∧ ∀ j, j < n → 0 ≤ zs.getD j 0) → False) := fun h => by simp at h
    go_wp2_with fail
    go_loopg [9, 10] n (fun kx s9 s10 wr => ∃ (i : Nat) (f : Bool), s9 = .bool f ∧ s10 = .int .i64 i ∧ i ≤ n ∧ n - i ≤ kx ∧ Aside (f = true ↔ (false = true ∧ ∀ j, j < i → 0 ≤ zs.getD j 0)) ∧ wr = w2)
    case atStart => exact ⟨0, false, rfl, rfl, by omega, by omega, (show _ ↔ _ from ⟨fun h => ⟨h, fun j hj => by omega⟩, fun h => h.1⟩), rfl⟩
    case round =>
      obtain ⟨i, f, rfl, rfl, hin, hk, HF, hwr⟩ := hrel
      have hwr2 := hwr.symm
      clear hwr
      subst hwr2
      by_cases hlt : i < n
      · have p1 : decide ((i : Int) < (n : Int)) = true := decide_eq_true (by omega)
        have p2 : (i : Int) < (n : Int) := by omega
        have ei : ((i : Int)).toNat = i := by omega
        obtain ⟨b, off, hA, hb, hc⟩ := HI2.out (by have := HN.out; omega)
        subst hA
        obtain ⟨z, hzz⟩ : ∃ z, z = zs.getD i 0 := ⟨_, rfl⟩
        have hcz := hc i (by have := HN.out; omega)
        rw [← hzz] at hcz
        have HZ : Aside (z = zs.getD i 0) := hzz
        clear hc hzz
        have hnext : ∀ f2 : Bool, (f2 = true ↔ (f = true ∧ 0 ≤ z)) → (f2 = true ↔ (false = true ∧ ∀ j, j < i + 1 → 0 ≤ zs.getD j 0)) := fun f2 h2 => by
          rw [h2, HF.out]
          constructor
          · rintro ⟨⟨g1, g2⟩, g3⟩
            exact ⟨g1, fun j hj => by
              by_cases c : j = i
              · subst c; rw [← HZ.out]; exact g3
              · exact g2 j (by omega)⟩
          · rintro ⟨g1, g2⟩
            exact ⟨⟨g1, fun j hj => g2 j (by omega)⟩, by rw [HZ.out]; exact g2 i (by omega)⟩
        have HX : Aside (∀ f2 : Bool, (f2 = true ↔ (f = true ∧ 0 ≤ z)) → (f2 = true ↔ (false = true ∧ ∀ j, j < i + 1 → 0 ≤ zs.getD j 0))) := hnext
        clear hnext HF
        cases f with
        | false =>
          go_wp2_with fail
          go_roundg (n - (i + 1))
          case measure => omega
          case rel => exact ⟨i + 1, false, rfl, by go_num, hlt, Nat.le_refl _, HX.out false (by simp), rfl⟩
        | true =>
          by_cases hz0 : 0 ≤ z
          · have p3 : decide ((0 : Int) ≤ z) = true := decide_eq_true hz0
            go_wp2_with fail
            go_roundg (n - (i + 1))
            case measure => omega
            case rel => exact ⟨i + 1, true, rfl, by go_num, hlt, Nat.le_refl _, HX.out true (by simp [hz0]), rfl⟩
          · have p3 : decide ((0 : Int) ≤ z) = false := decide_eq_false hz0
            go_wp2_with fail
            go_roundg (n - (i + 1))
            case measure => omega
            case rel => exact ⟨i + 1, false, rfl, by go_num, hlt, Nat.le_refl _, HX.out false (by simp [hz0]), rfl⟩
      · have p1 : decide ((i : Int) < (n : Int)) = false := decide_eq_false (by omega)
        have hin2 : i = n := by omega
        subst hin2
        obtain rfl : f = false := by
          cases f with
          | false => rfl
          | true => first | exact absurd (HBAD.out (HF.out.1 rfl)) (by simp) | exact absurd (HBAD.out ⟨trivial, (HF.out.1 rfl).2⟩) (by simp)
        clear HF
        go_wp2_with fail
        go_at_call 6
        refine (halves_calls _).mono ?_
        rintro e w3 ⟨rfl, o3⟩
        have HO3 : Aside (Only [] w w3) := HO2.out.trans o3 (fun _ h _ => h)
        clear o3
        go_wp2_with fail
        go_ret
        exact ⟨rfl, HO3.out⟩
end Go.Proofs.Ytmjohabfikpahaa
