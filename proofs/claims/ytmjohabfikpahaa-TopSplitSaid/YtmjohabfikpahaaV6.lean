/- slices.insertionSortCmpFunc at shares, by walking it. -/
import Derived.Test.YtmjohabfikpahaaV5
import Derived.Sort.WalkA
set_option maxRecDepth 1000000
set_option linter.unusedVariables false
set_option linter.unusedSimpArgs false
namespace Go.Proofs.Ytmjohabfikpahaa
open Go Go.Shelf Go.RowKit Go.Lib Go.Sort Go.Proofs
variable {P : Program} {k : Nat} {α : Type} [Inhabited α] {enc : α → List Value} {w0 w : World} {blk off : Nat} {d0 d : Array α}
set_option maxHeartbeats 4000000 in
theorem insertion_walk (L : Sh P k) (R : RowK enc k w0 blk off d0) {cf : α → α → Int} {g : Nat} {cb : Array Value} (C : Cmpr P g cb enc k cf blk off d0.size w0) (hs : d0.size = d.size) (S : SWK enc k w0 blk off d w) (a b cap : Nat) (hab : a ≤ b) (hb : b ≤ d.size) (hsz : d.size < 4611686018427387904) :
    Calls P 26 #[.slice (some ⟨blk, off, none⟩) d.size cap, .int .i64 a, .int .i64 b, .func (.func g) #[] cb] w fun e w' => e = .returned (.tuple #[]) ∧ SWK enc k w0 blk off (Sort.insertionSort (ltOf cf) d a b) w' := by
  have mixed := L.mixed; have t3 := L.t3; have a3 := L.a3; have z3 := L.z3; have v3 := L.v3; have t4 := L.t4; have a4 := L.a4; have z4 := L.z4; have v4 := L.v4; have t34 := L.t34; have a34 := L.a34; have z34 := L.z34; have v34 := L.v34; have t38 := L.t38; have a38 := L.a38; have z38 := L.z38; have v38 := L.v38; have t44 := L.t44; have a44 := L.a44; have z44 := L.z44; have v44 := L.v44; have a36 := L.a36; have z36 := L.z36
  have F26 := L.f26
  have eg := C.eg
  have S0 : Aside (SWK enc k w0 blk off d w) := S
  clear S
  go_enter F26, Try.ntmps26
  go_wp2_with fail
  go_loopg [8] (b - a) (fun g1 vi wr => ∃ (i : Nat) (dk : Array α), vi = .int .i64 i ∧ a < i ∧ i ≤ b + 1 ∧ b + 1 - i ≤ g1 + 1 ∧ dk.size = d.size ∧ Aside (SWK enc k w0 blk off dk wr) ∧ Aside (insOuter (ltOf cf) a b i dk = insOuter (ltOf cf) a b (a + 1) d))
  case atStart => exact ⟨a + 1, d, by go_num, by omega, by omega, by omega, rfl, S0, rfl⟩
  case round =>
    clear S0
    obtain ⟨i, dk, rfl, hai, hib, hg1, hsk, S1, HO⟩ := hrel
    by_cases hlt : i < b
    · have q1 : decide ((i : Int) < (b : Int)) = true := decide_eq_true (by omega)
      go_wp2_with fail
      go_loopg [9] i (fun g2 vj wr2 => ∃ (j : Nat) (dj : Array α), vj = .int .i64 j ∧ a ≤ j ∧ j ≤ i ∧ j ≤ g2 ∧ dj.size = d.size ∧ Aside (SWK enc k w0 blk off dj wr2) ∧ Aside (insInner (ltOf cf) a j dj = insInner (ltOf cf) a i dk))
      case atStart => exact ⟨i, dk, rfl, by omega, Nat.le_refl _, Nat.le_refl _, hsk, S1, rfl⟩
      case round =>
        clear S1
        obtain ⟨j, dj, rfl, haj, hji, hg2, hsj, S2, HI⟩ := hrel
        have OUT : Aside ((j ≤ a ∨ ltOf cf dj[j]! dj[j - 1]! = false) → insOuter (ltOf cf) a b (i + 1) dj = insOuter (ltOf cf) a b (a + 1) d) := fun hs => by
          rw [← HO.out, insOuter_go _ _ _ _ _ hlt, ← HI.out, insInner_stop _ _ _ _ hs]
        by_cases hja : a < j
        · have hjaz : (a : Int) < (j : Int) := by omega
          obtain ⟨u, hu⟩ : ∃ u : Nat, (j : Int) - 1 = (u : Int) := ⟨j - 1, by omega⟩
          have hju : j - 1 = u := by omega
          have rU : IntKind.i64.wrap (u : Int) = (u : Int) := by rw [IntKind.wrap_i64]; omega
          have pA : (0 : Int) ≤ (j : Int) := by omega
          have bA : (j : Int) < (d.size : Int) := by omega
          have pB : (0 : Int) ≤ (u : Int) := by omega
          have bB : (u : Int) < (d.size : Int) := by omega
          obtain ⟨x, hx⟩ : ∃ x, x = dj[j]! := ⟨_, rfl⟩
          obtain ⟨y, hy⟩ : ∃ y, y = dj[u]! := ⟨_, rfl⟩
          have la := S2.out.ld R (by omega) P j (by omega)
          have lb := S2.out.ld R (by omega) P u (by omega)
          rw [← hx] at la
          rw [← hy] at lb
          have hc := S2.out.cmp C.lays (by omega) x y
          by_cases hv : cf x y < 0
          · have hd : decide (cf x y < 0) = true := decide_eq_true hv
            have HI2 : Aside (insInner (ltOf cf) a u (swp dj j u) = insInner (ltOf cf) a i dk) := by
              have h := insInner_go (ltOf cf) a j dj hja (by rw [hju, ← hx, ← hy]; exact hd)
              rw [hju] at h
              exact h.symm.trans HI.out
            clear OUT HI hx hy hv
            go_wp2_with fail
            go_quiet_grown (first | (go_at_fn g; refine Calls.grown_of (hc _ _)))
            have S3 : Aside (SWK enc k w0 blk off dj (grow (wr.drewN nq) osq)) := S2.out.grown nq osq
            clear la lb hc S2
            generalize grow (wr.drewN nq) osq = w2 at S3 ⊢
            clear nq osq
            go_wp2_with fail
            have S4 : Aside (SWK enc k w0 blk off (swp dj j u) ((w2.drew.setCells blk (off + j * k) (enc dj[u]!)).setCells blk (off + u * k) (enc dj[j]!))) := S3.out.swapped R j u (by omega) (by omega)
            have la := S3.out.ld1 R (by omega) P j (by omega)
            have lb := S3.out.ld1 R (by omega) P u (by omega)
            have sa := S3.out.st1 R (by omega) P j (by omega) dj[u]!
            have sb := S3.out.st2 R (by omega) P j u (by omega) (by omega) dj[u]! dj[j]!
            have na : (enc dj[j]!).length = k := R.hk _
            have nb : (enc dj[u]!).length = k := R.hk _
            generalize enc dj[j]! = cA at S4 la sb na
            generalize enc dj[u]! = cB at S4 lb sa sb nb
            clear S3
            go_big_region_o
            clear la lb sa sb
            generalize (w2.drew.setCells blk (off + j * k) cB).setCells blk (off + u * k) cA = w3 at S4 ⊢
            go_wp2_with fail
            go_roundg u
            case measure => omega
            case rel => exact ⟨u, swp dj j u, rfl, by omega, by omega, Nat.le_refl _, by rw [size_swp]; exact hsj, S4, HI2⟩
          · have hd : decide (cf x y < 0) = false := decide_eq_false hv
            have HO2 : Aside (insOuter (ltOf cf) a b (i + 1) dj = insOuter (ltOf cf) a b (a + 1) d) := OUT.out (.inr (by rw [hju, ← hx, ← hy]; exact hd))
            clear OUT HI hx hy hv
            go_wp2_with fail
            go_quiet_grown (first | (go_at_fn g; refine Calls.grown_of (hc _ _)))
            have S3 : Aside (SWK enc k w0 blk off dj (grow (wr.drewN nq) osq)) := S2.out.grown nq osq
            clear la lb hc S2
            generalize grow (wr.drewN nq) osq = w2 at S3 ⊢
            clear nq osq
            go_wp2_with fail
            go_roundg (b - (i + 1))
            case measure => omega
            case rel => exact ⟨i + 1, dj, by go_num, by omega, by omega, by omega, hsj, S3, HO2⟩
        · have hjaz : decide ((a : Int) < (j : Int)) = false := decide_eq_false (by omega)
          have HO2 : Aside (insOuter (ltOf cf) a b (i + 1) dj = insOuter (ltOf cf) a b (a + 1) d) := OUT.out (.inl (by omega))
          have S3 : Aside (SWK enc k w0 blk off dj wr.drew) := S2.out.drew
          clear OUT HI S2
          go_wp2_with fail
          go_big_region_o
          all_goals go_wp2
          go_roundg (b - (i + 1))
          case measure => omega
          case rel => exact ⟨i + 1, dj, by go_num, by omega, by omega, by omega, hsj, S3, HO2⟩
    · have q1 : decide ((i : Int) < (b : Int)) = false := decide_eq_false (by omega)
      go_wp2_with fail
      go_end0
      have e1 : Sort.insertionSort (ltOf cf) d a b = dk := by unfold Sort.insertionSort; rw [← HO.out, insOuter_stop _ _ _ _ _ hlt]
      exact ⟨rfl, by rw [e1]; exact S1.out⟩
theorem insertion_calls (L : Sh P k) (R : RowK enc k w0 blk off d0) {cf : α → α → Int} {g : Nat} {cb : Array Value} (C : Cmpr P g cb enc k cf blk off d0.size w0) (hs : d0.size = d.size) (S : SWK enc k w0 blk off d w) (a b cap : Nat) (hab : a ≤ b) (hb : b ≤ d.size) (hsz : d.size < 4611686018427387904) :
    Calls P 26 #[.slice (some ⟨blk, off, none⟩) d.size cap, .int .i64 a, .int .i64 b, .func (.func g) #[] cb] w fun e w' => e = .returned (.tuple #[]) ∧ ∃ d', PermIn a b d d' ∧ SortedIn (ltOf cf) a b d' ∧ SWK enc k w0 blk off d' w' :=
  (insertion_walk L R C hs S a b cap hab hb hsz).mono fun e w' h => by
    exact ⟨h.1, _, (insertionSort_holds C.swo d a b hab hb).1, (insertionSort_holds C.swo d a b hab hb).2, h.2⟩
end Go.Proofs.Ytmjohabfikpahaa
