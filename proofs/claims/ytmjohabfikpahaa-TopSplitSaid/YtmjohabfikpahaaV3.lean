/- slices.symMergeCmpFunc at shares, by walking it: one element ahead of a run. -/
import Derived.Test.YtmjohabfikpahaaV2
set_option maxRecDepth 1000000
set_option linter.unusedVariables false
set_option linter.unusedSimpArgs false
namespace Go.Proofs.Ytmjohabfikpahaa
open Go Go.Shelf Go.RowKit Go.Lib Go.Sort Go.Proofs
variable {P : Program} {k : Nat} {α : Type} [Inhabited α] {enc : α → List Value} {w0 w : World} {blk off : Nat} {d0 d : Array α}
/-- What is asked of the function that compares. -/
structure Cmpr (P : Program) (g : Nat) (cb : Array Value) (enc : α → List Value) (k : Nat) (cf : α → α → Int) (blk off size : Nat) (w : World) : Prop where
  eg : ∀ args w, (callFunc g args).run P w = .ok (.enter g args) w
  lays : CmpLays P g cb enc k cf blk off size w
  swo : SWO (ltOf cf)
set_option maxHeartbeats 2000000 in
theorem symMerge_one (L : Sh P k) (R : RowK enc k w0 blk off d0) {cf : α → α → Int} {g : Nat} {cb : Array Value} (C : Cmpr P g cb enc k cf blk off d0.size w0) (hs : d0.size = d.size) (S : SWK enc k w0 blk off d w) (a b cap : Nat) (hmb : a + 1 < b) (hb : b ≤ d.size) (hsz : d.size < 4611686018427387904)
    (hv : SortedIn (ltOf cf) (a + 1) b d) :
    Calls P 27 #[.slice (some ⟨blk, off, none⟩) d.size cap, .int .i64 a, .int .i64 ((a : Int) + 1), .int .i64 b, .func (.func g) #[] cb] w fun e w' => e = .returned (.tuple #[]) ∧ ∃ d', PermIn a b d d' ∧ SortedIn (ltOf cf) a b d' ∧ SWK enc k w0 blk off d' w' := by
  have mixed := L.mixed; have t3 := L.t3; have a3 := L.a3; have z3 := L.z3; have v3 := L.v3; have t4 := L.t4; have a4 := L.a4; have z4 := L.z4; have v4 := L.v4; have t34 := L.t34; have a34 := L.a34; have z34 := L.z34; have v34 := L.v34; have t38 := L.t38; have a38 := L.a38; have z38 := L.z38; have v38 := L.v38; have t44 := L.t44; have a44 := L.a44; have z44 := L.z44; have v44 := L.v44; have a36 := L.a36; have z36 := L.z36
  have F27 := L.f27
  have eg := C.eg
  have S0 : Aside (SWK enc k w0 blk off d w) := S
  have HV : Aside (SortedIn (ltOf cf) (a + 1) b d) := hv
  clear S hv
  have q0 : ((a : Int) + 1 - (a : Int) == 1) = true := by rw [beq_iff_eq]; omega
  go_enter F27, Try.ntmps27
  go_wp2_with fail
  go_loopg [10, 11] b (fun kx s10 s11 wr => ∃ (i j : Nat), s10 = .int .i64 i ∧ s11 = .int .i64 j ∧ a + 1 ≤ i ∧ i ≤ j ∧ j ≤ b ∧ j - i ≤ kx ∧ Aside (i = a + 1 ∨ ltOf cf d[i - 1]! d[a]! = true) ∧ Aside (j = b ∨ ltOf cf d[j]! d[a]! = false) ∧ Aside (SWK enc k w0 blk off d wr))
  case atStart => exact ⟨a + 1, b, by go_num, rfl, by omega, by omega, by omega, by omega, .inl rfl, .inl rfl, S0⟩
  case round =>
    clear S0
    obtain ⟨i, j, rfl, rfl, hai, hij, hjb, hk, HA, HB, S1⟩ := hrel
    by_cases hlt : i < j
    · obtain ⟨h, hh⟩ : ∃ h : Nat, ((i : Int) + (j : Int)) / 2 = (h : Int) := ⟨((i : Int) + (j : Int)).toNat / 2, by omega⟩
      have hih : i ≤ h := by omega
      have hhj : h < j := by omega
      have pA : (0 : Int) ≤ (h : Int) := by omega
      have bA : (h : Int) < (d.size : Int) := by omega
      have pB : (0 : Int) ≤ (a : Int) := by omega
      have bB : (a : Int) < (d.size : Int) := by omega
      obtain ⟨x, hx⟩ : ∃ x, x = d[h]! := ⟨_, rfl⟩
      obtain ⟨y, hy⟩ : ∃ y, y = d[a]! := ⟨_, rfl⟩
      have la := S1.out.ld R (by omega) P h (by omega)
      have lb := S1.out.ld R (by omega) P a (by omega)
      rw [← hx] at la
      rw [← hy] at lb
      have hc := S1.out.cmp C.lays hs.symm x y
      have hbz : h ≤ 4611686018427387904 := by omega
      by_cases hv : cf x y < 0
      · have hd : decide (cf x y < 0) = true := decide_eq_true hv
        have HA2 : Aside (h + 1 = a + 1 ∨ ltOf cf d[h + 1 - 1]! d[a]! = true) := .inr (by rw [Nat.add_sub_cancel, ← hx, ← hy]; exact hd)
        clear hx hy hv
        go_wp2_with fail
        go_quiet_grown (first | (go_at_fn g; refine Calls.grown_of (hc _ _)))
        have S2 : Aside (SWK enc k w0 blk off d (grow (wr.drewN nq) osq)) := S1.out.grown nq osq
        clear la lb hc S1
        generalize grow (wr.drewN nq) osq = w2 at S2 ⊢
        clear nq osq
        go_wp2_with fail
        go_roundg (j - (h + 1))
        case measure => omega
        case rel => exact ⟨h + 1, j, by go_num, rfl, by omega, by omega, hjb, by omega, HA2, HB, S2⟩
      · have hd : decide (cf x y < 0) = false := decide_eq_false hv
        have HB2 : Aside (h = b ∨ ltOf cf d[h]! d[a]! = false) := .inr (by rw [← hx, ← hy]; exact hd)
        clear hx hy hv
        go_wp2_with fail
        go_quiet_grown (first | (go_at_fn g; refine Calls.grown_of (hc _ _)))
        have S2 : Aside (SWK enc k w0 blk off d (grow (wr.drewN nq) osq)) := S1.out.grown nq osq
        clear la lb hc S1
        generalize grow (wr.drewN nq) osq = w2 at S2 ⊢
        clear nq osq
        go_wp2_with fail
        go_roundg (h - i)
        case measure => omega
        case rel => exact ⟨i, h, rfl, rfl, hai, hih, by omega, by omega, HA, HB2, S2⟩
    · have hij2 : i = j := by omega
      subst hij2
      go_wp2_with fail
      -- the element goes to its place
      go_loopg [13] b (fun kx s13 wr => ∃ (q : Nat) (dk : Array α), s13 = .int .i64 q ∧ a ≤ q ∧ q ≤ i - 1 ∧ i - 1 - q ≤ kx ∧ dk.size = d.size ∧ Aside (PermIn a b d dk) ∧ Aside (∀ x, a ≤ x → x < q → dk[x]! = d[x + 1]!) ∧ Aside (dk[q]! = d[a]!) ∧ Aside (∀ x, q < x → dk[x]! = d[x]!) ∧ Aside (SWK enc k w0 blk off dk wr))
      case atStart => exact ⟨a, d, rfl, by omega, by omega, by omega, rfl, permIn_refl d a b, fun x h1 h2 => by omega, rfl, fun _ _ => rfl, S1⟩
      case round =>
        clear S1
        obtain ⟨q, dk, rfl, haq, hqi, hk2, hds, HP, G1, G2, G3, S3⟩ := hrel
        by_cases hlt2 : q < i - 1
        · have q1 : decide ((q : Int) < (i : Int) - 1) = true := decide_eq_true (by omega)
          go_wp2_with fail
          have eA : ((q : Int) + 1).toNat = q + 1 := by omega
          have pA : (0 : Int) ≤ (q : Int) + 1 := by omega
          have bA : (q : Int) + 1 < (d.size : Int) := by omega
          have rA : IntKind.i64.wrap ((q : Int) + 1) = (q : Int) + 1 := by rw [IntKind.wrap_i64]; omega
          have pB : (0 : Int) ≤ (q : Int) := by omega
          have bB : (q : Int) < (d.size : Int) := by omega
          have S2 : Aside (SWK enc k w0 blk off (swp dk q (q + 1)) ((wr.drew.setCells blk (off + q * k) (enc dk[q + 1]!)).setCells blk (off + (q + 1) * k) (enc dk[q]!))) := S3.out.swapped R q (q + 1) (by omega) (by omega)
          have la := S3.out.ld1 R (by omega) P q (by omega)
          have lb := S3.out.ld1 R (by omega) P (q + 1) (by omega)
          have sa := S3.out.st1 R (by omega) P q (by omega) dk[q + 1]!
          have sb := S3.out.st2 R (by omega) P q (q + 1) (by omega) (by omega) dk[q + 1]! dk[q]!
          have na : (enc dk[q]!).length = k := R.hk _
          have nb : (enc dk[q + 1]!).length = k := R.hk _
          generalize enc dk[q]! = cA at S2 la sb na
          generalize enc dk[q + 1]! = cB at S2 lb sa sb nb
          have HP2 : Aside (PermIn a b d (swp dk q (q + 1))) := pi_trans HP.out (swp_permIn dk a b q (q + 1) (by omega) (by omega) (by omega) (by omega) (by omega))
          have H1 : Aside (∀ x, a ≤ x → x < q + 1 → (swp dk q (q + 1))[x]! = d[x + 1]!) := fun x x1 x2 => by
            by_cases c : x = q
            · subst c
              rw [swp_left dk _ _ (by omega) (by omega), G3.out _ (by omega)]
            · rw [swp_other dk _ _ _ c (by omega), G1.out x x1 (by omega)]
          have H2 : Aside ((swp dk q (q + 1))[q + 1]! = d[a]!) := by
            show (swp dk q (q + 1))[q + 1]! = d[a]!
            rw [swp_right dk _ _ (by omega), G2.out]
          have H3 : Aside (∀ x, q + 1 < x → (swp dk q (q + 1))[x]! = d[x]!) := fun x x1 => by
            rw [swp_other dk _ _ _ (by omega) (by omega), G3.out x (by omega)]
          clear S3 HP G1 G2 G3
          go_wp2_with fail
          go_big_region_o
          clear la lb sa sb
          generalize (wr.drew.setCells blk (off + q * k) cB).setCells blk (off + (q + 1) * k) cA = w2 at S2 ⊢
          go_wp2
          go_roundg (gk - 1)
          case measure => omega
          case rel => exact ⟨q + 1, swp dk q (q + 1), by go_num, by omega, by omega, by omega, by rw [size_swp]; exact hds, HP2, H1, H2, H3, S2⟩
        · have q1 : decide ((q : Int) < (i : Int) - 1) = false := decide_eq_false (by omega)
          have hqi2 : q = i - 1 := by omega
          go_wp2_with fail
          try rw [Exit.noGoto_ret]
          refine bodyPost_ret (results_none rfl _ _ _) rfl ?_
          refine ⟨rfl, dk, HP.out, merge_one C.swo HV.out hai (by omega) HA.out HB.out (fun x x1 x2 => G1.out x x1 (by omega)) (by rw [← hqi2]; exact G2.out) (fun x x1 => G3.out x (by omega)), S3.out⟩
end Go.Proofs.Ytmjohabfikpahaa
