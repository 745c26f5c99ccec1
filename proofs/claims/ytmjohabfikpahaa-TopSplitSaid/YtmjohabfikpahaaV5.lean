/- slices.symMergeCmpFunc at shares, by walking it: two runs are merged. -/
import Derived.Test.YtmjohabfikpahaaV4
import Derived.Sort.LotD2
set_option maxRecDepth 1000000
set_option linter.unusedVariables false
set_option linter.unusedSimpArgs false
namespace Go.Proofs.Ytmjohabfikpahaa
open Go Go.Shelf Go.RowKit Go.Lib Go.Sort Go.Proofs
variable {P : Program} {k : Nat} {α : Type} [Inhabited α] {enc : α → List Value} {w0 : World} {blk off : Nat} {d0 : Array α}
set_option maxHeartbeats 8000000 in
theorem symMerge_calls (L : Sh P k) (R : RowK enc k w0 blk off d0) {cf : α → α → Int} {g : Nat} {cb : Array Value} (C : Cmpr P g cb enc k cf blk off d0.size w0) (cap : Nat) (hsz0 : d0.size < 4611686018427387904) : ∀ (n a m b : Nat) (d : Array α) (w : World), b - a ≤ n → a < m → m < b → b ≤ d.size → d0.size = d.size → SWK enc k w0 blk off d w → SortedIn (ltOf cf) a m d → SortedIn (ltOf cf) m b d →
    Calls P 27 #[.slice (some ⟨blk, off, none⟩) d.size cap, .int .i64 a, .int .i64 m, .int .i64 b, .func (.func g) #[] cb] w fun e w' => e = .returned (.tuple #[]) ∧ ∃ d', PermIn a b d d' ∧ SortedIn (ltOf cf) a b d' ∧ SWK enc k w0 blk off d' w' := by
  intro n
  induction n with
  | zero => intro a m b d w h1 h2 h3; omega
  | succ n ih =>
    intro a m b d w hn ham hmb hb hs S hu hv
    have hsz : d.size < 4611686018427387904 := by omega
    by_cases c1 : m = a + 1
    · subst c1
      have h := symMerge_one L R C hs S a b cap hmb hb hsz hv
      exact h
    by_cases c2 : b = m + 1
    · subst c2
      have h := symMerge_last L R C hs S a m cap (by omega) hb hsz hu
      exact h
    have IH : Aside _ := ih
    have mixed := L.mixed; have t3 := L.t3; have a3 := L.a3; have z3 := L.z3; have v3 := L.v3; have t4 := L.t4; have a4 := L.a4; have z4 := L.z4; have v4 := L.v4; have t34 := L.t34; have a34 := L.a34; have z34 := L.z34; have v34 := L.v34; have t38 := L.t38; have a38 := L.a38; have z38 := L.z38; have v38 := L.v38; have t44 := L.t44; have a44 := L.a44; have z44 := L.z44; have v44 := L.v44; have a36 := L.a36; have z36 := L.z36
    have F27 := L.f27
    have eg := C.eg
    have e27 : ∀ args w, (callFunc 27 args).run P w = .ok (.enter 27 args) w := enters_of L.f27 (by kernel_rfl) rfl
    have e28 : ∀ args w, (callFunc 28 args).run P w = .ok (.enter 28 args) w := enters_of L.f28 (by kernel_rfl) rfl
    have S0 : Aside (SWK enc k w0 blk off d w) := S
    have HU : Aside (SortedIn (ltOf cf) a m d) := hu
    have HV : Aside (SortedIn (ltOf cf) m b d) := hv
    clear S hu hv ih
    have q0 : ((m : Int) - (a : Int) == 1) = false := by rw [beq_eq_false_iff_ne]; omega
    have q2 : ((b : Int) - (m : Int) == 1) = false := by rw [beq_eq_false_iff_ne]; omega
    obtain ⟨mid, hmid⟩ : ∃ mid : Nat, ((a : Int) + (b : Int)) / 2 = (mid : Int) := ⟨(a + b) / 2, by omega⟩
    obtain ⟨nn, hnn⟩ : ∃ nn : Nat, (mid : Int) + (m : Int) = (nn : Int) := ⟨mid + m, by omega⟩
    obtain ⟨pp, hpp⟩ : ∃ pp : Nat, (nn : Int) - 1 = (pp : Int) := ⟨nn - 1, by omega⟩
    obtain ⟨lo, hi, hcase⟩ : ∃ lo hi : Nat, (mid < m ∧ (nn : Int) - (b : Int) = (lo : Int) ∧ hi = mid) ∨ (m ≤ mid ∧ lo = a ∧ hi = m) := by
      by_cases c : mid < m
      · exact ⟨nn - b, mid, .inl ⟨c, by omega, rfl⟩⟩
      · exact ⟨a, m, .inr ⟨by omega, rfl, rfl⟩⟩
    have hlohi : a ≤ lo ∧ lo ≤ hi ∧ hi ≤ m ∧ hi ≤ mid := by omega
    have hnnb : nn ≤ 9223372036854775807 := by omega
    have hb9 : b ≤ 4611686018427387904 := by omega
    rcases hcase with ⟨c3, hlo, hhi⟩ | ⟨c3, hlo, hhi⟩
    · have q3 : decide ((mid : Int) < (m : Int)) = true := decide_eq_true (by omega)
      have q3n : decide (mid < m) = true := decide_eq_true (by omega)
      go_enter F27, Try.ntmps27
      go_wp2_with fail
      go_loopg [20, 21] b (fun kx s10 s11 wr => ∃ (i j : Nat), s10 = .int .i64 i ∧ s11 = .int .i64 j ∧ lo ≤ i ∧ i ≤ j ∧ j ≤ hi ∧ j - i ≤ kx ∧ Aside (i = lo ∨ ltOf cf d[nn - i]! d[i - 1]! = false) ∧ Aside (j = hi ∨ ltOf cf d[nn - 1 - j]! d[j]! = true) ∧ Aside (SWK enc k w0 blk off d wr))
      case atStart => exact ⟨lo, hi, congrArg (Value.int .i64) (by omega), congrArg (Value.int .i64) (by omega), by omega, by omega, by omega, by omega, .inl rfl, .inl rfl, S0⟩
      case round =>
        clear S0
        obtain ⟨i, j, rfl, rfl, hai, hij, hjb, hk, HA, HB, S1⟩ := hrel
        by_cases hlt : i < j
        · obtain ⟨h, hh⟩ : ∃ h : Nat, ((i : Int) + (j : Int)) / 2 = (h : Int) := ⟨((i : Int) + (j : Int)).toNat / 2, by omega⟩
          have hih : i ≤ h := by omega
          have hhj : h < j := by omega
          obtain ⟨u, hu2⟩ : ∃ u : Nat, (pp : Int) - (h : Int) = (u : Int) := ⟨pp - h, by omega⟩
          have hun : nn - 1 - h = u := by omega
          have rU : IntKind.i64.wrap (u : Int) = (u : Int) := by rw [IntKind.wrap_i64]; omega
          have pA : (0 : Int) ≤ (u : Int) := by omega
          have bA : (u : Int) < (d.size : Int) := by omega
          have pB : (0 : Int) ≤ (h : Int) := by omega
          have bB : (h : Int) < (d.size : Int) := by omega
          obtain ⟨x, hx⟩ : ∃ x, x = d[u]! := ⟨_, rfl⟩
          obtain ⟨y, hy⟩ : ∃ y, y = d[h]! := ⟨_, rfl⟩
          have la := S1.out.ld R (by omega) P u (by omega)
          have lb := S1.out.ld R (by omega) P h (by omega)
          rw [← hx] at la
          rw [← hy] at lb
          have hc := S1.out.cmp C.lays hs.symm x y
          have hbz : h ≤ 4611686018427387904 := by omega
          by_cases hv : cf x y < 0
          · have hd : decide (cf x y < 0) = true := decide_eq_true hv
            have HB2 : Aside (h = hi ∨ ltOf cf d[nn - 1 - h]! d[h]! = true) := .inr (by rw [hun, ← hx, ← hy]; exact hd)
            clear hx hy hv
            go_wp2_with fail
            go_quiet_grown (first | (go_at_fn g; refine Calls.grown_of (hc _ _)))
            have S2 : Aside (SWK enc k w0 blk off d (grow (wr.drewN nq) osq)) := S1.out.grown nq osq
            clear la lb hc S1
            generalize grow (wr.drewN nq) osq = w2 at S2 ⊢
            clear nq osq
            go_wp2_with fail
            go_roundg (h - i)
            case measure => omega
            case rel => exact ⟨i, h, rfl, rfl, hai, hih, by omega, by omega, HA, HB2, S2⟩
          · have hd : decide (cf x y < 0) = false := decide_eq_false hv
            have HA2 : Aside (h + 1 = lo ∨ ltOf cf d[nn - (h + 1)]! d[h + 1 - 1]! = false) := .inr (by rw [Nat.add_sub_cancel, show nn - (h + 1) = u by omega, ← hx, ← hy]; exact hd)
            clear hx hy hv
            go_wp2_with fail
            go_quiet_grown (first | (go_at_fn g; refine Calls.grown_of (hc _ _)))
            have S2 : Aside (SWK enc k w0 blk off d (grow (wr.drewN nq) osq)) := S1.out.grown nq osq
            clear la lb hc S1
            generalize grow (wr.drewN nq) osq = w2 at S2 ⊢
            clear nq osq
            go_wp2_with fail
            go_roundg (j - (h + 1))
            case measure => omega
            case rel => exact ⟨h + 1, j, by go_num, rfl, by omega, by omega, hjb, by omega, HA2, HB, S2⟩
        · have hij2 : i = j := by omega
          subst hij2
          obtain ⟨s, hs2⟩ : ∃ s, s = i := ⟨_, rfl⟩
          rw [← hs2] at HA HB hai hjb ⊢
          clear hs2
          obtain ⟨e, he⟩ : ∃ e : Nat, (nn : Int) - (s : Int) = (e : Int) := ⟨nn - s, by omega⟩
          have has : a ≤ s := by omega
          have hsm : s ≤ m := by omega
          have hme : m ≤ e := by omega
          have heb : e ≤ b := by omega
          have HA3 : Aside (s = a ∨ e = b ∨ ltOf cf d[e]! d[s - 1]! = false) := by
            rcases HA.out with q | q
            · first | exact .inl (by omega) | exact .inr (.inl (by omega))
            · rw [show nn - s = e by omega] at q
              exact .inr (.inr q)
          have HB3 : Aside (s = m ∨ e = m ∨ ltOf cf d[e - 1]! d[s]! = true) := by
            rcases HB.out with q | q
            · first | exact .inl (by omega) | exact .inr (.inl (by omega))
            · rw [show nn - 1 - s = e - 1 by omega] at q
              exact .inr (.inr q)
          clear HA HB
          have cO : (s < m ∧ m < e) ∨ ¬ (s < m ∧ m < e) := Classical.em _
          rcases cO with cO | cO
          · have o1 : decide ((s : Int) < (m : Int)) = true := decide_eq_true (by omega)
            have o2 : decide ((m : Int) < (e : Int)) = true := decide_eq_true (by omega)
            have hc1 := rotate_calls L R hs S1.out s m e cap (by omega) (by omega) (by omega) hsz g cb
            go_wp2_with fail
            go_at_call 28
            refine hc1.mono ?_
            rintro e7 w7 ⟨rfl, d1, p1, hin, S7⟩
            have HP1 : Aside (PermIn a b d d1) := pi_mono (by omega) (by omega) (by omega) p1
            have SS1 : Aside (SWK enc k w0 blk off d1 w7) := S7
            have sz1 : d1.size = d.size := HP1.out.1
            obtain ⟨x1, x2, x3, x4, x5⟩ := merge_split C.swo (mid := mid) (d := d) (d' := d1) has hsm hme heb (by omega) HU.out HV.out HA3.out HB3.out hin (fun x hx => p1.2.1 x hx)
            have X1 : Aside (SortedIn (ltOf cf) a s d1) := x1
            have X2 : Aside (SortedIn (ltOf cf) s mid d1) := x2
            have X3 : Aside (SortedIn (ltOf cf) mid e d1) := x3
            have X4 : Aside (SortedIn (ltOf cf) e b d1) := x4
            have X5 : Aside (∀ x y, a ≤ x → x < mid → mid ≤ y → y < b → ltOf cf d1[y]! d1[x]! = false) := x5
            clear x1 x2 x3 x4 x5
            clear hc1 p1 hin S7 S1
            have cL : (a < s ∧ s < mid) ∨ ¬ (a < s ∧ s < mid) := Classical.em _
            rcases cL with cL | cL
            · first
              | (exfalso; omega)
              | (have l1 : decide ((a : Int) < (s : Int)) = true := decide_eq_true (by omega)
                 have l2 : decide ((s : Int) < (mid : Int)) = true := decide_eq_true (by omega)
                 have hc2 := IH.out a s mid d1 _ (by omega) (by omega) (by omega) (by omega) (by omega) SS1.out X1.out X2.out
                 rw [sz1] at hc2
                 go_wp2_with fail
                 go_at_call 27
                 refine hc2.mono ?_
                 rintro e8 w8 ⟨rfl, d2, p2, s2, S8⟩
                 have SS2 : Aside (SWK enc k w0 blk off d2 w8) := S8
                 have sz2 : d2.size = d.size := p2.1.trans sz1
                 clear S8 hc2
                 have cR : (mid < e ∧ e < b) ∨ ¬ (mid < e ∧ e < b) := Classical.em _
                 rcases cR with cR | cR
                 · first
                   | (exfalso; omega)
                   | (have r1 : decide ((mid : Int) < (e : Int)) = true := decide_eq_true (by omega)
                      have r2 : decide ((e : Int) < (b : Int)) = true := decide_eq_true (by omega)
                      have hc3 := IH.out mid e b d2 _ (by omega) (by omega) (by omega) (by omega) (by omega) SS2.out (SortedIn.congr X3.out fun x x1 x2 => p2.2.1 x (by omega)) (SortedIn.congr X4.out fun x x1 x2 => p2.2.1 x (by omega))
                      rw [sz2] at hc3
                      go_wp2_with fail
                      go_at_call 27
                      refine hc3.mono ?_
                      rintro e9 w9 ⟨rfl, d3, p3, s3, S9⟩
                      go_wp2_with fail
                      go_end0
                      obtain ⟨z1, z2⟩ := merge_glue (d := d1) (by omega) (by omega) (by omega) X5.out p2 s2 p3 s3
                      exact ⟨rfl, d3, pi_trans HP1.out z1, z2, S9⟩)
                 · first
                   | (exfalso; omega)
                   | (have r1 : (decide ((mid : Int) < (e : Int)) = false ∧ e ≤ mid) ∨ (decide ((mid : Int) < (e : Int)) = true ∧ decide ((e : Int) < (b : Int)) = false ∧ mid < e ∧ b ≤ e) := by
                        by_cases c : mid < e
                        · exact .inr ⟨decide_eq_true (by omega), decide_eq_false (by omega), c, by omega⟩
                        · exact .inl ⟨decide_eq_false (by omega), by omega⟩
                      have s3 : SortedIn (ltOf cf) mid b d2 := by
                        by_cases c : mid < e
                        · have c2 : e = b := by omega
                          rw [← c2]; exact SortedIn.congr X3.out fun x x1 x2 => p2.2.1 x (by omega)
                        · have c2 : e = mid := by omega
                          rw [← c2]; exact SortedIn.congr X4.out fun x x1 x2 => p2.2.1 x (by omega)
                      rcases r1 with ⟨r1, r3⟩ | ⟨r1, r2, r3, r4⟩
                      all_goals
                        first
                        | (exfalso; omega)
                        | (go_wp2_with fail
                           go_end0
                           obtain ⟨z1, z2⟩ := merge_glue (d := d1) (by omega) (by omega) (by omega) X5.out p2 s2 (permIn_refl d2 mid b) s3
                           exact ⟨rfl, d2, pi_trans HP1.out z1, z2, SS2.out⟩)))
            · first
              | (exfalso; omega)
              | (have l1 : (decide ((a : Int) < (s : Int)) = false ∧ s ≤ a) ∨ (decide ((a : Int) < (s : Int)) = true ∧ decide ((s : Int) < (mid : Int)) = false ∧ a < s ∧ mid ≤ s) := by
                   by_cases c : a < s
                   · exact .inr ⟨decide_eq_true (by omega), decide_eq_false (by omega), c, by omega⟩
                   · exact .inl ⟨decide_eq_false (by omega), by omega⟩
                 have s2 : SortedIn (ltOf cf) a mid d1 := by
                   by_cases c : a < s
                   · have c2 : s = mid := by omega
                     rw [← c2]; exact X1.out
                   · have c2 : s = a := by omega
                     rw [← c2]; exact X2.out
                 have p2 : PermIn a mid d1 d1 := permIn_refl d1 a mid
                 rcases l1 with ⟨l1, l3⟩ | ⟨l1, l2, l3, l4⟩
                 all_goals
                   first
                   | (exfalso; omega)
                   | (have cR : (mid < e ∧ e < b) ∨ ¬ (mid < e ∧ e < b) := Classical.em _
                      rcases cR with cR | cR
                      · first
                        | (exfalso; omega)
                        | (have r1 : decide ((mid : Int) < (e : Int)) = true := decide_eq_true (by omega)
                           have r2 : decide ((e : Int) < (b : Int)) = true := decide_eq_true (by omega)
                           have hc3 := IH.out mid e b d1 _ (by omega) (by omega) (by omega) (by omega) (by omega) SS1.out (SortedIn.congr X3.out fun x x1 x2 => p2.2.1 x (by omega)) (SortedIn.congr X4.out fun x x1 x2 => p2.2.1 x (by omega))
                           rw [sz1] at hc3
                           go_wp2_with fail
                           go_at_call 27
                           refine hc3.mono ?_
                           rintro e9 w9 ⟨rfl, d3, p3, s3, S9⟩
                           go_wp2_with fail
                           go_end0
                           obtain ⟨z1, z2⟩ := merge_glue (d := d1) (by omega) (by omega) (by omega) X5.out p2 s2 p3 s3
                           exact ⟨rfl, d3, pi_trans HP1.out z1, z2, S9⟩)
                      · first
                        | (exfalso; omega)
                        | (have r1 : (decide ((mid : Int) < (e : Int)) = false ∧ e ≤ mid) ∨ (decide ((mid : Int) < (e : Int)) = true ∧ decide ((e : Int) < (b : Int)) = false ∧ mid < e ∧ b ≤ e) := by
                             by_cases c : mid < e
                             · exact .inr ⟨decide_eq_true (by omega), decide_eq_false (by omega), c, by omega⟩
                             · exact .inl ⟨decide_eq_false (by omega), by omega⟩
                           have s3 : SortedIn (ltOf cf) mid b d1 := by
                             by_cases c : mid < e
                             · have c2 : e = b := by omega
                               rw [← c2]; exact SortedIn.congr X3.out fun x x1 x2 => p2.2.1 x (by omega)
                             · have c2 : e = mid := by omega
                               rw [← c2]; exact SortedIn.congr X4.out fun x x1 x2 => p2.2.1 x (by omega)
                           rcases r1 with ⟨r1, r3⟩ | ⟨r1, r2, r3, r4⟩
                           all_goals
                             first
                             | (exfalso; omega)
                             | (go_wp2_with fail
                                go_end0
                                obtain ⟨z1, z2⟩ := merge_glue (d := d1) (by omega) (by omega) (by omega) X5.out p2 s2 (permIn_refl d1 mid b) s3
                                exact ⟨rfl, d1, pi_trans HP1.out z1, z2, SS1.out⟩))))
          · have o1 : (decide ((s : Int) < (m : Int)) = false ∧ m ≤ s) ∨ (decide ((s : Int) < (m : Int)) = true ∧ decide ((m : Int) < (e : Int)) = false ∧ s < m ∧ e ≤ m) := by
              by_cases c : s < m
              · exact .inr ⟨decide_eq_true (by omega), decide_eq_false (by omega), c, by omega⟩
              · exact .inl ⟨decide_eq_false (by omega), by omega⟩
            obtain ⟨d1, hd1⟩ : ∃ d1, d1 = d := ⟨_, rfl⟩
            have HP1 : Aside (PermIn a b d d1) := by rw [hd1]; exact permIn_refl d a b
            have SS1 : Aside (SWK enc k w0 blk off d1 wr) := by rw [hd1]; exact S1.out
            have sz1 : d1.size = d.size := HP1.out.1
            obtain ⟨x1, x2, x3, x4, x5⟩ := merge_split C.swo (mid := mid) (d := d) (d' := d1) has hsm hme heb (by omega) HU.out HV.out HA3.out HB3.out (fun x x1 x2 => by rw [hd1]; split <;> (congr 1; omega)) (fun x hx => by rw [hd1])
            have X1 : Aside (SortedIn (ltOf cf) a s d1) := x1
            have X2 : Aside (SortedIn (ltOf cf) s mid d1) := x2
            have X3 : Aside (SortedIn (ltOf cf) mid e d1) := x3
            have X4 : Aside (SortedIn (ltOf cf) e b d1) := x4
            have X5 : Aside (∀ x y, a ≤ x → x < mid → mid ≤ y → y < b → ltOf cf d1[y]! d1[x]! = false) := x5
            clear x1 x2 x3 x4 x5
            clear hd1 S1
            rcases o1 with ⟨o1, o3⟩ | ⟨o1, o2, o3, o4⟩
            all_goals
              first
              | (exfalso; omega)
              | (have cL : (a < s ∧ s < mid) ∨ ¬ (a < s ∧ s < mid) := Classical.em _
                 rcases cL with cL | cL
                 · first
                   | (exfalso; omega)
                   | (have l1 : decide ((a : Int) < (s : Int)) = true := decide_eq_true (by omega)
                      have l2 : decide ((s : Int) < (mid : Int)) = true := decide_eq_true (by omega)
                      have hc2 := IH.out a s mid d1 _ (by omega) (by omega) (by omega) (by omega) (by omega) SS1.out X1.out X2.out
                      rw [sz1] at hc2
                      go_wp2_with fail
                      go_at_call 27
                      refine hc2.mono ?_
                      rintro e8 w8 ⟨rfl, d2, p2, s2, S8⟩
                      have SS2 : Aside (SWK enc k w0 blk off d2 w8) := S8
                      have sz2 : d2.size = d.size := p2.1.trans sz1
                      clear S8 hc2
                      have cR : (mid < e ∧ e < b) ∨ ¬ (mid < e ∧ e < b) := Classical.em _
                      rcases cR with cR | cR
                      · first
                        | (exfalso; omega)
                        | (have r1 : decide ((mid : Int) < (e : Int)) = true := decide_eq_true (by omega)
                           have r2 : decide ((e : Int) < (b : Int)) = true := decide_eq_true (by omega)
                           have hc3 := IH.out mid e b d2 _ (by omega) (by omega) (by omega) (by omega) (by omega) SS2.out (SortedIn.congr X3.out fun x x1 x2 => p2.2.1 x (by omega)) (SortedIn.congr X4.out fun x x1 x2 => p2.2.1 x (by omega))
                           rw [sz2] at hc3
                           go_wp2_with fail
                           go_at_call 27
                           refine hc3.mono ?_
                           rintro e9 w9 ⟨rfl, d3, p3, s3, S9⟩
                           go_wp2_with fail
                           go_end0
                           obtain ⟨z1, z2⟩ := merge_glue (d := d1) (by omega) (by omega) (by omega) X5.out p2 s2 p3 s3
                           exact ⟨rfl, d3, pi_trans HP1.out z1, z2, S9⟩)
                      · first
                        | (exfalso; omega)
                        | (have r1 : (decide ((mid : Int) < (e : Int)) = false ∧ e ≤ mid) ∨ (decide ((mid : Int) < (e : Int)) = true ∧ decide ((e : Int) < (b : Int)) = false ∧ mid < e ∧ b ≤ e) := by
                             by_cases c : mid < e
                             · exact .inr ⟨decide_eq_true (by omega), decide_eq_false (by omega), c, by omega⟩
                             · exact .inl ⟨decide_eq_false (by omega), by omega⟩
                           have s3 : SortedIn (ltOf cf) mid b d2 := by
                             by_cases c : mid < e
                             · have c2 : e = b := by omega
                               rw [← c2]; exact SortedIn.congr X3.out fun x x1 x2 => p2.2.1 x (by omega)
                             · have c2 : e = mid := by omega
                               rw [← c2]; exact SortedIn.congr X4.out fun x x1 x2 => p2.2.1 x (by omega)
                           rcases r1 with ⟨r1, r3⟩ | ⟨r1, r2, r3, r4⟩
                           all_goals
                             first
                             | (exfalso; omega)
                             | (go_wp2_with fail
                                go_end0
                                obtain ⟨z1, z2⟩ := merge_glue (d := d1) (by omega) (by omega) (by omega) X5.out p2 s2 (permIn_refl d2 mid b) s3
                                exact ⟨rfl, d2, pi_trans HP1.out z1, z2, SS2.out⟩)))
                 · first
                   | (exfalso; omega)
                   | (have l1 : (decide ((a : Int) < (s : Int)) = false ∧ s ≤ a) ∨ (decide ((a : Int) < (s : Int)) = true ∧ decide ((s : Int) < (mid : Int)) = false ∧ a < s ∧ mid ≤ s) := by
                        by_cases c : a < s
                        · exact .inr ⟨decide_eq_true (by omega), decide_eq_false (by omega), c, by omega⟩
                        · exact .inl ⟨decide_eq_false (by omega), by omega⟩
                      have s2 : SortedIn (ltOf cf) a mid d1 := by
                        by_cases c : a < s
                        · have c2 : s = mid := by omega
                          rw [← c2]; exact X1.out
                        · have c2 : s = a := by omega
                          rw [← c2]; exact X2.out
                      have p2 : PermIn a mid d1 d1 := permIn_refl d1 a mid
                      rcases l1 with ⟨l1, l3⟩ | ⟨l1, l2, l3, l4⟩
                      all_goals
                        first
                        | (exfalso; omega)
                        | (have cR : (mid < e ∧ e < b) ∨ ¬ (mid < e ∧ e < b) := Classical.em _
                           rcases cR with cR | cR
                           · first
                             | (exfalso; omega)
                             | (have r1 : decide ((mid : Int) < (e : Int)) = true := decide_eq_true (by omega)
                                have r2 : decide ((e : Int) < (b : Int)) = true := decide_eq_true (by omega)
                                have hc3 := IH.out mid e b d1 _ (by omega) (by omega) (by omega) (by omega) (by omega) SS1.out (SortedIn.congr X3.out fun x x1 x2 => p2.2.1 x (by omega)) (SortedIn.congr X4.out fun x x1 x2 => p2.2.1 x (by omega))
                                rw [sz1] at hc3
                                go_wp2_with fail
                                go_at_call 27
                                refine hc3.mono ?_
                                rintro e9 w9 ⟨rfl, d3, p3, s3, S9⟩
                                go_wp2_with fail
                                go_end0
                                obtain ⟨z1, z2⟩ := merge_glue (d := d1) (by omega) (by omega) (by omega) X5.out p2 s2 p3 s3
                                exact ⟨rfl, d3, pi_trans HP1.out z1, z2, S9⟩)
                           · first
                             | (exfalso; omega)
                             | (have r1 : (decide ((mid : Int) < (e : Int)) = false ∧ e ≤ mid) ∨ (decide ((mid : Int) < (e : Int)) = true ∧ decide ((e : Int) < (b : Int)) = false ∧ mid < e ∧ b ≤ e) := by
                                  by_cases c : mid < e
                                  · exact .inr ⟨decide_eq_true (by omega), decide_eq_false (by omega), c, by omega⟩
                                  · exact .inl ⟨decide_eq_false (by omega), by omega⟩
                                have s3 : SortedIn (ltOf cf) mid b d1 := by
                                  by_cases c : mid < e
                                  · have c2 : e = b := by omega
                                    rw [← c2]; exact SortedIn.congr X3.out fun x x1 x2 => p2.2.1 x (by omega)
                                  · have c2 : e = mid := by omega
                                    rw [← c2]; exact SortedIn.congr X4.out fun x x1 x2 => p2.2.1 x (by omega)
                                rcases r1 with ⟨r1, r3⟩ | ⟨r1, r2, r3, r4⟩
                                all_goals
                                  first
                                  | (exfalso; omega)
                                  | (go_wp2_with fail
                                     go_end0
                                     obtain ⟨z1, z2⟩ := merge_glue (d := d1) (by omega) (by omega) (by omega) X5.out p2 s2 (permIn_refl d1 mid b) s3
                                     exact ⟨rfl, d1, pi_trans HP1.out z1, z2, SS1.out⟩)))))
    · have q3 : decide ((mid : Int) < (m : Int)) = false := decide_eq_false (by omega)
      have q3n : decide (mid < m) = false := decide_eq_false (by omega)
      go_enter F27, Try.ntmps27
      go_wp2_with fail
      go_loopg [20, 21] b (fun kx s10 s11 wr => ∃ (i j : Nat), s10 = .int .i64 i ∧ s11 = .int .i64 j ∧ lo ≤ i ∧ i ≤ j ∧ j ≤ hi ∧ j - i ≤ kx ∧ Aside (i = lo ∨ ltOf cf d[nn - i]! d[i - 1]! = false) ∧ Aside (j = hi ∨ ltOf cf d[nn - 1 - j]! d[j]! = true) ∧ Aside (SWK enc k w0 blk off d wr))
      case atStart => exact ⟨lo, hi, congrArg (Value.int .i64) (by omega), congrArg (Value.int .i64) (by omega), by omega, by omega, by omega, by omega, .inl rfl, .inl rfl, S0⟩
      case round =>
        clear S0
        obtain ⟨i, j, rfl, rfl, hai, hij, hjb, hk, HA, HB, S1⟩ := hrel
        by_cases hlt : i < j
        · obtain ⟨h, hh⟩ : ∃ h : Nat, ((i : Int) + (j : Int)) / 2 = (h : Int) := ⟨((i : Int) + (j : Int)).toNat / 2, by omega⟩
          have hih : i ≤ h := by omega
          have hhj : h < j := by omega
          obtain ⟨u, hu2⟩ : ∃ u : Nat, (pp : Int) - (h : Int) = (u : Int) := ⟨pp - h, by omega⟩
          have hun : nn - 1 - h = u := by omega
          have rU : IntKind.i64.wrap (u : Int) = (u : Int) := by rw [IntKind.wrap_i64]; omega
          have pA : (0 : Int) ≤ (u : Int) := by omega
          have bA : (u : Int) < (d.size : Int) := by omega
          have pB : (0 : Int) ≤ (h : Int) := by omega
          have bB : (h : Int) < (d.size : Int) := by omega
          obtain ⟨x, hx⟩ : ∃ x, x = d[u]! := ⟨_, rfl⟩
          obtain ⟨y, hy⟩ : ∃ y, y = d[h]! := ⟨_, rfl⟩
          have la := S1.out.ld R (by omega) P u (by omega)
          have lb := S1.out.ld R (by omega) P h (by omega)
          rw [← hx] at la
          rw [← hy] at lb
          have hc := S1.out.cmp C.lays hs.symm x y
          have hbz : h ≤ 4611686018427387904 := by omega
          by_cases hv : cf x y < 0
          · have hd : decide (cf x y < 0) = true := decide_eq_true hv
            have HB2 : Aside (h = hi ∨ ltOf cf d[nn - 1 - h]! d[h]! = true) := .inr (by rw [hun, ← hx, ← hy]; exact hd)
            clear hx hy hv
            go_wp2_with fail
            go_quiet_grown (first | (go_at_fn g; refine Calls.grown_of (hc _ _)))
            have S2 : Aside (SWK enc k w0 blk off d (grow (wr.drewN nq) osq)) := S1.out.grown nq osq
            clear la lb hc S1
            generalize grow (wr.drewN nq) osq = w2 at S2 ⊢
            clear nq osq
            go_wp2_with fail
            go_roundg (h - i)
            case measure => omega
            case rel => exact ⟨i, h, rfl, rfl, hai, hih, by omega, by omega, HA, HB2, S2⟩
          · have hd : decide (cf x y < 0) = false := decide_eq_false hv
            have HA2 : Aside (h + 1 = lo ∨ ltOf cf d[nn - (h + 1)]! d[h + 1 - 1]! = false) := .inr (by rw [Nat.add_sub_cancel, show nn - (h + 1) = u by omega, ← hx, ← hy]; exact hd)
            clear hx hy hv
            go_wp2_with fail
            go_quiet_grown (first | (go_at_fn g; refine Calls.grown_of (hc _ _)))
            have S2 : Aside (SWK enc k w0 blk off d (grow (wr.drewN nq) osq)) := S1.out.grown nq osq
            clear la lb hc S1
            generalize grow (wr.drewN nq) osq = w2 at S2 ⊢
            clear nq osq
            go_wp2_with fail
            go_roundg (j - (h + 1))
            case measure => omega
            case rel => exact ⟨h + 1, j, by go_num, rfl, by omega, by omega, hjb, by omega, HA2, HB, S2⟩
        · have hij2 : i = j := by omega
          subst hij2
          obtain ⟨s, hs2⟩ : ∃ s, s = i := ⟨_, rfl⟩
          rw [← hs2] at HA HB hai hjb ⊢
          clear hs2
          obtain ⟨e, he⟩ : ∃ e : Nat, (nn : Int) - (s : Int) = (e : Int) := ⟨nn - s, by omega⟩
          have has : a ≤ s := by omega
          have hsm : s ≤ m := by omega
          have hme : m ≤ e := by omega
          have heb : e ≤ b := by omega
          have HA3 : Aside (s = a ∨ e = b ∨ ltOf cf d[e]! d[s - 1]! = false) := by
            rcases HA.out with q | q
            · first | exact .inl (by omega) | exact .inr (.inl (by omega))
            · rw [show nn - s = e by omega] at q
              exact .inr (.inr q)
          have HB3 : Aside (s = m ∨ e = m ∨ ltOf cf d[e - 1]! d[s]! = true) := by
            rcases HB.out with q | q
            · first | exact .inl (by omega) | exact .inr (.inl (by omega))
            · rw [show nn - 1 - s = e - 1 by omega] at q
              exact .inr (.inr q)
          clear HA HB
          have cO : (s < m ∧ m < e) ∨ ¬ (s < m ∧ m < e) := Classical.em _
          rcases cO with cO | cO
          · have o1 : decide ((s : Int) < (m : Int)) = true := decide_eq_true (by omega)
            have o2 : decide ((m : Int) < (e : Int)) = true := decide_eq_true (by omega)
            have hc1 := rotate_calls L R hs S1.out s m e cap (by omega) (by omega) (by omega) hsz g cb
            go_wp2_with fail
            go_at_call 28
            refine hc1.mono ?_
            rintro e7 w7 ⟨rfl, d1, p1, hin, S7⟩
            have HP1 : Aside (PermIn a b d d1) := pi_mono (by omega) (by omega) (by omega) p1
            have SS1 : Aside (SWK enc k w0 blk off d1 w7) := S7
            have sz1 : d1.size = d.size := HP1.out.1
            obtain ⟨x1, x2, x3, x4, x5⟩ := merge_split C.swo (mid := mid) (d := d) (d' := d1) has hsm hme heb (by omega) HU.out HV.out HA3.out HB3.out hin (fun x hx => p1.2.1 x hx)
            have X1 : Aside (SortedIn (ltOf cf) a s d1) := x1
            have X2 : Aside (SortedIn (ltOf cf) s mid d1) := x2
            have X3 : Aside (SortedIn (ltOf cf) mid e d1) := x3
            have X4 : Aside (SortedIn (ltOf cf) e b d1) := x4
            have X5 : Aside (∀ x y, a ≤ x → x < mid → mid ≤ y → y < b → ltOf cf d1[y]! d1[x]! = false) := x5
            clear x1 x2 x3 x4 x5
            clear hc1 p1 hin S7 S1
            have cL : (a < s ∧ s < mid) ∨ ¬ (a < s ∧ s < mid) := Classical.em _
            rcases cL with cL | cL
            · first
              | (exfalso; omega)
              | (have l1 : decide ((a : Int) < (s : Int)) = true := decide_eq_true (by omega)
                 have l2 : decide ((s : Int) < (mid : Int)) = true := decide_eq_true (by omega)
                 have hc2 := IH.out a s mid d1 _ (by omega) (by omega) (by omega) (by omega) (by omega) SS1.out X1.out X2.out
                 rw [sz1] at hc2
                 go_wp2_with fail
                 go_at_call 27
                 refine hc2.mono ?_
                 rintro e8 w8 ⟨rfl, d2, p2, s2, S8⟩
                 have SS2 : Aside (SWK enc k w0 blk off d2 w8) := S8
                 have sz2 : d2.size = d.size := p2.1.trans sz1
                 clear S8 hc2
                 have cR : (mid < e ∧ e < b) ∨ ¬ (mid < e ∧ e < b) := Classical.em _
                 rcases cR with cR | cR
                 · first
                   | (exfalso; omega)
                   | (have r1 : decide ((mid : Int) < (e : Int)) = true := decide_eq_true (by omega)
                      have r2 : decide ((e : Int) < (b : Int)) = true := decide_eq_true (by omega)
                      have hc3 := IH.out mid e b d2 _ (by omega) (by omega) (by omega) (by omega) (by omega) SS2.out (SortedIn.congr X3.out fun x x1 x2 => p2.2.1 x (by omega)) (SortedIn.congr X4.out fun x x1 x2 => p2.2.1 x (by omega))
                      rw [sz2] at hc3
                      go_wp2_with fail
                      go_at_call 27
                      refine hc3.mono ?_
                      rintro e9 w9 ⟨rfl, d3, p3, s3, S9⟩
                      go_wp2_with fail
                      go_end0
                      obtain ⟨z1, z2⟩ := merge_glue (d := d1) (by omega) (by omega) (by omega) X5.out p2 s2 p3 s3
                      exact ⟨rfl, d3, pi_trans HP1.out z1, z2, S9⟩)
                 · first
                   | (exfalso; omega)
                   | (have r1 : (decide ((mid : Int) < (e : Int)) = false ∧ e ≤ mid) ∨ (decide ((mid : Int) < (e : Int)) = true ∧ decide ((e : Int) < (b : Int)) = false ∧ mid < e ∧ b ≤ e) := by
                        by_cases c : mid < e
                        · exact .inr ⟨decide_eq_true (by omega), decide_eq_false (by omega), c, by omega⟩
                        · exact .inl ⟨decide_eq_false (by omega), by omega⟩
                      have s3 : SortedIn (ltOf cf) mid b d2 := by
                        by_cases c : mid < e
                        · have c2 : e = b := by omega
                          rw [← c2]; exact SortedIn.congr X3.out fun x x1 x2 => p2.2.1 x (by omega)
                        · have c2 : e = mid := by omega
                          rw [← c2]; exact SortedIn.congr X4.out fun x x1 x2 => p2.2.1 x (by omega)
                      rcases r1 with ⟨r1, r3⟩ | ⟨r1, r2, r3, r4⟩
                      all_goals
                        first
                        | (exfalso; omega)
                        | (go_wp2_with fail
                           go_end0
                           obtain ⟨z1, z2⟩ := merge_glue (d := d1) (by omega) (by omega) (by omega) X5.out p2 s2 (permIn_refl d2 mid b) s3
                           exact ⟨rfl, d2, pi_trans HP1.out z1, z2, SS2.out⟩)))
            · first
              | (exfalso; omega)
              | (have l1 : (decide ((a : Int) < (s : Int)) = false ∧ s ≤ a) ∨ (decide ((a : Int) < (s : Int)) = true ∧ decide ((s : Int) < (mid : Int)) = false ∧ a < s ∧ mid ≤ s) := by
                   by_cases c : a < s
                   · exact .inr ⟨decide_eq_true (by omega), decide_eq_false (by omega), c, by omega⟩
                   · exact .inl ⟨decide_eq_false (by omega), by omega⟩
                 have s2 : SortedIn (ltOf cf) a mid d1 := by
                   by_cases c : a < s
                   · have c2 : s = mid := by omega
                     rw [← c2]; exact X1.out
                   · have c2 : s = a := by omega
                     rw [← c2]; exact X2.out
                 have p2 : PermIn a mid d1 d1 := permIn_refl d1 a mid
                 rcases l1 with ⟨l1, l3⟩ | ⟨l1, l2, l3, l4⟩
                 all_goals
                   first
                   | (exfalso; omega)
                   | (have cR : (mid < e ∧ e < b) ∨ ¬ (mid < e ∧ e < b) := Classical.em _
                      rcases cR with cR | cR
                      · first
                        | (exfalso; omega)
                        | (have r1 : decide ((mid : Int) < (e : Int)) = true := decide_eq_true (by omega)
                           have r2 : decide ((e : Int) < (b : Int)) = true := decide_eq_true (by omega)
                           have hc3 := IH.out mid e b d1 _ (by omega) (by omega) (by omega) (by omega) (by omega) SS1.out (SortedIn.congr X3.out fun x x1 x2 => p2.2.1 x (by omega)) (SortedIn.congr X4.out fun x x1 x2 => p2.2.1 x (by omega))
                           rw [sz1] at hc3
                           go_wp2_with fail
                           go_at_call 27
                           refine hc3.mono ?_
                           rintro e9 w9 ⟨rfl, d3, p3, s3, S9⟩
                           go_wp2_with fail
                           go_end0
                           obtain ⟨z1, z2⟩ := merge_glue (d := d1) (by omega) (by omega) (by omega) X5.out p2 s2 p3 s3
                           exact ⟨rfl, d3, pi_trans HP1.out z1, z2, S9⟩)
                      · first
                        | (exfalso; omega)
                        | (have r1 : (decide ((mid : Int) < (e : Int)) = false ∧ e ≤ mid) ∨ (decide ((mid : Int) < (e : Int)) = true ∧ decide ((e : Int) < (b : Int)) = false ∧ mid < e ∧ b ≤ e) := by
                             by_cases c : mid < e
                             · exact .inr ⟨decide_eq_true (by omega), decide_eq_false (by omega), c, by omega⟩
                             · exact .inl ⟨decide_eq_false (by omega), by omega⟩
                           have s3 : SortedIn (ltOf cf) mid b d1 := by
                             by_cases c : mid < e
                             · have c2 : e = b := by omega
                               rw [← c2]; exact SortedIn.congr X3.out fun x x1 x2 => p2.2.1 x (by omega)
                             · have c2 : e = mid := by omega
                               rw [← c2]; exact SortedIn.congr X4.out fun x x1 x2 => p2.2.1 x (by omega)
                           rcases r1 with ⟨r1, r3⟩ | ⟨r1, r2, r3, r4⟩
                           all_goals
                             first
                             | (exfalso; omega)
                             | (go_wp2_with fail
                                go_end0
                                obtain ⟨z1, z2⟩ := merge_glue (d := d1) (by omega) (by omega) (by omega) X5.out p2 s2 (permIn_refl d1 mid b) s3
                                exact ⟨rfl, d1, pi_trans HP1.out z1, z2, SS1.out⟩))))
          · have o1 : (decide ((s : Int) < (m : Int)) = false ∧ m ≤ s) ∨ (decide ((s : Int) < (m : Int)) = true ∧ decide ((m : Int) < (e : Int)) = false ∧ s < m ∧ e ≤ m) := by
              by_cases c : s < m
              · exact .inr ⟨decide_eq_true (by omega), decide_eq_false (by omega), c, by omega⟩
              · exact .inl ⟨decide_eq_false (by omega), by omega⟩
            obtain ⟨d1, hd1⟩ : ∃ d1, d1 = d := ⟨_, rfl⟩
            have HP1 : Aside (PermIn a b d d1) := by rw [hd1]; exact permIn_refl d a b
            have SS1 : Aside (SWK enc k w0 blk off d1 wr) := by rw [hd1]; exact S1.out
            have sz1 : d1.size = d.size := HP1.out.1
            obtain ⟨x1, x2, x3, x4, x5⟩ := merge_split C.swo (mid := mid) (d := d) (d' := d1) has hsm hme heb (by omega) HU.out HV.out HA3.out HB3.out (fun x x1 x2 => by rw [hd1]; split <;> (congr 1; omega)) (fun x hx => by rw [hd1])
            have X1 : Aside (SortedIn (ltOf cf) a s d1) := x1
            have X2 : Aside (SortedIn (ltOf cf) s mid d1) := x2
            have X3 : Aside (SortedIn (ltOf cf) mid e d1) := x3
            have X4 : Aside (SortedIn (ltOf cf) e b d1) := x4
            have X5 : Aside (∀ x y, a ≤ x → x < mid → mid ≤ y → y < b → ltOf cf d1[y]! d1[x]! = false) := x5
            clear x1 x2 x3 x4 x5
            clear hd1 S1
            rcases o1 with ⟨o1, o3⟩ | ⟨o1, o2, o3, o4⟩
            all_goals
              first
              | (exfalso; omega)
              | (have cL : (a < s ∧ s < mid) ∨ ¬ (a < s ∧ s < mid) := Classical.em _
                 rcases cL with cL | cL
                 · first
                   | (exfalso; omega)
                   | (have l1 : decide ((a : Int) < (s : Int)) = true := decide_eq_true (by omega)
                      have l2 : decide ((s : Int) < (mid : Int)) = true := decide_eq_true (by omega)
                      have hc2 := IH.out a s mid d1 _ (by omega) (by omega) (by omega) (by omega) (by omega) SS1.out X1.out X2.out
                      rw [sz1] at hc2
                      go_wp2_with fail
                      go_at_call 27
                      refine hc2.mono ?_
                      rintro e8 w8 ⟨rfl, d2, p2, s2, S8⟩
                      have SS2 : Aside (SWK enc k w0 blk off d2 w8) := S8
                      have sz2 : d2.size = d.size := p2.1.trans sz1
                      clear S8 hc2
                      have cR : (mid < e ∧ e < b) ∨ ¬ (mid < e ∧ e < b) := Classical.em _
                      rcases cR with cR | cR
                      · first
                        | (exfalso; omega)
                        | (have r1 : decide ((mid : Int) < (e : Int)) = true := decide_eq_true (by omega)
                           have r2 : decide ((e : Int) < (b : Int)) = true := decide_eq_true (by omega)
                           have hc3 := IH.out mid e b d2 _ (by omega) (by omega) (by omega) (by omega) (by omega) SS2.out (SortedIn.congr X3.out fun x x1 x2 => p2.2.1 x (by omega)) (SortedIn.congr X4.out fun x x1 x2 => p2.2.1 x (by omega))
                           rw [sz2] at hc3
                           go_wp2_with fail
                           go_at_call 27
                           refine hc3.mono ?_
                           rintro e9 w9 ⟨rfl, d3, p3, s3, S9⟩
                           go_wp2_with fail
                           go_end0
                           obtain ⟨z1, z2⟩ := merge_glue (d := d1) (by omega) (by omega) (by omega) X5.out p2 s2 p3 s3
                           exact ⟨rfl, d3, pi_trans HP1.out z1, z2, S9⟩)
                      · first
                        | (exfalso; omega)
                        | (have r1 : (decide ((mid : Int) < (e : Int)) = false ∧ e ≤ mid) ∨ (decide ((mid : Int) < (e : Int)) = true ∧ decide ((e : Int) < (b : Int)) = false ∧ mid < e ∧ b ≤ e) := by
                             by_cases c : mid < e
                             · exact .inr ⟨decide_eq_true (by omega), decide_eq_false (by omega), c, by omega⟩
                             · exact .inl ⟨decide_eq_false (by omega), by omega⟩
                           have s3 : SortedIn (ltOf cf) mid b d2 := by
                             by_cases c : mid < e
                             · have c2 : e = b := by omega
                               rw [← c2]; exact SortedIn.congr X3.out fun x x1 x2 => p2.2.1 x (by omega)
                             · have c2 : e = mid := by omega
                               rw [← c2]; exact SortedIn.congr X4.out fun x x1 x2 => p2.2.1 x (by omega)
                           rcases r1 with ⟨r1, r3⟩ | ⟨r1, r2, r3, r4⟩
                           all_goals
                             first
                             | (exfalso; omega)
                             | (go_wp2_with fail
                                go_end0
                                obtain ⟨z1, z2⟩ := merge_glue (d := d1) (by omega) (by omega) (by omega) X5.out p2 s2 (permIn_refl d2 mid b) s3
                                exact ⟨rfl, d2, pi_trans HP1.out z1, z2, SS2.out⟩)))
                 · first
                   | (exfalso; omega)
                   | (have l1 : (decide ((a : Int) < (s : Int)) = false ∧ s ≤ a) ∨ (decide ((a : Int) < (s : Int)) = true ∧ decide ((s : Int) < (mid : Int)) = false ∧ a < s ∧ mid ≤ s) := by
                        by_cases c : a < s
                        · exact .inr ⟨decide_eq_true (by omega), decide_eq_false (by omega), c, by omega⟩
                        · exact .inl ⟨decide_eq_false (by omega), by omega⟩
                      have s2 : SortedIn (ltOf cf) a mid d1 := by
                        by_cases c : a < s
                        · have c2 : s = mid := by omega
                          rw [← c2]; exact X1.out
                        · have c2 : s = a := by omega
                          rw [← c2]; exact X2.out
                      have p2 : PermIn a mid d1 d1 := permIn_refl d1 a mid
                      rcases l1 with ⟨l1, l3⟩ | ⟨l1, l2, l3, l4⟩
                      all_goals
                        first
                        | (exfalso; omega)
                        | (have cR : (mid < e ∧ e < b) ∨ ¬ (mid < e ∧ e < b) := Classical.em _
                           rcases cR with cR | cR
                           · first
                             | (exfalso; omega)
                             | (have r1 : decide ((mid : Int) < (e : Int)) = true := decide_eq_true (by omega)
                                have r2 : decide ((e : Int) < (b : Int)) = true := decide_eq_true (by omega)
                                have hc3 := IH.out mid e b d1 _ (by omega) (by omega) (by omega) (by omega) (by omega) SS1.out (SortedIn.congr X3.out fun x x1 x2 => p2.2.1 x (by omega)) (SortedIn.congr X4.out fun x x1 x2 => p2.2.1 x (by omega))
                                rw [sz1] at hc3
                                go_wp2_with fail
                                go_at_call 27
                                refine hc3.mono ?_
                                rintro e9 w9 ⟨rfl, d3, p3, s3, S9⟩
                                go_wp2_with fail
                                go_end0
                                obtain ⟨z1, z2⟩ := merge_glue (d := d1) (by omega) (by omega) (by omega) X5.out p2 s2 p3 s3
                                exact ⟨rfl, d3, pi_trans HP1.out z1, z2, S9⟩)
                           · first
                             | (exfalso; omega)
                             | (have r1 : (decide ((mid : Int) < (e : Int)) = false ∧ e ≤ mid) ∨ (decide ((mid : Int) < (e : Int)) = true ∧ decide ((e : Int) < (b : Int)) = false ∧ mid < e ∧ b ≤ e) := by
                                  by_cases c : mid < e
                                  · exact .inr ⟨decide_eq_true (by omega), decide_eq_false (by omega), c, by omega⟩
                                  · exact .inl ⟨decide_eq_false (by omega), by omega⟩
                                have s3 : SortedIn (ltOf cf) mid b d1 := by
                                  by_cases c : mid < e
                                  · have c2 : e = b := by omega
                                    rw [← c2]; exact SortedIn.congr X3.out fun x x1 x2 => p2.2.1 x (by omega)
                                  · have c2 : e = mid := by omega
                                    rw [← c2]; exact SortedIn.congr X4.out fun x x1 x2 => p2.2.1 x (by omega)
                                rcases r1 with ⟨r1, r3⟩ | ⟨r1, r2, r3, r4⟩
                                all_goals
                                  first
                                  | (exfalso; omega)
                                  | (go_wp2_with fail
                                     go_end0
                                     obtain ⟨z1, z2⟩ := merge_glue (d := d1) (by omega) (by omega) (by omega) X5.out p2 s2 (permIn_refl d1 mid b) s3
                                     exact ⟨rfl, d1, pi_trans HP1.out z1, z2, SS1.out⟩)))))
end Go.Proofs.Ytmjohabfikpahaa
