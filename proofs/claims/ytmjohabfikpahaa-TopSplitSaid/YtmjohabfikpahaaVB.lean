/- math/bits.Div64, by walking it. -/
import Derived.Test.YtmjohabfikpahaaVA
set_option maxRecDepth 1000000
set_option linter.unusedVariables false
set_option linter.unusedSimpArgs false
namespace Go.Proofs.Ytmjohabfikpahaa
open Go Go.Shelf Go.RowKit Go.Lib Go.Sort Go.Proofs
theorem body_letters {q r a1 : Nat} (h0 : 0 < q) (h1 : q < 18446744073709551616) (h2 : r < 4294967296) (h3 : a1 < 4294967296) :
    ∃ q2 r2 : Nat, IntKind.u64.wrap ((q : Int) - 1) = (q2 : Int) ∧ IntKind.u64.wrap ((r : Int) + (a1 : Int)) = (r2 : Int) ∧ q2 = q - 1 ∧ r2 = r + a1 :=
  ⟨q - 1, r + a1, by rw [IntKind.wrap_u64]; omega, by rw [IntKind.wrap_u64]; omega, rfl, rfl⟩
theorem test_letters {q a0 r u1 : Nat} (h0 : q < 4294967296) (h1 : a0 < 4294967296) (h2 : r < 4294967296) (h3 : u1 < 4294967296) :
    ∃ p t v : Nat, IntKind.u64.wrap ((q : Int) * (a0 : Int)) = (p : Int) ∧ IntKind.u64.wrap (4294967296 * (r : Int)) = (t : Int) ∧ IntKind.u64.wrap ((t : Int) + (u1 : Int)) = (v : Int) ∧ p = q * a0 ∧ v = 4294967296 * r + u1 := by
  have h4 : q * a0 ≤ 4294967295 * 4294967295 := Nat.mul_le_mul (by omega) (by omega)
  refine ⟨q * a0, 4294967296 * r, 4294967296 * r + u1, ?_, ?_, ?_, rfl, rfl⟩
  · rw [M64.mulN]; exact M64.wrapN _ (by omega)
  · rw [IntKind.wrap_u64]; omega
  · rw [IntKind.wrap_u64]; omega
theorem start_letters {U a1 : Nat} (h0 : 0 < a1) (h1 : U < 18446744073709551616) :
    ∃ q m r : Nat, IntKind.u64.wrap ((U : Int).tdiv (a1 : Int)) = (q : Int) ∧ IntKind.u64.wrap ((U : Int) / (a1 : Int)) = (q : Int) ∧ IntKind.u64.wrap ((q : Int) * (a1 : Int)) = (m : Int) ∧ IntKind.u64.wrap ((U : Int) - (m : Int)) = (r : Int) ∧ q * a1 + r = U ∧ r < a1 ∧ q = U / a1 := by
  have e := Nat.div_add_mod U a1
  have hm := Nat.mod_lt U h0
  rw [Nat.mul_comm] at e
  refine ⟨U / a1, U / a1 * a1, U % a1, ?_, ?_, ?_, ?_, e, hm, rfl⟩
  · rw [Int.tdiv_eq_ediv_of_nonneg (by omega), ← Int.natCast_ediv]; exact M64.wrapN _ (Nat.lt_of_le_of_lt (Nat.div_le_self _ _) h1)
  · rw [← Int.natCast_ediv]; exact M64.wrapN _ (Nat.lt_of_le_of_lt (Nat.div_le_self _ _) h1)
  · rw [M64.mulN]; exact M64.wrapN _ (by omega)
  · generalize U / a1 * a1 = m at *
    generalize U % a1 = r at *
    rw [IntKind.wrap_u64]; omega
theorem wrap_rest (m k R u1 : Nat) (hR : R < 18446744073709551616) (h : m + u1 = k + R) : IntKind.u64.wrap (((m + u1) % 18446744073709551616 : Nat) - ((k % 18446744073709551616 : Nat) : Int)) = (R : Int) := by
  rw [h, IntKind.wrap_u64]; omega
theorem rest_letters {U u1 Y q : Nat} (hq : q = (U * 4294967296 + u1) / Y) (hU : U < Y) (hu : u1 < 4294967296) (hY : Y < 18446744073709551616) :
    ∃ m1 m2 m3 R : Nat, IntKind.u64.wrap ((U : Int) * 4294967296) = (m1 : Int) ∧ IntKind.u64.wrap ((m1 : Int) + (u1 : Int)) = (m2 : Int) ∧ IntKind.u64.wrap ((q : Int) * (Y : Int)) = (m3 : Int) ∧ IntKind.u64.wrap ((m2 : Int) - (m3 : Int)) = (R : Int) ∧ R < Y ∧ U * 4294967296 + u1 = q * Y + R := by
  have e := Nat.div_add_mod (U * 4294967296 + u1) Y
  have hm := Nat.mod_lt (U * 4294967296 + u1) (show 0 < Y by omega)
  rw [← hq, Nat.mul_comm Y] at e
  refine ⟨U * 4294967296 % 18446744073709551616, (U * 4294967296 + u1) % 18446744073709551616, q * Y % 18446744073709551616, (U * 4294967296 + u1) % Y, ?_, ?_, ?_, ?_, hm, e.symm⟩
  · rw [IntKind.wrap_u64]; omega
  · rw [IntKind.wrap_u64]; omega
  · rw [M64.mulN]; exact M64.wrapM _
  · exact wrap_rest _ _ _ _ (by omega) e.symm
theorem end_letters {q1 q0 R2 s : Nat} (h1 : q1 < 4294967296) (h0 : q0 < 4294967296) :
    ∃ c1 quo rem : Nat, IntKind.u64.wrap ((q1 : Int) * 4294967296) = (c1 : Int) ∧ IntKind.u64.wrap ((c1 : Int) + (q0 : Int)) = (quo : Int) ∧ (R2 : Int) / 2 ^ s = (rem : Int) ∧ quo = q1 * 4294967296 + q0 ∧ rem = R2 / 2 ^ s := by
  refine ⟨q1 * 4294967296, q1 * 4294967296 + q0, R2 / 2 ^ s, ?_, ?_, ?_, rfl, rfl⟩
  · rw [IntKind.wrap_u64]; omega
  · rw [IntKind.wrap_u64]; omega
  · rw [show ((2 : Int) ^ s) = ((2 ^ s : Nat) : Int) by push_cast; rfl, ← Int.natCast_ediv]
set_option maxHeartbeats 8000000 in
theorem Div64_calls (hi lo y : Nat) (h1 : hi < y) (h2 : lo < 18446744073709551616) (h3 : y < 18446744073709551616) (w : World) :
    Calls Try.prog 15 #[.int .u64 hi, .int .u64 lo, .int .u64 y] w fun e w' => e = .returned (.tuple #[.int .u64 (((hi * 18446744073709551616 + lo) / y : Nat) : Int), .int .u64 (((hi * 18446744073709551616 + lo) % y : Nat) : Int)]) ∧ Only [] w w' := by
  have n0 : ((y : Int) == 0) = false := by rw [beq_eq_false_iff_ne]; omega
  have n0n : (y == 0) = false := by rw [beq_eq_false_iff_ne]; omega
  have n1 : decide ((y : Int) ≤ (hi : Int)) = false := decide_eq_false (by omega)
  have n1n : decide (y ≤ hi) = false := decide_eq_false (by omega)
  have mixed : Try.prog.follows Departure.mixedOrders = true := sh_try.mixed
  have e22 : ∀ args w, (callFunc 22 args).run Try.prog w = .ok (.enter 22 args) w := enters_of Try.func22 (by kernel_rfl) rfl
  by_cases c : hi = 0
  · subst c
    obtain ⟨q, r, e1, e2, e1b, e2b, hq, hr⟩ : ∃ q r : Nat, IntKind.u64.wrap ((lo : Int).tdiv (y : Int)) = (q : Int) ∧ IntKind.u64.wrap ((lo : Int).tmod (y : Int)) = (r : Int) ∧ IntKind.u64.wrap ((lo : Int) / (y : Int)) = (q : Int) ∧ IntKind.u64.wrap ((lo : Int) % (y : Int)) = (r : Int) ∧ lo / y = q ∧ lo % y = r := by
      refine ⟨lo / y, lo % y, ?_, ?_, ?_, ?_, rfl, rfl⟩
      · rw [Int.tdiv_eq_ediv_of_nonneg (by omega), ← Int.natCast_ediv]; exact M64.wrapN _ (Nat.lt_of_le_of_lt (Nat.div_le_self _ _) h2)
      · rw [Int.tmod_eq_emod_of_nonneg (by omega), ← Int.natCast_emod]; exact M64.wrapN _ (Nat.lt_of_le_of_lt (Nat.mod_le _ _) h2)
      · rw [← Int.natCast_ediv]; exact M64.wrapN _ (Nat.lt_of_le_of_lt (Nat.div_le_self _ _) h2)
      · rw [← Int.natCast_emod]; exact M64.wrapN _ (Nat.lt_of_le_of_lt (Nat.mod_le _ _) h2)
    have e2c : (lo : Int) % (y : Int) = (r : Int) := by rw [← hr, Int.natCast_emod]
    rw [Nat.zero_mul, Nat.zero_add, hq, hr]
    clear hq hr
    have ny : ¬ (y : Int) = 0 := by omega
    have ny2 : ¬ y = 0 := by omega
    go_enter Try.func15, Try.ntmps15
    go_wp2_with fail
    go_big_region_o
    all_goals go_wp2
    go_ret2
    exact ⟨by show Ending.returned (.tuple #[.int .u64 (q : Int), .int .u64 ((lo : Int) % (y : Int))]) = _; rw [e2c], ⟨rfl, rfl, rfl, Nat.le_refl _, fun _ _ _ => rfl⟩⟩
  · have n2 : ((hi : Int) == 0) = false := by rw [beq_eq_false_iff_ne]; omega
    have n3 : (hi == 0) = false := by rw [beq_eq_false_iff_ne]; omega
    have hc := LeadingZeros_calls (y : Int) w (by omega) (by omega)
    obtain ⟨s, hs, hs2, hs3, hs4⟩ := shift_fits (y := y) (by omega) h3
    rw [Int.toNat_natCast, hs] at hc
    obtain ⟨H, L, V, hH, hL, hV, bH, bL, bL2, bV, bHL, HNN0, hor⟩ := div_parts hs2 h1 h2 hs4
    obtain ⟨Y, hYs⟩ : ∃ Y, Y = y * 2 ^ s := ⟨_, rfl⟩
    rw [← hYs] at hs3 hs4 bHL
    have HYs : Aside (Y = y * 2 ^ s) := hYs
    have HNN : Aside ((hi * 18446744073709551616 + lo) * 2 ^ s = (H + L) * 18446744073709551616 + V) := HNN0
    have eY : IntKind.u64.wrap ((y : Int) * 2 ^ s) = (Y : Int) := by
      rw [show ((y : Int) * 2 ^ s) = ((y * 2 ^ s : Nat) : Int) by push_cast; rfl, ← hYs]; exact M64.wrapN _ hs4
    have eH : IntKind.u64.wrap ((hi : Int) * 2 ^ s) = (H : Int) := by
      rw [show ((hi : Int) * 2 ^ s) = ((hi * 2 ^ s : Nat) : Int) by push_cast; rfl, ← hH]; exact M64.wrapN _ bH
    have eV : IntKind.u64.wrap ((lo : Int) * 2 ^ s) = (V : Int) := by
      rw [show ((lo : Int) * 2 ^ s) = ((lo * 2 ^ s : Nat) : Int) by push_cast; rfl, M64.wrapM, ← hV]
    have eL : (lo : Int) / 2 ^ (64 - s) = (L : Int) := by
      rw [show ((2 : Int) ^ (64 - s)) = ((2 ^ (64 - s) : Nat) : Int) by push_cast; rfl, ← Int.natCast_ediv, ← hL]
    have eU : bits .or .u64 (H : Int) (L : Int) = ((H + L : Nat) : Int) := by rw [bits_or_u64_nat H L bH bL2, hor]
    obtain ⟨U, hU⟩ : ∃ U, U = H + L := ⟨_, rfl⟩
    rw [← hU] at eU bHL HNN
    have hUY1 : U < Y := bHL
    have hYb : Y < 18446744073709551616 := hs4
    obtain ⟨a1, ha1⟩ : ∃ a1, a1 = Y / 4294967296 := ⟨_, rfl⟩
    obtain ⟨a0, ha0e⟩ : ∃ a0, a0 = Y % 4294967296 := ⟨_, rfl⟩
    obtain ⟨u1, hu1e⟩ : ∃ u1, u1 = V / 4294967296 := ⟨_, rfl⟩
    obtain ⟨u0, hu0e⟩ : ∃ u0, u0 = V % 4294967296 := ⟨_, rfl⟩
    have ea1 : (Y : Int) / 4294967296 = (a1 : Int) := by rw [ha1]; rfl
    have ea0 : bits .and .u64 (Y : Int) 4294967295 = (a0 : Int) := by rw [M64.maskN Y hYb, ← ha0e]
    have eu1 : (V : Int) / 4294967296 = (u1 : Int) := by rw [hu1e]; rfl
    have eu0 : bits .and .u64 (V : Int) 4294967295 = (u0 : Int) := by rw [M64.maskN V bV, ← hu0e]
    have HY : Aside (Y = a1 * 4294967296 + a0) := by show Y = _; omega
    have HV : Aside (V = u1 * 4294967296 + u0) := by show V = _; omega
    have ha0 : a0 < 4294967296 := by omega
    have hu0 : u0 < 4294967296 := by omega
    have hu1 : u1 < 4294967296 := by omega
    have h31 : 2147483648 ≤ a1 := by omega
    have ha1b : a1 < 4294967296 := by omega
    clear hH hL hV bH bL bL2 bV bHL HNN0 hor hYs hU ha1 ha0e hu1e hu0e hs hs3
    have na1 : ¬ (a1 : Int) = 0 := by omega
    have na2 : ¬ a1 = 0 := by omega
    have na3 : ((a1 : Int) == 0) = false := by rw [beq_eq_false_iff_ne]; omega
    obtain ⟨Q1, hQ1d⟩ : ∃ Q1, Q1 = (U * 4294967296 + u1) / Y := ⟨_, rfl⟩
    have HD1 : Aside (Q1 = (U * 4294967296 + u1) / Y) := hQ1d
    obtain ⟨z0q, z0m, z0r, i1, i1b, i2, i3, hxe, hxr, hxq⟩ := start_letters (U := U) (a1 := a1) (by omega) (by omega)
    have HSe1 : Aside (z0q * a1 + z0r = U) := hxe
    have HSq1 : Aside (Q1 ≤ z0q) := by show _ ≤ z0q; rw [hxq, hQ1d]; exact dig_start HY.out (by omega) hu1
    have hxb : z0q < 18446744073709551616 := by have h9 : z0q ≤ U := (by rw [hxq]; exact Nat.div_le_self _ _); omega
    clear hxe hxq hQ1d
    go_enter Try.func15, Try.ntmps15
    go_wp2_with fail
    go_at_call 22
    refine hc.mono ?_
    rintro e w' ⟨rfl, h5⟩
    have h4 := h5.symm
    clear h5 hc
    subst h4
    go_wp2_with fail
    go_loopg [15, 16] z0q (fun kx sq sr wr => ∃ (xq xr : Nat), sq = .int .u64 xq ∧ sr = .int .u64 xr ∧ xr < 4294967296 ∧ xq ≤ kx ∧ xq < 18446744073709551616 ∧ Aside (xq * a1 + xr = U) ∧ Aside (Q1 ≤ xq) ∧ wr = w)
    case atStart => exact ⟨z0q, z0r, rfl, rfl, by omega, Nat.le_refl _, by omega, HSe1, HSq1, rfl⟩
    case round =>
      clear HSe1 HSq1
      obtain ⟨xq, xr, rfl, rfl, hrb, hk, hqb, HE, HQ, hwr⟩ := hrel
      have hwr2 := hwr.symm
      clear hwr
      subst hwr2
      by_cases hA : 4294967296 ≤ xq
      · have t1 : decide ((4294967296 : Int) ≤ (xq : Int)) = true := decide_eq_true (by omega)
        have HT : Aside (Q1 < xq) := by show Q1 < xq; rw [HD1.out]; exact dig_dec HY.out hUY1 hu1 HE.out (by rw [← HD1.out]; exact HQ.out) (.inl hA)
        obtain ⟨xq2, xr2, ed, er, hq2, hr2⟩ := body_letters (q := xq) (r := xr) (a1 := a1) (by have := HT.out; omega) hqb (by omega) (by omega)
        have HE2 : Aside (xq2 * a1 + xr2 = U) := by
          have h9 := HE.out
          show xq2 * a1 + xr2 = U
          rw [hq2, hr2, Nat.sub_mul, Nat.one_mul]
          have h8 : a1 ≤ xq * a1 := Nat.le_mul_of_pos_left _ (by have := HT.out; omega)
          omega
        have HQ2 : Aside (Q1 ≤ xq2) := by have h9 := HT.out; show _ ≤ xq2; omega
        have hk2 : xq2 < xq := by have h9 := HT.out; omega
        have hqb2 : xq2 < 18446744073709551616 := by omega
        clear HE HQ HT
        by_cases hbr : 4294967296 ≤ xr2
        · have t2 : decide ((4294967296 : Int) ≤ (xr2 : Int)) = true := decide_eq_true (by omega)
          have HQ3 : Aside (xq2 = (U * 4294967296 + u1) / Y) := dig_break HY.out ha0 hUY1 HE2.out (by rw [← HD1.out]; exact HQ2.out) hbr
          clear HE2 HQ2 hq2 hr2
          obtain ⟨m1, m2, m3, R, f1, f2, f3, f4, hUY2, hRe⟩ := rest_letters (U := U) (u1 := u1) (Y := Y) HQ3.out hUY1 hu1 hYb
          have HR1 : Aside (U * 4294967296 + u1 = xq2 * Y + R) := hRe
          have hqa : xq2 < 4294967296 := by rw [HQ3.out]; exact dig_lt hUY1 hu1
          obtain ⟨zq, zm, zr, j1, j1b, j2, j3, hze, hzr, hzq⟩ := start_letters (U := R) (a1 := a1) (by omega) (by omega)
          obtain ⟨Q2, hQ2d⟩ : ∃ Q2, Q2 = (R * 4294967296 + u0) / Y := ⟨_, rfl⟩
          have HD2 : Aside (Q2 = (R * 4294967296 + u0) / Y) := hQ2d
          have HSe2 : Aside (zq * a1 + zr = R) := hze
          have HSq2 : Aside (Q2 ≤ zq) := by show _ ≤ zq; rw [hzq, hQ2d]; exact dig_start HY.out (by omega) hu0
          have hzb : zq < 18446744073709551616 := by have h9 : zq ≤ R := (by rw [hzq]; exact Nat.div_le_self _ _); omega
          clear hRe hze hzq HQ3 hQ2d
          go_wp2_with fail
          go_loopg [18, 16] zq (fun kx sq sr wr => ∃ (yq yr : Nat), sq = .int .u64 yq ∧ sr = .int .u64 yr ∧ yr < 4294967296 ∧ yq ≤ kx ∧ yq < 18446744073709551616 ∧ Aside (yq * a1 + yr = R) ∧ Aside (Q2 ≤ yq) ∧ wr = w)
          case atStart => exact ⟨zq, zr, rfl, rfl, by omega, Nat.le_refl _, by omega, HSe2, HSq2, rfl⟩
          case round =>
            clear HSe2 HSq2
            obtain ⟨yq, yr, rfl, rfl, hrb, hk, hqb, HE, HQ, hwr⟩ := hrel
            have hwr2 := hwr.symm
            clear hwr
            subst hwr2
            by_cases hA : 4294967296 ≤ yq
            · have t1 : decide ((4294967296 : Int) ≤ (yq : Int)) = true := decide_eq_true (by omega)
              have HT : Aside (Q2 < yq) := by show Q2 < yq; rw [HD2.out]; exact dig_dec HY.out hUY2 hu0 HE.out (by rw [← HD2.out]; exact HQ.out) (.inl hA)
              obtain ⟨yq2, yr2, ed, er, hq2, hr2⟩ := body_letters (q := yq) (r := yr) (a1 := a1) (by have := HT.out; omega) hqb (by omega) (by omega)
              have HE2 : Aside (yq2 * a1 + yr2 = R) := by
                have h9 := HE.out
                show yq2 * a1 + yr2 = R
                rw [hq2, hr2, Nat.sub_mul, Nat.one_mul]
                have h8 : a1 ≤ yq * a1 := Nat.le_mul_of_pos_left _ (by have := HT.out; omega)
                omega
              have HQ2 : Aside (Q2 ≤ yq2) := by have h9 := HT.out; show _ ≤ yq2; omega
              have hk2 : yq2 < yq := by have h9 := HT.out; omega
              have hqb2 : yq2 < 18446744073709551616 := by omega
              clear HE HQ HT
              by_cases hbr : 4294967296 ≤ yr2
              · have t2 : decide ((4294967296 : Int) ≤ (yr2 : Int)) = true := decide_eq_true (by omega)
                have HQ3 : Aside (yq2 = (R * 4294967296 + u0) / Y) := dig_break HY.out ha0 hUY2 HE2.out (by rw [← HD2.out]; exact HQ2.out) hbr
                clear HE2 HQ2 hq2 hr2
                obtain ⟨f1, f2, f3, R2, g1, g2, g3, g4, hR2, hR2e⟩ := rest_letters (U := R) (u1 := u0) (Y := Y) HQ3.out hUY2 hu0 hYb
                have HR2 : Aside (R * 4294967296 + u0 = yq2 * Y + R2) := hR2e
                have hqd : yq2 < 4294967296 := by rw [HQ3.out]; exact dig_lt hUY2 hu0
                clear hR2e HQ3
                obtain ⟨c1, quo, rem, g5, g6, g7, hquo, hrem⟩ := end_letters (q1 := xq2) (q0 := yq2) (R2 := R2) (s := s) hqa hqd
                have HF : Aside ((hi * 18446744073709551616 + lo) / y = quo ∧ (hi * 18446744073709551616 + lo) % y = rem) := by
                  have h9 := div_digits HYs.out (by omega) HNN.out HV.out HR1.out HR2.out hR2
                  rw [hquo, hrem]; exact h9
                clear hquo hrem HR2 HR1 HNN HV HYs
                go_wp2_with fail
                go_ret2
                exact ⟨by rw [HF.out.1, HF.out.2]; first | rfl | go_num, Only.refl _ _⟩
              · have t2 : decide ((4294967296 : Int) ≤ (yr2 : Int)) = false := decide_eq_false (by omega)
                clear hq2 hr2
                go_wp2_with fail
                go_roundg yq2
                case measure => omega
                case rel => exact ⟨yq2, yr2, rfl, rfl, by omega, Nat.le_refl _, hqb2, HE2, HQ2, rfl⟩
            · have t1 : decide ((4294967296 : Int) ≤ (yq : Int)) = false := decide_eq_false (by omega)
              obtain ⟨yp, yt, yv, ep, et, ev, hp, hv⟩ := test_letters (q := yq) (a0 := a0) (r := yr) (u1 := u0) (by omega) ha0 hrb hu0
              have HP : Aside (yp = yq * a0) := hp
              clear hp
              by_cases hB : yv < yp
              · have t3 : decide ((yv : Int) < (yp : Int)) = true := decide_eq_true (by omega)
                have HT : Aside (Q2 < yq) := by show Q2 < yq; rw [HD2.out]; exact dig_dec HY.out hUY2 hu0 HE.out (by rw [← HD2.out]; exact HQ.out) (.inr (by rw [← HP.out]; omega))
                clear HP hv
                obtain ⟨yq2, yr2, ed, er, hq2, hr2⟩ := body_letters (q := yq) (r := yr) (a1 := a1) (by have := HT.out; omega) hqb (by omega) (by omega)
                have HE2 : Aside (yq2 * a1 + yr2 = R) := by
                  have h9 := HE.out
                  show yq2 * a1 + yr2 = R
                  rw [hq2, hr2, Nat.sub_mul, Nat.one_mul]
                  have h8 : a1 ≤ yq * a1 := Nat.le_mul_of_pos_left _ (by have := HT.out; omega)
                  omega
                have HQ2 : Aside (Q2 ≤ yq2) := by have h9 := HT.out; show _ ≤ yq2; omega
                have hk2 : yq2 < yq := by have h9 := HT.out; omega
                have hqb2 : yq2 < 18446744073709551616 := by omega
                clear HE HQ HT
                by_cases hbr : 4294967296 ≤ yr2
                · have t2 : decide ((4294967296 : Int) ≤ (yr2 : Int)) = true := decide_eq_true (by omega)
                  have HQ3 : Aside (yq2 = (R * 4294967296 + u0) / Y) := dig_break HY.out ha0 hUY2 HE2.out (by rw [← HD2.out]; exact HQ2.out) hbr
                  clear HE2 HQ2 hq2 hr2
                  obtain ⟨f1, f2, f3, R2, g1, g2, g3, g4, hR2, hR2e⟩ := rest_letters (U := R) (u1 := u0) (Y := Y) HQ3.out hUY2 hu0 hYb
                  have HR2 : Aside (R * 4294967296 + u0 = yq2 * Y + R2) := hR2e
                  have hqd : yq2 < 4294967296 := by rw [HQ3.out]; exact dig_lt hUY2 hu0
                  clear hR2e HQ3
                  obtain ⟨c1, quo, rem, g5, g6, g7, hquo, hrem⟩ := end_letters (q1 := xq2) (q0 := yq2) (R2 := R2) (s := s) hqa hqd
                  have HF : Aside ((hi * 18446744073709551616 + lo) / y = quo ∧ (hi * 18446744073709551616 + lo) % y = rem) := by
                    have h9 := div_digits HYs.out (by omega) HNN.out HV.out HR1.out HR2.out hR2
                    rw [hquo, hrem]; exact h9
                  clear hquo hrem HR2 HR1 HNN HV HYs
                  go_wp2_with fail
                  go_ret2
                  exact ⟨by rw [HF.out.1, HF.out.2]; first | rfl | go_num, Only.refl _ _⟩
                · have t2 : decide ((4294967296 : Int) ≤ (yr2 : Int)) = false := decide_eq_false (by omega)
                  clear hq2 hr2
                  go_wp2_with fail
                  go_roundg yq2
                  case measure => omega
                  case rel => exact ⟨yq2, yr2, rfl, rfl, by omega, Nat.le_refl _, hqb2, HE2, HQ2, rfl⟩
              · have t3 : decide ((yv : Int) < (yp : Int)) = false := decide_eq_false (by omega)
                have HQ3 : Aside (yq = (R * 4294967296 + u0) / Y) := dig_stop HY.out hUY2 HE.out (by rw [← HD2.out]; exact HQ.out) (by rw [← HP.out]; omega)
                clear HP hv HE HQ
                obtain ⟨f1, f2, f3, R2, g1, g2, g3, g4, hR2, hR2e⟩ := rest_letters (U := R) (u1 := u0) (Y := Y) HQ3.out hUY2 hu0 hYb
                have HR2 : Aside (R * 4294967296 + u0 = yq * Y + R2) := hR2e
                have hqd : yq < 4294967296 := by rw [HQ3.out]; exact dig_lt hUY2 hu0
                clear hR2e HQ3
                obtain ⟨c1, quo, rem, g5, g6, g7, hquo, hrem⟩ := end_letters (q1 := xq2) (q0 := yq) (R2 := R2) (s := s) hqa hqd
                have HF : Aside ((hi * 18446744073709551616 + lo) / y = quo ∧ (hi * 18446744073709551616 + lo) % y = rem) := by
                  have h9 := div_digits HYs.out (by omega) HNN.out HV.out HR1.out HR2.out hR2
                  rw [hquo, hrem]; exact h9
                clear hquo hrem HR2 HR1 HNN HV HYs
                go_wp2_with fail
                go_ret2
                exact ⟨by rw [HF.out.1, HF.out.2]; first | rfl | go_num, Only.refl _ _⟩
        · have t2 : decide ((4294967296 : Int) ≤ (xr2 : Int)) = false := decide_eq_false (by omega)
          clear hq2 hr2
          go_wp2_with fail
          go_roundg xq2
          case measure => omega
          case rel => exact ⟨xq2, xr2, rfl, rfl, by omega, Nat.le_refl _, hqb2, HE2, HQ2, rfl⟩
      · have t1 : decide ((4294967296 : Int) ≤ (xq : Int)) = false := decide_eq_false (by omega)
        obtain ⟨xp, xt, xv, ep, et, ev, hp, hv⟩ := test_letters (q := xq) (a0 := a0) (r := xr) (u1 := u1) (by omega) ha0 hrb hu1
        have HP : Aside (xp = xq * a0) := hp
        clear hp
        by_cases hB : xv < xp
        · have t3 : decide ((xv : Int) < (xp : Int)) = true := decide_eq_true (by omega)
          have HT : Aside (Q1 < xq) := by show Q1 < xq; rw [HD1.out]; exact dig_dec HY.out hUY1 hu1 HE.out (by rw [← HD1.out]; exact HQ.out) (.inr (by rw [← HP.out]; omega))
          clear HP hv
          obtain ⟨xq2, xr2, ed, er, hq2, hr2⟩ := body_letters (q := xq) (r := xr) (a1 := a1) (by have := HT.out; omega) hqb (by omega) (by omega)
          have HE2 : Aside (xq2 * a1 + xr2 = U) := by
            have h9 := HE.out
            show xq2 * a1 + xr2 = U
            rw [hq2, hr2, Nat.sub_mul, Nat.one_mul]
            have h8 : a1 ≤ xq * a1 := Nat.le_mul_of_pos_left _ (by have := HT.out; omega)
            omega
          have HQ2 : Aside (Q1 ≤ xq2) := by have h9 := HT.out; show _ ≤ xq2; omega
          have hk2 : xq2 < xq := by have h9 := HT.out; omega
          have hqb2 : xq2 < 18446744073709551616 := by omega
          clear HE HQ HT
          by_cases hbr : 4294967296 ≤ xr2
          · have t2 : decide ((4294967296 : Int) ≤ (xr2 : Int)) = true := decide_eq_true (by omega)
            have HQ3 : Aside (xq2 = (U * 4294967296 + u1) / Y) := dig_break HY.out ha0 hUY1 HE2.out (by rw [← HD1.out]; exact HQ2.out) hbr
            clear HE2 HQ2 hq2 hr2
            obtain ⟨m1, m2, m3, R, f1, f2, f3, f4, hUY2, hRe⟩ := rest_letters (U := U) (u1 := u1) (Y := Y) HQ3.out hUY1 hu1 hYb
            have HR1 : Aside (U * 4294967296 + u1 = xq2 * Y + R) := hRe
            have hqa : xq2 < 4294967296 := by rw [HQ3.out]; exact dig_lt hUY1 hu1
            obtain ⟨zq, zm, zr, j1, j1b, j2, j3, hze, hzr, hzq⟩ := start_letters (U := R) (a1 := a1) (by omega) (by omega)
            obtain ⟨Q2, hQ2d⟩ : ∃ Q2, Q2 = (R * 4294967296 + u0) / Y := ⟨_, rfl⟩
            have HD2 : Aside (Q2 = (R * 4294967296 + u0) / Y) := hQ2d
            have HSe2 : Aside (zq * a1 + zr = R) := hze
            have HSq2 : Aside (Q2 ≤ zq) := by show _ ≤ zq; rw [hzq, hQ2d]; exact dig_start HY.out (by omega) hu0
            have hzb : zq < 18446744073709551616 := by have h9 : zq ≤ R := (by rw [hzq]; exact Nat.div_le_self _ _); omega
            clear hRe hze hzq HQ3 hQ2d
            go_wp2_with fail
            go_loopg [18, 16] zq (fun kx sq sr wr => ∃ (yq yr : Nat), sq = .int .u64 yq ∧ sr = .int .u64 yr ∧ yr < 4294967296 ∧ yq ≤ kx ∧ yq < 18446744073709551616 ∧ Aside (yq * a1 + yr = R) ∧ Aside (Q2 ≤ yq) ∧ wr = w)
            case atStart => exact ⟨zq, zr, rfl, rfl, by omega, Nat.le_refl _, by omega, HSe2, HSq2, rfl⟩
            case round =>
              clear HSe2 HSq2
              obtain ⟨yq, yr, rfl, rfl, hrb, hk, hqb, HE, HQ, hwr⟩ := hrel
              have hwr2 := hwr.symm
              clear hwr
              subst hwr2
              by_cases hA : 4294967296 ≤ yq
              · have t1 : decide ((4294967296 : Int) ≤ (yq : Int)) = true := decide_eq_true (by omega)
                have HT : Aside (Q2 < yq) := by show Q2 < yq; rw [HD2.out]; exact dig_dec HY.out hUY2 hu0 HE.out (by rw [← HD2.out]; exact HQ.out) (.inl hA)
                obtain ⟨yq2, yr2, ed, er, hq2, hr2⟩ := body_letters (q := yq) (r := yr) (a1 := a1) (by have := HT.out; omega) hqb (by omega) (by omega)
                have HE2 : Aside (yq2 * a1 + yr2 = R) := by
                  have h9 := HE.out
                  show yq2 * a1 + yr2 = R
                  rw [hq2, hr2, Nat.sub_mul, Nat.one_mul]
                  have h8 : a1 ≤ yq * a1 := Nat.le_mul_of_pos_left _ (by have := HT.out; omega)
                  omega
                have HQ2 : Aside (Q2 ≤ yq2) := by have h9 := HT.out; show _ ≤ yq2; omega
                have hk2 : yq2 < yq := by have h9 := HT.out; omega
                have hqb2 : yq2 < 18446744073709551616 := by omega
                clear HE HQ HT
                by_cases hbr : 4294967296 ≤ yr2
                · have t2 : decide ((4294967296 : Int) ≤ (yr2 : Int)) = true := decide_eq_true (by omega)
                  have HQ3 : Aside (yq2 = (R * 4294967296 + u0) / Y) := dig_break HY.out ha0 hUY2 HE2.out (by rw [← HD2.out]; exact HQ2.out) hbr
                  clear HE2 HQ2 hq2 hr2
                  obtain ⟨f1, f2, f3, R2, g1, g2, g3, g4, hR2, hR2e⟩ := rest_letters (U := R) (u1 := u0) (Y := Y) HQ3.out hUY2 hu0 hYb
                  have HR2 : Aside (R * 4294967296 + u0 = yq2 * Y + R2) := hR2e
                  have hqd : yq2 < 4294967296 := by rw [HQ3.out]; exact dig_lt hUY2 hu0
                  clear hR2e HQ3
                  obtain ⟨c1, quo, rem, g5, g6, g7, hquo, hrem⟩ := end_letters (q1 := xq2) (q0 := yq2) (R2 := R2) (s := s) hqa hqd
                  have HF : Aside ((hi * 18446744073709551616 + lo) / y = quo ∧ (hi * 18446744073709551616 + lo) % y = rem) := by
                    have h9 := div_digits HYs.out (by omega) HNN.out HV.out HR1.out HR2.out hR2
                    rw [hquo, hrem]; exact h9
                  clear hquo hrem HR2 HR1 HNN HV HYs
                  go_wp2_with fail
                  go_ret2
                  exact ⟨by rw [HF.out.1, HF.out.2]; first | rfl | go_num, Only.refl _ _⟩
                · have t2 : decide ((4294967296 : Int) ≤ (yr2 : Int)) = false := decide_eq_false (by omega)
                  clear hq2 hr2
                  go_wp2_with fail
                  go_roundg yq2
                  case measure => omega
                  case rel => exact ⟨yq2, yr2, rfl, rfl, by omega, Nat.le_refl _, hqb2, HE2, HQ2, rfl⟩
              · have t1 : decide ((4294967296 : Int) ≤ (yq : Int)) = false := decide_eq_false (by omega)
                obtain ⟨yp, yt, yv, ep, et, ev, hp, hv⟩ := test_letters (q := yq) (a0 := a0) (r := yr) (u1 := u0) (by omega) ha0 hrb hu0
                have HP : Aside (yp = yq * a0) := hp
                clear hp
                by_cases hB : yv < yp
                · have t3 : decide ((yv : Int) < (yp : Int)) = true := decide_eq_true (by omega)
                  have HT : Aside (Q2 < yq) := by show Q2 < yq; rw [HD2.out]; exact dig_dec HY.out hUY2 hu0 HE.out (by rw [← HD2.out]; exact HQ.out) (.inr (by rw [← HP.out]; omega))
                  clear HP hv
                  obtain ⟨yq2, yr2, ed, er, hq2, hr2⟩ := body_letters (q := yq) (r := yr) (a1 := a1) (by have := HT.out; omega) hqb (by omega) (by omega)
                  have HE2 : Aside (yq2 * a1 + yr2 = R) := by
                    have h9 := HE.out
                    show yq2 * a1 + yr2 = R
                    rw [hq2, hr2, Nat.sub_mul, Nat.one_mul]
                    have h8 : a1 ≤ yq * a1 := Nat.le_mul_of_pos_left _ (by have := HT.out; omega)
                    omega
                  have HQ2 : Aside (Q2 ≤ yq2) := by have h9 := HT.out; show _ ≤ yq2; omega
                  have hk2 : yq2 < yq := by have h9 := HT.out; omega
                  have hqb2 : yq2 < 18446744073709551616 := by omega
                  clear HE HQ HT
                  by_cases hbr : 4294967296 ≤ yr2
                  · have t2 : decide ((4294967296 : Int) ≤ (yr2 : Int)) = true := decide_eq_true (by omega)
                    have HQ3 : Aside (yq2 = (R * 4294967296 + u0) / Y) := dig_break HY.out ha0 hUY2 HE2.out (by rw [← HD2.out]; exact HQ2.out) hbr
                    clear HE2 HQ2 hq2 hr2
                    obtain ⟨f1, f2, f3, R2, g1, g2, g3, g4, hR2, hR2e⟩ := rest_letters (U := R) (u1 := u0) (Y := Y) HQ3.out hUY2 hu0 hYb
                    have HR2 : Aside (R * 4294967296 + u0 = yq2 * Y + R2) := hR2e
                    have hqd : yq2 < 4294967296 := by rw [HQ3.out]; exact dig_lt hUY2 hu0
                    clear hR2e HQ3
                    obtain ⟨c1, quo, rem, g5, g6, g7, hquo, hrem⟩ := end_letters (q1 := xq2) (q0 := yq2) (R2 := R2) (s := s) hqa hqd
                    have HF : Aside ((hi * 18446744073709551616 + lo) / y = quo ∧ (hi * 18446744073709551616 + lo) % y = rem) := by
                      have h9 := div_digits HYs.out (by omega) HNN.out HV.out HR1.out HR2.out hR2
                      rw [hquo, hrem]; exact h9
                    clear hquo hrem HR2 HR1 HNN HV HYs
                    go_wp2_with fail
                    go_ret2
                    exact ⟨by rw [HF.out.1, HF.out.2]; first | rfl | go_num, Only.refl _ _⟩
                  · have t2 : decide ((4294967296 : Int) ≤ (yr2 : Int)) = false := decide_eq_false (by omega)
                    clear hq2 hr2
                    go_wp2_with fail
                    go_roundg yq2
                    case measure => omega
                    case rel => exact ⟨yq2, yr2, rfl, rfl, by omega, Nat.le_refl _, hqb2, HE2, HQ2, rfl⟩
                · have t3 : decide ((yv : Int) < (yp : Int)) = false := decide_eq_false (by omega)
                  have HQ3 : Aside (yq = (R * 4294967296 + u0) / Y) := dig_stop HY.out hUY2 HE.out (by rw [← HD2.out]; exact HQ.out) (by rw [← HP.out]; omega)
                  clear HP hv HE HQ
                  obtain ⟨f1, f2, f3, R2, g1, g2, g3, g4, hR2, hR2e⟩ := rest_letters (U := R) (u1 := u0) (Y := Y) HQ3.out hUY2 hu0 hYb
                  have HR2 : Aside (R * 4294967296 + u0 = yq * Y + R2) := hR2e
                  have hqd : yq < 4294967296 := by rw [HQ3.out]; exact dig_lt hUY2 hu0
                  clear hR2e HQ3
                  obtain ⟨c1, quo, rem, g5, g6, g7, hquo, hrem⟩ := end_letters (q1 := xq2) (q0 := yq) (R2 := R2) (s := s) hqa hqd
                  have HF : Aside ((hi * 18446744073709551616 + lo) / y = quo ∧ (hi * 18446744073709551616 + lo) % y = rem) := by
                    have h9 := div_digits HYs.out (by omega) HNN.out HV.out HR1.out HR2.out hR2
                    rw [hquo, hrem]; exact h9
                  clear hquo hrem HR2 HR1 HNN HV HYs
                  go_wp2_with fail
                  go_ret2
                  exact ⟨by rw [HF.out.1, HF.out.2]; first | rfl | go_num, Only.refl _ _⟩
          · have t2 : decide ((4294967296 : Int) ≤ (xr2 : Int)) = false := decide_eq_false (by omega)
            clear hq2 hr2
            go_wp2_with fail
            go_roundg xq2
            case measure => omega
            case rel => exact ⟨xq2, xr2, rfl, rfl, by omega, Nat.le_refl _, hqb2, HE2, HQ2, rfl⟩
        · have t3 : decide ((xv : Int) < (xp : Int)) = false := decide_eq_false (by omega)
          have HQ3 : Aside (xq = (U * 4294967296 + u1) / Y) := dig_stop HY.out hUY1 HE.out (by rw [← HD1.out]; exact HQ.out) (by rw [← HP.out]; omega)
          clear HP hv HE HQ
          obtain ⟨m1, m2, m3, R, f1, f2, f3, f4, hUY2, hRe⟩ := rest_letters (U := U) (u1 := u1) (Y := Y) HQ3.out hUY1 hu1 hYb
          have HR1 : Aside (U * 4294967296 + u1 = xq * Y + R) := hRe
          have hqa : xq < 4294967296 := by rw [HQ3.out]; exact dig_lt hUY1 hu1
          obtain ⟨zq, zm, zr, j1, j1b, j2, j3, hze, hzr, hzq⟩ := start_letters (U := R) (a1 := a1) (by omega) (by omega)
          obtain ⟨Q2, hQ2d⟩ : ∃ Q2, Q2 = (R * 4294967296 + u0) / Y := ⟨_, rfl⟩
          have HD2 : Aside (Q2 = (R * 4294967296 + u0) / Y) := hQ2d
          have HSe2 : Aside (zq * a1 + zr = R) := hze
          have HSq2 : Aside (Q2 ≤ zq) := by show _ ≤ zq; rw [hzq, hQ2d]; exact dig_start HY.out (by omega) hu0
          have hzb : zq < 18446744073709551616 := by have h9 : zq ≤ R := (by rw [hzq]; exact Nat.div_le_self _ _); omega
          clear hRe hze hzq HQ3 hQ2d
          go_wp2_with fail
          go_loopg [18, 16] zq (fun kx sq sr wr => ∃ (yq yr : Nat), sq = .int .u64 yq ∧ sr = .int .u64 yr ∧ yr < 4294967296 ∧ yq ≤ kx ∧ yq < 18446744073709551616 ∧ Aside (yq * a1 + yr = R) ∧ Aside (Q2 ≤ yq) ∧ wr = w)
          case atStart => exact ⟨zq, zr, rfl, rfl, by omega, Nat.le_refl _, by omega, HSe2, HSq2, rfl⟩
          case round =>
            clear HSe2 HSq2
            obtain ⟨yq, yr, rfl, rfl, hrb, hk, hqb, HE, HQ, hwr⟩ := hrel
            have hwr2 := hwr.symm
            clear hwr
            subst hwr2
            by_cases hA : 4294967296 ≤ yq
            · have t1 : decide ((4294967296 : Int) ≤ (yq : Int)) = true := decide_eq_true (by omega)
              have HT : Aside (Q2 < yq) := by show Q2 < yq; rw [HD2.out]; exact dig_dec HY.out hUY2 hu0 HE.out (by rw [← HD2.out]; exact HQ.out) (.inl hA)
              obtain ⟨yq2, yr2, ed, er, hq2, hr2⟩ := body_letters (q := yq) (r := yr) (a1 := a1) (by have := HT.out; omega) hqb (by omega) (by omega)
              have HE2 : Aside (yq2 * a1 + yr2 = R) := by
                have h9 := HE.out
                show yq2 * a1 + yr2 = R
                rw [hq2, hr2, Nat.sub_mul, Nat.one_mul]
                have h8 : a1 ≤ yq * a1 := Nat.le_mul_of_pos_left _ (by have := HT.out; omega)
                omega
              have HQ2 : Aside (Q2 ≤ yq2) := by have h9 := HT.out; show _ ≤ yq2; omega
              have hk2 : yq2 < yq := by have h9 := HT.out; omega
              have hqb2 : yq2 < 18446744073709551616 := by omega
              clear HE HQ HT
              by_cases hbr : 4294967296 ≤ yr2
              · have t2 : decide ((4294967296 : Int) ≤ (yr2 : Int)) = true := decide_eq_true (by omega)
                have HQ3 : Aside (yq2 = (R * 4294967296 + u0) / Y) := dig_break HY.out ha0 hUY2 HE2.out (by rw [← HD2.out]; exact HQ2.out) hbr
                clear HE2 HQ2 hq2 hr2
                obtain ⟨f1, f2, f3, R2, g1, g2, g3, g4, hR2, hR2e⟩ := rest_letters (U := R) (u1 := u0) (Y := Y) HQ3.out hUY2 hu0 hYb
                have HR2 : Aside (R * 4294967296 + u0 = yq2 * Y + R2) := hR2e
                have hqd : yq2 < 4294967296 := by rw [HQ3.out]; exact dig_lt hUY2 hu0
                clear hR2e HQ3
                obtain ⟨c1, quo, rem, g5, g6, g7, hquo, hrem⟩ := end_letters (q1 := xq) (q0 := yq2) (R2 := R2) (s := s) hqa hqd
                have HF : Aside ((hi * 18446744073709551616 + lo) / y = quo ∧ (hi * 18446744073709551616 + lo) % y = rem) := by
                  have h9 := div_digits HYs.out (by omega) HNN.out HV.out HR1.out HR2.out hR2
                  rw [hquo, hrem]; exact h9
                clear hquo hrem HR2 HR1 HNN HV HYs
                go_wp2_with fail
                go_ret2
                exact ⟨by rw [HF.out.1, HF.out.2]; first | rfl | go_num, Only.refl _ _⟩
              · have t2 : decide ((4294967296 : Int) ≤ (yr2 : Int)) = false := decide_eq_false (by omega)
                clear hq2 hr2
                go_wp2_with fail
                go_roundg yq2
                case measure => omega
                case rel => exact ⟨yq2, yr2, rfl, rfl, by omega, Nat.le_refl _, hqb2, HE2, HQ2, rfl⟩
            · have t1 : decide ((4294967296 : Int) ≤ (yq : Int)) = false := decide_eq_false (by omega)
              obtain ⟨yp, yt, yv, ep, et, ev, hp, hv⟩ := test_letters (q := yq) (a0 := a0) (r := yr) (u1 := u0) (by omega) ha0 hrb hu0
              have HP : Aside (yp = yq * a0) := hp
              clear hp
              by_cases hB : yv < yp
              · have t3 : decide ((yv : Int) < (yp : Int)) = true := decide_eq_true (by omega)
                have HT : Aside (Q2 < yq) := by show Q2 < yq; rw [HD2.out]; exact dig_dec HY.out hUY2 hu0 HE.out (by rw [← HD2.out]; exact HQ.out) (.inr (by rw [← HP.out]; omega))
                clear HP hv
                obtain ⟨yq2, yr2, ed, er, hq2, hr2⟩ := body_letters (q := yq) (r := yr) (a1 := a1) (by have := HT.out; omega) hqb (by omega) (by omega)
                have HE2 : Aside (yq2 * a1 + yr2 = R) := by
                  have h9 := HE.out
                  show yq2 * a1 + yr2 = R
                  rw [hq2, hr2, Nat.sub_mul, Nat.one_mul]
                  have h8 : a1 ≤ yq * a1 := Nat.le_mul_of_pos_left _ (by have := HT.out; omega)
                  omega
                have HQ2 : Aside (Q2 ≤ yq2) := by have h9 := HT.out; show _ ≤ yq2; omega
                have hk2 : yq2 < yq := by have h9 := HT.out; omega
                have hqb2 : yq2 < 18446744073709551616 := by omega
                clear HE HQ HT
                by_cases hbr : 4294967296 ≤ yr2
                · have t2 : decide ((4294967296 : Int) ≤ (yr2 : Int)) = true := decide_eq_true (by omega)
                  have HQ3 : Aside (yq2 = (R * 4294967296 + u0) / Y) := dig_break HY.out ha0 hUY2 HE2.out (by rw [← HD2.out]; exact HQ2.out) hbr
                  clear HE2 HQ2 hq2 hr2
                  obtain ⟨f1, f2, f3, R2, g1, g2, g3, g4, hR2, hR2e⟩ := rest_letters (U := R) (u1 := u0) (Y := Y) HQ3.out hUY2 hu0 hYb
                  have HR2 : Aside (R * 4294967296 + u0 = yq2 * Y + R2) := hR2e
                  have hqd : yq2 < 4294967296 := by rw [HQ3.out]; exact dig_lt hUY2 hu0
                  clear hR2e HQ3
                  obtain ⟨c1, quo, rem, g5, g6, g7, hquo, hrem⟩ := end_letters (q1 := xq) (q0 := yq2) (R2 := R2) (s := s) hqa hqd
                  have HF : Aside ((hi * 18446744073709551616 + lo) / y = quo ∧ (hi * 18446744073709551616 + lo) % y = rem) := by
                    have h9 := div_digits HYs.out (by omega) HNN.out HV.out HR1.out HR2.out hR2
                    rw [hquo, hrem]; exact h9
                  clear hquo hrem HR2 HR1 HNN HV HYs
                  go_wp2_with fail
                  go_ret2
                  exact ⟨by rw [HF.out.1, HF.out.2]; first | rfl | go_num, Only.refl _ _⟩
                · have t2 : decide ((4294967296 : Int) ≤ (yr2 : Int)) = false := decide_eq_false (by omega)
                  clear hq2 hr2
                  go_wp2_with fail
                  go_roundg yq2
                  case measure => omega
                  case rel => exact ⟨yq2, yr2, rfl, rfl, by omega, Nat.le_refl _, hqb2, HE2, HQ2, rfl⟩
              · have t3 : decide ((yv : Int) < (yp : Int)) = false := decide_eq_false (by omega)
                have HQ3 : Aside (yq = (R * 4294967296 + u0) / Y) := dig_stop HY.out hUY2 HE.out (by rw [← HD2.out]; exact HQ.out) (by rw [← HP.out]; omega)
                clear HP hv HE HQ
                obtain ⟨f1, f2, f3, R2, g1, g2, g3, g4, hR2, hR2e⟩ := rest_letters (U := R) (u1 := u0) (Y := Y) HQ3.out hUY2 hu0 hYb
                have HR2 : Aside (R * 4294967296 + u0 = yq * Y + R2) := hR2e
                have hqd : yq < 4294967296 := by rw [HQ3.out]; exact dig_lt hUY2 hu0
                clear hR2e HQ3
                obtain ⟨c1, quo, rem, g5, g6, g7, hquo, hrem⟩ := end_letters (q1 := xq) (q0 := yq) (R2 := R2) (s := s) hqa hqd
                have HF : Aside ((hi * 18446744073709551616 + lo) / y = quo ∧ (hi * 18446744073709551616 + lo) % y = rem) := by
                  have h9 := div_digits HYs.out (by omega) HNN.out HV.out HR1.out HR2.out hR2
                  rw [hquo, hrem]; exact h9
                clear hquo hrem HR2 HR1 HNN HV HYs
                go_wp2_with fail
                go_ret2
                exact ⟨by rw [HF.out.1, HF.out.2]; first | rfl | go_num, Only.refl _ _⟩
end Go.Proofs.Ytmjohabfikpahaa
