/- The law TopSplit, where the total is split. -/
import Derived.Test.YtmjohabfikpahaaVJ
set_option maxRecDepth 1000000
set_option linter.unusedVariables false
set_option linter.unusedSimpArgs false
namespace Go.Proofs.Ytmjohabfikpahaa
open Go Go.Shelf Go.RowKit Go.Lib Go.Sort Go.Proofs
/-- The last one so far that has a unit more, and its rest. -/
def Up (T S : Nat) (zs o : List Int) (n : Nat) (last least : Int) : Prop := (last = -1 ∧ least = -1) ∨ ∃ x, x < n ∧ last = (x : Int) ∧ least = (rN T S (nats zs) x : Int) ∧ o.getD x 0 = (qN T S (nats zs) x : Int) + 1
def Dn (T S : Nat) (zs o : List Int) (n : Nat) (first best : Int) : Prop := (first = -1 ∧ best = -1) ∨ ∃ x, x < n ∧ first = (x : Int) ∧ best = (rN T S (nats zs) x : Int) ∧ o.getD x 0 = (qN T S (nats zs) x : Int)
theorem wrap_succ {q T : Nat} (h : q ≤ T) (hT : T < 4611686018427387904) : RowKit.wrap64 ((q : Int) + 1) = (q : Int) + 1 ∧ IntKind.i64.wrap ((q : Int) + 1) = (q : Int) + 1 := wrap_ok _ (by unfold I64; omega)
theorem up_down {T S n : Nat} {zs o : List Int} {last least first best : Int} (h : Told T S (nats zs) o) (hn : n = (nats zs).length) (hu : Up T S zs o n last least) (hd : Dn T S zs o n first best) :
    last < 0 ∨ (¬ last < 0 ∧ first < 0) ∨ (¬ last < 0 ∧ ¬ first < 0 ∧ best < least) ∨ (¬ last < 0 ∧ ¬ first < 0 ∧ ¬ best < least ∧ least = best ∧ last < first) := by
  rcases hu with ⟨h1, h2⟩ | ⟨x, hx, h1, h2, h3⟩
  · left; omega
  · rcases hd with ⟨g1, g2⟩ | ⟨y, hy, g1, g2, g3⟩
    · right; left; omega
    · have := h.ord x y (by omega) (by omega) h3 g3
      omega
set_option maxHeartbeats 8000000 in
theorem law_taken (T : Nat) (A : Option Addr) (zs : List Int) (n c : Nat) (w : World) (hI : Ints w A zs) (hn : n = zs.length) (hz : ∀ z ∈ zs, I64 z) (h : Takes (T : Int) zs) :
    Calls Try.prog 3 #[.int .i64 T, .slice A n c] w fun e w' => e = .returned (.bool true) ∧ Only [] w w' := by
  have hT : T < 4611686018427387904 := by have := h.2.2; omega
  have hF := h.1
  have hl : zs.length ≤ 4096 := hF.2.1
  have hn0 : 1 ≤ n := by have := hF.1; omega
  have hn4 : n ≤ 4096 := by omega
  have hsp := Split_calls T A zs n c w hT hI hn hz hF
  have hsum := fun w1 h1 => Sum_calls A zs n c w1 h1 hn hz (by omega)
  have e4 : ∀ args w, (callFunc 4 args).run Try.prog w = .ok (.enter 4 args) w := enters_of Try.func4 (by kernel_rfl) rfl
  have e5 : ∀ args w, (callFunc 5 args).run Try.prog w = .ok (.enter 5 args) w := enters_of Try.func5 (by kernel_rfl) rfl
  have e6 : ∀ args w, (callFunc 6 args).run Try.prog w = .ok (.enter 6 args) w := enters_of Try.func6 (by kernel_rfl) rfl
  have e7 : ∀ args w, (callFunc 7 args).run Try.prog w = .ok (.enter 7 args) w := enters_of Try.func7 (by kernel_rfl) rfl
  obtain ⟨S, hS⟩ : ∃ S, S = zs.sum.toNat := ⟨_, rfl⟩
  rw [← hS] at hsp
  have hS0 : 0 < S := by have := hF.2.2.2.1; omega
  have hSb : S < 4611686018427387904 := by have := hF.2.2.2.2; omega
  have HSs : Aside (zs.sum = (S : Int)) := by show zs.sum = (S : Int); have := hF.2.2.2.1; omega
  have HSW : Aside (S = (nats zs).sum) := by
    have h9 := nats_sum zs hF.2.2.1
    show S = _
    have := HSs.out
    omega
  have HN : Aside (n = zs.length) := hn
  have HTK : Aside (Takes (T : Int) zs) := h
  have HI : Aside (Ints w A zs) := hI
  have t0 : decide ((0 : Int) ≤ (T : Int)) = true := decide_eq_true (by omega)
  have t1 : decide ((T : Int) < (4611686018427387904 : Int)) = true := decide_eq_true (by omega)
  have t2 : decide ((1 : Int) ≤ (n : Int)) = true := decide_eq_true (by omega)
  have t3 : decide ((n : Int) ≤ (4096 : Int)) = true := decide_eq_true (by omega)
  have t5 : decide ((0 : Int) < (S : Int)) = true := decide_eq_true (by omega)
  have t6 : decide ((S : Int) < (4611686018427387904 : Int)) = true := decide_eq_true (by omega)
  clear hI hn hz h hl hS hF
  go_enter Try.func3, Try.ntmps3
  go_wp2_with fail
  go_at_call 4
  refine hsp.mono ?_
  rintro e w1 ⟨O, o, rfl, htd, hio, o1⟩
  have HTD : Aside (Told T S (nats zs) o) := htd
  have HIO : Aside (Ints w1 (some ⟨O, 0, none⟩) o) := hio
  have hol : o.length = n := by rw [htd.len, nats_len]; exact HN.out.symm
  have hsumo := fun w9 h9 => Sum_calls (some ⟨O, 0, none⟩) o n n w9 h9 hol.symm (fun z hz => by
    obtain ⟨j, hj, e⟩ := List.getElem_of_mem hz
    have h8 := htd.each j (by rw [nats_len, ← HN.out]; omega)
    rw [List.getD_eq_getElem?_getD, List.getElem?_eq_getElem hj, e] at h8
    have h7 := qN_le T S (nats zs) j (by rw [HSW.out]; exact le_sum _ j) hS0
    simp only [Option.getD_some] at h8
    unfold I64
    omega) (by omega)
  have hsum2 := hsum w1 (HI.out.new o1)
  have HO1 : Aside (Only [] w w1) := o1
  clear hsp hsum o1 htd hio hol
  go_wp2_with fail
  go_at_call 5
  refine hsum2.mono ?_
  rintro e w2 ⟨s, fits, rfl, hs1, hs2, o2⟩
  have hfit : fits = true := hs1.2 (by rw [HSs.out]; unfold I64; omega)
  subst hfit
  have hsv := hs2 rfl
  rw [HSs.out] at hsv
  subst hsv
  have HO12 : Aside (Only [] w1 w2) := o2
  have HO2 : Aside (Only [] w w2) := HO1.out.trans o2 (fun _ h _ => h)
  have HI2 : Aside (Ints w2 A zs) := HI.out.new HO2.out
  clear hsum2 hs1 hs2 o2 HO1
  go_wp2_with fail
  go_loopg [9, 10] n (fun kx s9 s10 wr => ∃ (i : Nat), s9 = .bool true ∧ s10 = .int .i64 i ∧ i ≤ n ∧ n - i ≤ kx ∧ wr = w2)
  case atStart => exact ⟨0, rfl, rfl, by omega, by omega, rfl⟩
  case round =>
    obtain ⟨i, rfl, rfl, hin, hk, hwr⟩ := hrel
    have hwr2 := hwr.symm
    clear hwr
    subst hwr2
    by_cases hlt : i < n
    · have p1 : decide ((i : Int) < (n : Int)) = true := decide_eq_true (by omega)
      have p2 : (i : Int) < (n : Int) := by omega
      have ei : ((i : Int)).toNat = i := by omega
      obtain ⟨b, off, hA, hb, hc⟩ := HI2.out (by have := HN.out; omega)
      subst hA
      obtain ⟨z, hzz⟩ : ∃ z, z = zs.getD i 0 := ⟨_, rfl⟩
      have hcz := hc i (by have := HN.out; omega)
      rw [← hzz] at hcz
      have hz0 : 0 ≤ z := by rw [hzz]; exact HTK.out.1.2.2.1 _ (getD_mem (by have := HN.out; omega))
      have p3 : decide ((0 : Int) ≤ z) = true := decide_eq_true hz0
      clear hc hzz
      go_wp2_with fail
      go_roundg (n - (i + 1))
      case measure => omega
      case rel => exact ⟨i + 1, rfl, by go_num, hlt, Nat.le_refl _, rfl⟩
    · have p1 : decide ((i : Int) < (n : Int)) = false := decide_eq_false (by omega)
      have hin2 : i = n := by omega
      subst hin2
      have HNn : Aside (o.length = i) := by show o.length = i; rw [HTD.out.len, nats_len]; exact HN.out.symm
      have m1 : ((i : Int) == (i : Int)) = true := by simp
      go_wp2_with fail
      go_at_call 5
      refine (hsumo w2 (HIO.out.new HO12.out)).mono ?_
      rintro e w3 ⟨a, is, rfl, ha1, ha2, o3⟩
      have his : is = true := ha1.2 (by rw [HTD.out.sum]; unfold I64; omega)
      subst his
      have hav := ha2 rfl
      rw [HTD.out.sum] at hav
      subst hav
      have HO3 : Aside (Only [] w w3) := HO2.out.trans o3 (fun _ h _ => h)
      have HIO3 : Aside (Ints w3 (some ⟨O, 0, none⟩) o) := (HIO.out.new HO12.out).new o3
      have HI3 : Aside (Ints w3 A zs) := HI2.out.new o3
      clear hsumo ha1 ha2 o3 HO2 HIO HI2 HO12 HI
      go_wp2_with fail
      go_loopg [13, 14, 15, 16, 17] i (fun kx s13 s14 s15 s16 s17 wr => ∃ (j : Nat) (least best last first : Int), s13 = .int .i64 least ∧ s14 = .int .i64 best ∧ s15 = .int .i64 last ∧ s16 = .int .i64 first ∧ s17 = .int .i64 j ∧ j ≤ i ∧ i - j ≤ kx ∧ Aside (Up T S zs o i last least) ∧ Aside (Dn T S zs o i first best) ∧ Aside (Only [] w3 wr))
      case atStart => exact ⟨0, -1, -1, -1, -1, rfl, rfl, rfl, rfl, rfl, by omega, by omega, .inl ⟨rfl, rfl⟩, .inl ⟨rfl, rfl⟩, Only.refl _ _⟩
      case round =>
        obtain ⟨j, least, best, last, first, rfl, rfl, rfl, rfl, rfl, hji, hk2, HU, HD, HW⟩ := hrel
        by_cases hlj : j < i
        · have p1 : decide ((j : Int) < (i : Int)) = true := decide_eq_true (by omega)
          have p2 : (j : Int) < (i : Int) := by omega
          have ej : ((j : Int)).toNat = j := by omega
          obtain ⟨b, off, hA, hb, hc⟩ := (HI3.out.new HW.out) (by have := HN.out; omega)
          subst hA
          obtain ⟨wi, hwi⟩ : ∃ wi : Nat, wi = (nats zs).getD j 0 := ⟨_, rfl⟩
          have hcz := hc j (by have := HN.out; omega)
          rw [← nats_at zs HTK.out.1.2.2.1 j, ← hwi] at hcz
          have hwS : wi ≤ S := by rw [hwi, HSW.out]; exact le_sum _ j
          have hmd := MulDiv_calls T wi S wr hT hwS hS0 hSb
          obtain ⟨q, hq⟩ : ∃ q, T * wi / S = q := ⟨_, rfl⟩
          obtain ⟨r, hr⟩ : ∃ r, T * wi % S = r := ⟨_, rfl⟩
          rw [hq, hr] at hmd
          have hq2 : qN T S (nats zs) j = q := by unfold qN; rw [← hwi]; exact hq
          have hr2 : rN T S (nats zs) j = r := by unfold rN; rw [← hwi]; exact hr
          have hqT : q ≤ T := by rw [← hq2]; exact qN_le T S (nats zs) j (by rw [← hwi]; exact hwS) hS0
          have hrS : r < S := by rw [← hr]; exact Nat.mod_lt _ hS0
          obtain ⟨v, hv⟩ : ∃ v, v = o.getD j 0 := ⟨_, rfl⟩
          have hev := HTD.out.each j (by rw [nats_len, ← HN.out]; exact hlj)
          rw [hq2, hr2, ← hv] at hev
          have HQR : Aside (qN T S (nats zs) j = q ∧ rN T S (nats zs) j = r ∧ v = o.getD j 0) := ⟨hq2, hr2, hv⟩
          have HVC : Aside (∀ w9, Only [] w3 w9 → w9.cell? ⟨O, j, none⟩ = some (.int .i64 v)) := fun w9 h9 => by
            obtain ⟨b8, off8, e8, hb8, hc8⟩ := (HIO3.out.new h9) (by rw [HNn.out]; omega)
            cases e8
            have := hc8 j (by rw [HNn.out]; exact hlj)
            rw [Nat.zero_add, ← hv] at this
            exact this
          clear hc hwi hq hr hq2 hr2 hv
          go_wp2_with fail
          go_at_call 7
          refine hmd.mono ?_
          rintro e w4 ⟨rfl, o4⟩
          have HW4 : Aside (Only [] w3 w4) := HW.out.trans o4 (fun _ h _ => h)
          have kv := HVC.out w4 HW4.out
          obtain ⟨ew, ew2⟩ := wrap_succ hqT hT
          clear hmd o4 HW HVC hcz
          rcases hev with hev | ⟨hev, hr0⟩
          · -- the quotient
            subst hev
            have m2 : ((q : Int) != (q : Int)) = false := by simp
            have m3 : decide ((q : Int) < (q : Int)) = false := decide_eq_false (by omega)
            have m4 : ((q : Int) == (q : Int)) = true := by simp
            by_cases hb2 : best < (r : Int)
            · have m5 : decide (best < (r : Int)) = true := decide_eq_true hb2
              have HD2 : Aside (Dn T S zs o i (j : Int) (r : Int)) := .inr ⟨j, hlj, rfl, by rw [HQR.out.2.1], by rw [HQR.out.1]; exact HQR.out.2.2.symm⟩
              clear HD HQR
              go_wp2_with fail
              go_roundg (i - (j + 1))
              case measure => omega
              case rel => exact ⟨j + 1, least, (r : Int), last, (j : Int), rfl, rfl, rfl, rfl, by go_num, hlj, Nat.le_refl _, HU, HD2, HW4⟩
            · have m5 : decide (best < (r : Int)) = false := decide_eq_false hb2
              clear HQR
              go_wp2_with fail
              go_roundg (i - (j + 1))
              case measure => omega
              case rel => exact ⟨j + 1, least, best, last, first, rfl, rfl, rfl, rfl, by go_num, hlj, Nat.le_refl _, HU, HD, HW4⟩
          · -- one more
            subst hev
            have m2 : (((q : Int) + 1) != (q : Int)) = true := by rw [bne_iff_ne]; omega
            have m3 : decide ((q : Int) < (q : Int) + 1) = true := decide_eq_true (by omega)
            have m4 : (((q : Int) + 1) == (q : Int)) = false := by rw [beq_eq_false_iff_ne]; omega
            have m6 : (((q : Int) + 1) != ((q : Int) + 1)) = false := by simp
            have m7 : ((r : Int) == 0) = false := by rw [beq_eq_false_iff_ne]; omega
            have m8 : (r == 0) = false := by rw [beq_eq_false_iff_ne]; omega
            by_cases hl1 : least < 0
            · have m9 : decide (least < 0) = true := decide_eq_true hl1
              have HU2 : Aside (Up T S zs o i (j : Int) (r : Int)) := .inr ⟨j, hlj, rfl, by rw [HQR.out.2.1], by rw [HQR.out.1]; exact HQR.out.2.2.symm⟩
              clear HU HQR
              go_wp2_with fail
              go_roundg (i - (j + 1))
              case measure => omega
              case rel => exact ⟨j + 1, (r : Int), best, (j : Int), first, rfl, rfl, rfl, rfl, by go_num, hlj, Nat.le_refl _, HU2, HD, HW4⟩
            · have m9 : decide (least < 0) = false := decide_eq_false hl1
              by_cases hl2 : (r : Int) ≤ least
              · have m10 : decide ((r : Int) ≤ least) = true := decide_eq_true hl2
                have HU2 : Aside (Up T S zs o i (j : Int) (r : Int)) := .inr ⟨j, hlj, rfl, by rw [HQR.out.2.1], by rw [HQR.out.1]; exact HQR.out.2.2.symm⟩
                clear HU HQR
                go_wp2_with fail
                go_roundg (i - (j + 1))
                case measure => omega
                case rel => exact ⟨j + 1, (r : Int), best, (j : Int), first, rfl, rfl, rfl, rfl, by go_num, hlj, Nat.le_refl _, HU2, HD, HW4⟩
              · have m10 : decide ((r : Int) ≤ least) = false := decide_eq_false hl2
                clear HQR
                go_wp2_with fail
                go_roundg (i - (j + 1))
                case measure => omega
                case rel => exact ⟨j + 1, least, best, last, first, rfl, rfl, rfl, rfl, by go_num, hlj, Nat.le_refl _, HU, HD, HW4⟩
        · have p1 : decide ((j : Int) < (i : Int)) = false := decide_eq_false (by omega)
          have HWF : Aside (Only [] w wr) := HO3.out.trans HW.out (fun _ h _ => h)
          have mT : ((T : Int) == (T : Int)) = true := by simp
          have HEND : Aside (last < 0 ∨ (¬ last < 0 ∧ first < 0) ∨ (¬ last < 0 ∧ ¬ first < 0 ∧ best < least) ∨ (¬ last < 0 ∧ ¬ first < 0 ∧ ¬ best < least ∧ least = best ∧ last < first)) := up_down HTD.out (by rw [nats_len]; exact HN.out) HU.out HD.out
          clear HU HD HW HO3 HI3 HIO3
          rcases HEND.out with z1 | ⟨z1, z2⟩ | ⟨z1, z2, z3⟩ | ⟨z1, z2, z3, z4, z5⟩
          · have x1 : decide (last < 0) = true := decide_eq_true z1
            clear HEND
            go_wp2_with fail
            go_at_call 6
            refine (halves_calls _).mono ?_
            rintro e w9 ⟨rfl, o9⟩
            have HO9 : Aside (Only [] w w9) := HWF.out.trans o9 (fun _ h _ => h)
            clear o9
            go_wp2_with fail
            go_ret
            exact ⟨rfl, HO9.out⟩
          · have x1 : decide (last < 0) = false := decide_eq_false z1
            have x2 : decide (first < 0) = true := decide_eq_true z2
            clear HEND
            go_wp2_with fail
            go_at_call 6
            refine (halves_calls _).mono ?_
            rintro e w9 ⟨rfl, o9⟩
            have HO9 : Aside (Only [] w w9) := HWF.out.trans o9 (fun _ h _ => h)
            clear o9
            go_wp2_with fail
            go_ret
            exact ⟨rfl, HO9.out⟩
          · have x1 : decide (last < 0) = false := decide_eq_false z1
            have x2 : decide (first < 0) = false := decide_eq_false z2
            have x3 : decide (best < least) = true := decide_eq_true z3
            clear HEND
            go_wp2_with fail
            go_at_call 6
            refine (halves_calls _).mono ?_
            rintro e w9 ⟨rfl, o9⟩
            have HO9 : Aside (Only [] w w9) := HWF.out.trans o9 (fun _ h _ => h)
            clear o9
            go_wp2_with fail
            go_ret
            exact ⟨rfl, HO9.out⟩
          · have x1 : decide (last < 0) = false := decide_eq_false z1
            have x2 : decide (first < 0) = false := decide_eq_false z2
            have x3 : decide (best < least) = false := decide_eq_false z3
            have x4 : (least == best) = true := by rw [beq_iff_eq]; exact z4
            have x5 : decide (last < first) = true := decide_eq_true z5
            clear HEND
            go_wp2_with fail
            go_at_call 6
            refine (halves_calls _).mono ?_
            rintro e w9 ⟨rfl, o9⟩
            have HO9 : Aside (Only [] w w9) := HWF.out.trans o9 (fun _ h _ => h)
            clear o9
            go_wp2_with fail
            go_ret
            exact ⟨rfl, HO9.out⟩
end Go.Proofs.Ytmjohabfikpahaa
