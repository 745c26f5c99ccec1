-- MADE BY xrun.sh, a turned copy of the kit's print: not typed by hand
import Derived.Test.YtknmbhllinbcjaaQ0
import Derived.Test.YtknmbhllinbcjaaQ2
import Derived.Test.YtknmbhllinbcjaaQ3
import Derived.Test.YtknmbhllinbcjaaG3
import Derived.Test.YtknmbhllinbcjaaG5
import Derived.Test.YtknmbhllinbcjaaL2
namespace Go.Proofs.Ytknmbhllinbcjaa.Q
open Go.RowKit Go.Proofs.YtknmbhllinbcjaaW.PrintWords Go.Proofs.YtknmbhllinbcjaaW.PrintLast Go.Proofs.YtknmbhllinbcjaaW.PrintMore
attribute [local go_sem] max2_int min2_int max_two min_two max_three min_three max_four min_four   -- for this text's walks alone
set_option linter.unusedVariables false
set_option linter.unusedSimpArgs false

/-! ### quittancelaw04_SheafTorn: function 6 -/
mutual
def quittancelaw04_SheafTorn.l0 : Nat → List (S44) → List ByteArray → Int → Option (Bool)
  | 0, _, _, _ => none
  | k + 1, x0, x3, x4 => if x4 < (x3.length : Int) then (if 64 ≤ 281474976710656 then (if 0 ≤ x4 then (quittancelaw04_SheafTorn.l0 k x0 (x3.set (x4 : Int).toNat (strOfNums (List.replicate 64 0))) (wrap64 (x4 + 1))) else (none)) else (none)) else (quittancelaw04_SheafTorn.l1 k x0 x3 ([] : List (S46)) 0)
def quittancelaw04_SheafTorn.l1 : Nat → List (S44) → List ByteArray → List (S46) → Int → Option (Bool)
  | 0, _, _, _, _ => none
  | k + 1, x0, x3, x5, x6 => if x6 < (x0.length : Int) then (quittancelaw04_SheafTorn.j2 k x0 x3 x5 x6 (decide (x6 < 40))) else (quittancelaw04_SheafTorn.j2 k x0 x3 x5 x6 false)
def quittancelaw04_SheafTorn.j2 : Nat → List (S44) → List ByteArray → List (S46) → Int → Bool → Option (Bool)
  | 0, _, _, _, _, _ => none
  | k + 1, x0, x3, x5, x6, x46 => if x46 = true then (if 0 ≤ x6 then (if x6 < (x0.length : Int) then ((sheaf_Top.f k x3).bind fun t280 => (if t280 ≥ 9223372036854775808 then (quittancelaw04_SheafTorn.j3 k x0 x3 x5 x6 t280 true ((rd_T44 x0 x6).f0) ((rd_T44 x0 x6).f1) ((rd_T44 x0 x6).f2) ((rd_T44 x0 x6).f3)) else (quittancelaw04_SheafTorn.j3 k x0 x3 x5 x6 t280 (decide ((((rd_T44 x0 x6).f2).size : Int) > 400)) ((rd_T44 x0 x6).f0) ((rd_T44 x0 x6).f1) ((rd_T44 x0 x6).f2) ((rd_T44 x0 x6).f3)))) else (none)) else (none)) else ((quittancelaw04_head.f k).bind fun t277 => (some t277))
def quittancelaw04_SheafTorn.j3 : Nat → List (S44) → List ByteArray → List (S46) → Int → Int → Bool → Int → Int → ByteArray → List Int → Option (Bool)
  | 0, _, _, _, _, _, _, _, _, _, _ => none
  | k + 1, x0, x3, x5, x6, x8, x62, x280000, x280001, x280002, x280003 => if x62 = true then ((quittancelaw04_head.f k).bind fun t281 => (some t281)) else ((sheaf_Put.f (IntKind.u64.wrap ((IntKind.u64.wrap (x8 + 1)) + (IntKind.u64.wrap (x280001)))) x280002).bind fun bt282 => (if (x3.length : Int) = 0 then (none) else (if bt282.2 = 0 then (quittancelaw04_SheafTorn.j4 k x0 x3 x5 x6 (IntKind.u64.wrap ((IntKind.u64.wrap (x8 + 1)) + (IntKind.u64.wrap (x280001)))) bt282.1 bt282.2 (Int.tmod (wrap64 (x280000)) (x3.length : Int)) (decide ((wrap64 ((Int.tmod (wrap64 (x280000)) (x3.length : Int)) + (bt282.1.length : Int))) > (x3.length : Int))) x280000 x280001 x280002 x280003) else (quittancelaw04_SheafTorn.j4 k x0 x3 x5 x6 (IntKind.u64.wrap ((IntKind.u64.wrap (x8 + 1)) + (IntKind.u64.wrap (x280001)))) bt282.1 bt282.2 (Int.tmod (wrap64 (x280000)) (x3.length : Int)) true x280000 x280001 x280002 x280003))))
def quittancelaw04_SheafTorn.j4 : Nat → List (S44) → List ByteArray → List (S46) → Int → Int → List ByteArray → Int → Int → Bool → Int → Int → ByteArray → List Int → Option (Bool)
  | 0, _, _, _, _, _, _, _, _, _, _, _, _, _ => none
  | k + 1, x0, x3, x5, x6, x9, x10, x11, x12, x93, x280000, x280001, x280002, x280003 => if x93 = true then (if x11 = 0 then (quittancelaw04_SheafTorn.l1 k x0 x3 x5 (wrap64 (x6 + 1))) else (some false)) else (quittancelaw04_SheafTorn.l2 k x0 x3 x5 x6 x9 x10 x12 true 0 x280000 x280001 x280002 x280003)
def quittancelaw04_SheafTorn.l2 : Nat → List (S44) → List ByteArray → List (S46) → Int → Int → List ByteArray → Int → Bool → Int → Int → Int → ByteArray → List Int → Option (Bool)
  | 0, _, _, _, _, _, _, _, _, _, _, _, _, _ => none
  | k + 1, x0, x3, x5, x6, x9, x10, x12, x13, x14, x280000, x280001, x280002, x280003 => if x14 < (x10.length : Int) then (if (x280003.length : Int) > 0 then (if 0 ≤ (mn x14 (wrap64 ((x280003.length : Int) - 1))) then (if (mn x14 (wrap64 ((x280003.length : Int) - 1))) < (x280003.length : Int) then (if 0 ≤ x14 then (if ((rdOf ByteArray.empty x10 x14).size : Int) = 64 then (if 0 ≤ (mn (mx (rd x280003 (mn x14 (wrap64 ((x280003.length : Int) - 1)))) 0) 64) then (if (mn (mx (rd x280003 (mn x14 (wrap64 ((x280003.length : Int) - 1)))) 0) 64) ≤ ((rdOf ByteArray.empty x10 x14).size : Int) then (if 0 ≤ (wrap64 (x12 + x14)) then (if (wrap64 (x12 + x14)) < (x3.length : Int) then (if (mn (mx (rd x280003 (mn x14 (wrap64 ((x280003.length : Int) - 1)))) 0) 64) ≤ ((rdOf ByteArray.empty x3 (wrap64 (x12 + x14))).size : Int) then (if ((rdOf ByteArray.empty x10 x14).extract 0 ((mn (mx (rd x280003 (mn x14 (wrap64 ((x280003.length : Int) - 1)))) 0) 64) : Int).toNat).size + ((rdOf ByteArray.empty x3 (wrap64 (x12 + x14))).extract ((mn (mx (rd x280003 (mn x14 (wrap64 ((x280003.length : Int) - 1)))) 0) 64) : Int).toNat (rdOf ByteArray.empty x3 (wrap64 (x12 + x14))).size).size ≤ 9223372036854775807 then ((some (x3.set ((wrap64 (x12 + x14)) : Int).toNat (((rdOf ByteArray.empty x10 x14).extract 0 ((mn (mx (rd x280003 (mn x14 (wrap64 ((x280003.length : Int) - 1)))) 0) 64) : Int).toNat) ++ ((rdOf ByteArray.empty x3 (wrap64 (x12 + x14))).extract ((mn (mx (rd x280003 (mn x14 (wrap64 ((x280003.length : Int) - 1)))) 0) 64) : Int).toNat (rdOf ByteArray.empty x3 (wrap64 (x12 + x14))).size)) : List ByteArray)).bind fun y290 => (if x13 = true then (quittancelaw04_SheafTorn.l2 k x0 y290 x5 x6 x9 x10 x12 ((mn (mx (rd x280003 (mn x14 (wrap64 ((x280003.length : Int) - 1)))) 0) 64) == 64) (wrap64 (x14 + 1)) x280000 x280001 x280002 x280003) else (quittancelaw04_SheafTorn.l2 k x0 y290 x5 x6 x9 x10 x12 false (wrap64 (x14 + 1)) x280000 x280001 x280002 x280003))) else (none)) else (none)) else (none)) else (none)) else (none)) else (none)) else (some false)) else (none)) else (none)) else (none)) else (if 0 ≤ x14 then (if ((rdOf ByteArray.empty x10 x14).size : Int) = 64 then (if 0 ≤ 64 then (if 64 ≤ ((rdOf ByteArray.empty x10 x14).size : Int) then (if 0 ≤ (wrap64 (x12 + x14)) then (if (wrap64 (x12 + x14)) < (x3.length : Int) then (if 64 ≤ ((rdOf ByteArray.empty x3 (wrap64 (x12 + x14))).size : Int) then (if ((rdOf ByteArray.empty x10 x14).extract 0 64).size + ((rdOf ByteArray.empty x3 (wrap64 (x12 + x14))).extract 64 (rdOf ByteArray.empty x3 (wrap64 (x12 + x14))).size).size ≤ 9223372036854775807 then ((some (x3.set ((wrap64 (x12 + x14)) : Int).toNat (((rdOf ByteArray.empty x10 x14).extract 0 64) ++ ((rdOf ByteArray.empty x3 (wrap64 (x12 + x14))).extract 64 (rdOf ByteArray.empty x3 (wrap64 (x12 + x14))).size)) : List ByteArray)).bind fun y294 => (if x13 = true then (quittancelaw04_SheafTorn.l2 k x0 y294 x5 x6 x9 x10 x12 (64 == 64) (wrap64 (x14 + 1)) x280000 x280001 x280002 x280003) else (quittancelaw04_SheafTorn.l2 k x0 y294 x5 x6 x9 x10 x12 false (wrap64 (x14 + 1)) x280000 x280001 x280002 x280003))) else (none)) else (none)) else (none)) else (none)) else (none)) else (none)) else (some false)) else (none))) else (if x5.length < 3518437208883 then ((some (x5 ++ [(⟨x12, (x10.length : Int), x9, x280002⟩ : S46)] : List (S46))).bind fun y295 => (if 0 ≤ x12 then (if x12 ≤ (x3.length : Int) then ((sheaf_Get.f (x3.drop (x12 : Int).toNat)).bind fun bt302 => (if x13 = true then (if bt302.2.2.2 = true then (if bt302.1 = x9 then (if bt302.2.1.toList = x280002.toList then (quittancelaw04_SheafTorn.j6 k x0 x3 y295 x6 (bt302.2.2.1 != (x10.length : Int))) else (quittancelaw04_SheafTorn.j6 k x0 x3 y295 x6 true)) else (quittancelaw04_SheafTorn.j6 k x0 x3 y295 x6 true)) else (quittancelaw04_SheafTorn.j6 k x0 x3 y295 x6 true)) else (quittancelaw04_SheafTorn.j6 k x0 x3 y295 x6 false))) else (none)) else (none))) else (none))
def quittancelaw04_SheafTorn.j6 : Nat → List (S44) → List ByteArray → List (S46) → Int → Bool → Option (Bool)
  | 0, _, _, _, _, _ => none
  | k + 1, x0, x3, x5, x6, x189 => if x189 = true then (some false) else (quittancelaw04_SheafTorn.l3 k x0 x3 x5 x6 0)
def quittancelaw04_SheafTorn.l3 : Nat → List (S44) → List ByteArray → List (S46) → Int → Int → Option (Bool)
  | 0, _, _, _, _, _ => none
  | k + 1, x0, x3, x5, x6, x20 => if x20 < (x3.length : Int) then (if 0 ≤ x20 then (if x20 ≤ (x3.length : Int) then ((sheaf_Get.f (x3.drop (x20 : Int).toNat)).bind fun bt310 => (if bt310.2.2.2 = true then ((quittancelaw04_one.f k x5 x20 bt310.1 bt310.2.1 bt310.2.2.1).bind fun t314 => (quittancelaw04_SheafTorn.j8 k x0 x3 x5 x6 x20 (!t314))) else (quittancelaw04_SheafTorn.j8 k x0 x3 x5 x6 x20 false))) else (none)) else (none)) else (quittancelaw04_SheafTorn.l1 k x0 x3 x5 (wrap64 (x6 + 1)))
def quittancelaw04_SheafTorn.j8 : Nat → List (S44) → List ByteArray → List (S46) → Int → Int → Bool → Option (Bool)
  | 0, _, _, _, _, _, _ => none
  | k + 1, x0, x3, x5, x6, x20, x214 => if x214 = true then (some false) else (if 0 ≤ x20 then (if x20 < (x3.length : Int) then ((leaf_Ends.f (rdOf ByteArray.empty x3 x20)).bind fun bt316 => (if bt316.1 < bt316.2 then (some false) else (quittancelaw04_SheafTorn.l3 k x0 x3 x5 x6 (wrap64 (x20 + 1))))) else (none)) else (none))
end
def quittancelaw04_SheafTorn.f (k : Nat) (l0 : List (S44)) : Option (Bool) := if 12 ≤ 17592186044416 then (quittancelaw04_SheafTorn.l0 k l0 (List.replicate 12 (⟨#[]⟩ : ByteArray)) 0) else (none)
theorem quittancelaw04_SheafTorn.mono_l : ∀ k, (∀ y0 y1 y2, LeO (quittancelaw04_SheafTorn.l0 k y0 y1 y2) (quittancelaw04_SheafTorn.l0 (k + 1) y0 y1 y2)) ∧ (∀ y0 y1 y2 y3, LeO (quittancelaw04_SheafTorn.l1 k y0 y1 y2 y3) (quittancelaw04_SheafTorn.l1 (k + 1) y0 y1 y2 y3)) ∧ (∀ y0 y1 y2 y3 y4, LeO (quittancelaw04_SheafTorn.j2 k y0 y1 y2 y3 y4) (quittancelaw04_SheafTorn.j2 (k + 1) y0 y1 y2 y3 y4)) ∧ (∀ y0 y1 y2 y3 y4 y5 y6 y7 y8 y9, LeO (quittancelaw04_SheafTorn.j3 k y0 y1 y2 y3 y4 y5 y6 y7 y8 y9) (quittancelaw04_SheafTorn.j3 (k + 1) y0 y1 y2 y3 y4 y5 y6 y7 y8 y9)) ∧ (∀ y0 y1 y2 y3 y4 y5 y6 y7 y8 y9 y10 y11 y12, LeO (quittancelaw04_SheafTorn.j4 k y0 y1 y2 y3 y4 y5 y6 y7 y8 y9 y10 y11 y12) (quittancelaw04_SheafTorn.j4 (k + 1) y0 y1 y2 y3 y4 y5 y6 y7 y8 y9 y10 y11 y12)) ∧ (∀ y0 y1 y2 y3 y4 y5 y6 y7 y8 y9 y10 y11 y12, LeO (quittancelaw04_SheafTorn.l2 k y0 y1 y2 y3 y4 y5 y6 y7 y8 y9 y10 y11 y12) (quittancelaw04_SheafTorn.l2 (k + 1) y0 y1 y2 y3 y4 y5 y6 y7 y8 y9 y10 y11 y12)) ∧ (∀ y0 y1 y2 y3 y4, LeO (quittancelaw04_SheafTorn.j6 k y0 y1 y2 y3 y4) (quittancelaw04_SheafTorn.j6 (k + 1) y0 y1 y2 y3 y4)) ∧ (∀ y0 y1 y2 y3 y4, LeO (quittancelaw04_SheafTorn.l3 k y0 y1 y2 y3 y4) (quittancelaw04_SheafTorn.l3 (k + 1) y0 y1 y2 y3 y4)) ∧ (∀ y0 y1 y2 y3 y4 y5, LeO (quittancelaw04_SheafTorn.j8 k y0 y1 y2 y3 y4 y5) (quittancelaw04_SheafTorn.j8 (k + 1) y0 y1 y2 y3 y4 y5))
  | 0 => ⟨fun _ _ _ r h => by simp [quittancelaw04_SheafTorn.l0] at h, fun _ _ _ _ r h => by simp [quittancelaw04_SheafTorn.l1] at h, fun _ _ _ _ _ r h => by simp [quittancelaw04_SheafTorn.j2] at h, fun _ _ _ _ _ _ _ _ _ _ r h => by simp [quittancelaw04_SheafTorn.j3] at h, fun _ _ _ _ _ _ _ _ _ _ _ _ _ r h => by simp [quittancelaw04_SheafTorn.j4] at h, fun _ _ _ _ _ _ _ _ _ _ _ _ _ r h => by simp [quittancelaw04_SheafTorn.l2] at h, fun _ _ _ _ _ r h => by simp [quittancelaw04_SheafTorn.j6] at h, fun _ _ _ _ _ r h => by simp [quittancelaw04_SheafTorn.l3] at h, fun _ _ _ _ _ _ r h => by simp [quittancelaw04_SheafTorn.j8] at h⟩
  | k + 1 => by
    obtain ⟨ih0, ih1, ih2, ih3, ih4, ih5, ih6, ih7, ih8⟩ := quittancelaw04_SheafTorn.mono_l k
    refine ⟨?_, ?_, ?_, ?_, ?_, ?_, ?_, ?_, ?_⟩
    · intro y0 y1 y2
      unfold quittancelaw04_SheafTorn.l0
      repeat' first
      | (with_reducible exact ih0 _ _ _)
      | (with_reducible exact ih1 _ _ _ _)
      | (with_reducible exact ih2 _ _ _ _ _)
      | (with_reducible exact ih3 _ _ _ _ _ _ _ _ _ _)
      | (with_reducible exact ih4 _ _ _ _ _ _ _ _ _ _ _ _ _)
      | (with_reducible exact ih5 _ _ _ _ _ _ _ _ _ _ _ _ _)
      | (with_reducible exact ih6 _ _ _ _ _)
      | (with_reducible exact ih7 _ _ _ _ _)
      | (with_reducible exact ih8 _ _ _ _ _ _)
      | (with_reducible exact quittancelaw04_head.mono _)
      | (with_reducible exact quittancelaw04_one.mono _ _ _ _ _ _)
      | (with_reducible exact sheaf_Top.mono _ _)
      | (with_reducible exact LeO.refl _)
      | (with_reducible exact LeO.none _)
      | (with_reducible refine LeO.ite ?_ ?_)
      | (with_reducible refine LeO.bind ?_ (fun _ => ?_))
      | exact ih0 _ _ _
      | exact ih1 _ _ _ _
      | exact ih2 _ _ _ _ _
      | exact ih3 _ _ _ _ _ _ _ _ _ _
      | exact ih4 _ _ _ _ _ _ _ _ _ _ _ _ _
      | exact ih5 _ _ _ _ _ _ _ _ _ _ _ _ _
      | exact ih6 _ _ _ _ _
      | exact ih7 _ _ _ _ _
      | exact ih8 _ _ _ _ _ _
      | exact quittancelaw04_head.mono _
      | exact quittancelaw04_one.mono _ _ _ _ _ _
      | exact sheaf_Top.mono _ _
      | exact LeO.none _
      | refine LeO.ite ?_ ?_
      | refine LeO.bind ?_ (fun _ => ?_)
    · intro y0 y1 y2 y3
      unfold quittancelaw04_SheafTorn.l1
      repeat' first
      | (with_reducible exact ih0 _ _ _)
      | (with_reducible exact ih1 _ _ _ _)
      | (with_reducible exact ih2 _ _ _ _ _)
      | (with_reducible exact ih3 _ _ _ _ _ _ _ _ _ _)
      | (with_reducible exact ih4 _ _ _ _ _ _ _ _ _ _ _ _ _)
      | (with_reducible exact ih5 _ _ _ _ _ _ _ _ _ _ _ _ _)
      | (with_reducible exact ih6 _ _ _ _ _)
      | (with_reducible exact ih7 _ _ _ _ _)
      | (with_reducible exact ih8 _ _ _ _ _ _)
      | (with_reducible exact quittancelaw04_head.mono _)
      | (with_reducible exact quittancelaw04_one.mono _ _ _ _ _ _)
      | (with_reducible exact sheaf_Top.mono _ _)
      | (with_reducible exact LeO.refl _)
      | (with_reducible exact LeO.none _)
      | (with_reducible refine LeO.ite ?_ ?_)
      | (with_reducible refine LeO.bind ?_ (fun _ => ?_))
      | exact ih0 _ _ _
      | exact ih1 _ _ _ _
      | exact ih2 _ _ _ _ _
      | exact ih3 _ _ _ _ _ _ _ _ _ _
      | exact ih4 _ _ _ _ _ _ _ _ _ _ _ _ _
      | exact ih5 _ _ _ _ _ _ _ _ _ _ _ _ _
      | exact ih6 _ _ _ _ _
      | exact ih7 _ _ _ _ _
      | exact ih8 _ _ _ _ _ _
      | exact quittancelaw04_head.mono _
      | exact quittancelaw04_one.mono _ _ _ _ _ _
      | exact sheaf_Top.mono _ _
      | exact LeO.none _
      | refine LeO.ite ?_ ?_
      | refine LeO.bind ?_ (fun _ => ?_)
    · intro y0 y1 y2 y3 y4
      unfold quittancelaw04_SheafTorn.j2
      repeat' first
      | (with_reducible exact ih0 _ _ _)
      | (with_reducible exact ih1 _ _ _ _)
      | (with_reducible exact ih2 _ _ _ _ _)
      | (with_reducible exact ih3 _ _ _ _ _ _ _ _ _ _)
      | (with_reducible exact ih4 _ _ _ _ _ _ _ _ _ _ _ _ _)
      | (with_reducible exact ih5 _ _ _ _ _ _ _ _ _ _ _ _ _)
      | (with_reducible exact ih6 _ _ _ _ _)
      | (with_reducible exact ih7 _ _ _ _ _)
      | (with_reducible exact ih8 _ _ _ _ _ _)
      | (with_reducible exact quittancelaw04_head.mono _)
      | (with_reducible exact quittancelaw04_one.mono _ _ _ _ _ _)
      | (with_reducible exact sheaf_Top.mono _ _)
      | (with_reducible exact LeO.refl _)
      | (with_reducible exact LeO.none _)
      | (with_reducible refine LeO.ite ?_ ?_)
      | (with_reducible refine LeO.bind ?_ (fun _ => ?_))
      | exact ih0 _ _ _
      | exact ih1 _ _ _ _
      | exact ih2 _ _ _ _ _
      | exact ih3 _ _ _ _ _ _ _ _ _ _
      | exact ih4 _ _ _ _ _ _ _ _ _ _ _ _ _
      | exact ih5 _ _ _ _ _ _ _ _ _ _ _ _ _
      | exact ih6 _ _ _ _ _
      | exact ih7 _ _ _ _ _
      | exact ih8 _ _ _ _ _ _
      | exact quittancelaw04_head.mono _
      | exact quittancelaw04_one.mono _ _ _ _ _ _
      | exact sheaf_Top.mono _ _
      | exact LeO.none _
      | refine LeO.ite ?_ ?_
      | refine LeO.bind ?_ (fun _ => ?_)
    · intro y0 y1 y2 y3 y4 y5 y6 y7 y8 y9
      unfold quittancelaw04_SheafTorn.j3
      repeat' first
      | (with_reducible exact ih0 _ _ _)
      | (with_reducible exact ih1 _ _ _ _)
      | (with_reducible exact ih2 _ _ _ _ _)
      | (with_reducible exact ih3 _ _ _ _ _ _ _ _ _ _)
      | (with_reducible exact ih4 _ _ _ _ _ _ _ _ _ _ _ _ _)
      | (with_reducible exact ih5 _ _ _ _ _ _ _ _ _ _ _ _ _)
      | (with_reducible exact ih6 _ _ _ _ _)
      | (with_reducible exact ih7 _ _ _ _ _)
      | (with_reducible exact ih8 _ _ _ _ _ _)
      | (with_reducible exact quittancelaw04_head.mono _)
      | (with_reducible exact quittancelaw04_one.mono _ _ _ _ _ _)
      | (with_reducible exact sheaf_Top.mono _ _)
      | (with_reducible exact LeO.refl _)
      | (with_reducible exact LeO.none _)
      | (with_reducible refine LeO.ite ?_ ?_)
      | (with_reducible refine LeO.bind ?_ (fun _ => ?_))
      | exact ih0 _ _ _
      | exact ih1 _ _ _ _
      | exact ih2 _ _ _ _ _
      | exact ih3 _ _ _ _ _ _ _ _ _ _
      | exact ih4 _ _ _ _ _ _ _ _ _ _ _ _ _
      | exact ih5 _ _ _ _ _ _ _ _ _ _ _ _ _
      | exact ih6 _ _ _ _ _
      | exact ih7 _ _ _ _ _
      | exact ih8 _ _ _ _ _ _
      | exact quittancelaw04_head.mono _
      | exact quittancelaw04_one.mono _ _ _ _ _ _
      | exact sheaf_Top.mono _ _
      | exact LeO.none _
      | refine LeO.ite ?_ ?_
      | refine LeO.bind ?_ (fun _ => ?_)
    · intro y0 y1 y2 y3 y4 y5 y6 y7 y8 y9 y10 y11 y12
      unfold quittancelaw04_SheafTorn.j4
      repeat' first
      | (with_reducible exact ih0 _ _ _)
      | (with_reducible exact ih1 _ _ _ _)
      | (with_reducible exact ih2 _ _ _ _ _)
      | (with_reducible exact ih3 _ _ _ _ _ _ _ _ _ _)
      | (with_reducible exact ih4 _ _ _ _ _ _ _ _ _ _ _ _ _)
      | (with_reducible exact ih5 _ _ _ _ _ _ _ _ _ _ _ _ _)
      | (with_reducible exact ih6 _ _ _ _ _)
      | (with_reducible exact ih7 _ _ _ _ _)
      | (with_reducible exact ih8 _ _ _ _ _ _)
      | (with_reducible exact quittancelaw04_head.mono _)
      | (with_reducible exact quittancelaw04_one.mono _ _ _ _ _ _)
      | (with_reducible exact sheaf_Top.mono _ _)
      | (with_reducible exact LeO.refl _)
      | (with_reducible exact LeO.none _)
      | (with_reducible refine LeO.ite ?_ ?_)
      | (with_reducible refine LeO.bind ?_ (fun _ => ?_))
      | exact ih0 _ _ _
      | exact ih1 _ _ _ _
      | exact ih2 _ _ _ _ _
      | exact ih3 _ _ _ _ _ _ _ _ _ _
      | exact ih4 _ _ _ _ _ _ _ _ _ _ _ _ _
      | exact ih5 _ _ _ _ _ _ _ _ _ _ _ _ _
      | exact ih6 _ _ _ _ _
      | exact ih7 _ _ _ _ _
      | exact ih8 _ _ _ _ _ _
      | exact quittancelaw04_head.mono _
      | exact quittancelaw04_one.mono _ _ _ _ _ _
      | exact sheaf_Top.mono _ _
      | exact LeO.none _
      | refine LeO.ite ?_ ?_
      | refine LeO.bind ?_ (fun _ => ?_)
    · intro y0 y1 y2 y3 y4 y5 y6 y7 y8 y9 y10 y11 y12
      unfold quittancelaw04_SheafTorn.l2
      repeat' first
      | (with_reducible exact ih0 _ _ _)
      | (with_reducible exact ih1 _ _ _ _)
      | (with_reducible exact ih2 _ _ _ _ _)
      | (with_reducible exact ih3 _ _ _ _ _ _ _ _ _ _)
      | (with_reducible exact ih4 _ _ _ _ _ _ _ _ _ _ _ _ _)
      | (with_reducible exact ih5 _ _ _ _ _ _ _ _ _ _ _ _ _)
      | (with_reducible exact ih6 _ _ _ _ _)
      | (with_reducible exact ih7 _ _ _ _ _)
      | (with_reducible exact ih8 _ _ _ _ _ _)
      | (with_reducible exact quittancelaw04_head.mono _)
      | (with_reducible exact quittancelaw04_one.mono _ _ _ _ _ _)
      | (with_reducible exact sheaf_Top.mono _ _)
      | (with_reducible exact LeO.refl _)
      | (with_reducible exact LeO.none _)
      | (with_reducible refine LeO.ite ?_ ?_)
      | (with_reducible refine LeO.bind ?_ (fun _ => ?_))
      | exact ih0 _ _ _
      | exact ih1 _ _ _ _
      | exact ih2 _ _ _ _ _
      | exact ih3 _ _ _ _ _ _ _ _ _ _
      | exact ih4 _ _ _ _ _ _ _ _ _ _ _ _ _
      | exact ih5 _ _ _ _ _ _ _ _ _ _ _ _ _
      | exact ih6 _ _ _ _ _
      | exact ih7 _ _ _ _ _
      | exact ih8 _ _ _ _ _ _
      | exact quittancelaw04_head.mono _
      | exact quittancelaw04_one.mono _ _ _ _ _ _
      | exact sheaf_Top.mono _ _
      | exact LeO.none _
      | refine LeO.ite ?_ ?_
      | refine LeO.bind ?_ (fun _ => ?_)
    · intro y0 y1 y2 y3 y4
      unfold quittancelaw04_SheafTorn.j6
      repeat' first
      | (with_reducible exact ih0 _ _ _)
      | (with_reducible exact ih1 _ _ _ _)
      | (with_reducible exact ih2 _ _ _ _ _)
      | (with_reducible exact ih3 _ _ _ _ _ _ _ _ _ _)
      | (with_reducible exact ih4 _ _ _ _ _ _ _ _ _ _ _ _ _)
      | (with_reducible exact ih5 _ _ _ _ _ _ _ _ _ _ _ _ _)
      | (with_reducible exact ih6 _ _ _ _ _)
      | (with_reducible exact ih7 _ _ _ _ _)
      | (with_reducible exact ih8 _ _ _ _ _ _)
      | (with_reducible exact quittancelaw04_head.mono _)
      | (with_reducible exact quittancelaw04_one.mono _ _ _ _ _ _)
      | (with_reducible exact sheaf_Top.mono _ _)
      | (with_reducible exact LeO.refl _)
      | (with_reducible exact LeO.none _)
      | (with_reducible refine LeO.ite ?_ ?_)
      | (with_reducible refine LeO.bind ?_ (fun _ => ?_))
      | exact ih0 _ _ _
      | exact ih1 _ _ _ _
      | exact ih2 _ _ _ _ _
      | exact ih3 _ _ _ _ _ _ _ _ _ _
      | exact ih4 _ _ _ _ _ _ _ _ _ _ _ _ _
      | exact ih5 _ _ _ _ _ _ _ _ _ _ _ _ _
      | exact ih6 _ _ _ _ _
      | exact ih7 _ _ _ _ _
      | exact ih8 _ _ _ _ _ _
      | exact quittancelaw04_head.mono _
      | exact quittancelaw04_one.mono _ _ _ _ _ _
      | exact sheaf_Top.mono _ _
      | exact LeO.none _
      | refine LeO.ite ?_ ?_
      | refine LeO.bind ?_ (fun _ => ?_)
    · intro y0 y1 y2 y3 y4
      unfold quittancelaw04_SheafTorn.l3
      repeat' first
      | (with_reducible exact ih0 _ _ _)
      | (with_reducible exact ih1 _ _ _ _)
      | (with_reducible exact ih2 _ _ _ _ _)
      | (with_reducible exact ih3 _ _ _ _ _ _ _ _ _ _)
      | (with_reducible exact ih4 _ _ _ _ _ _ _ _ _ _ _ _ _)
      | (with_reducible exact ih5 _ _ _ _ _ _ _ _ _ _ _ _ _)
      | (with_reducible exact ih6 _ _ _ _ _)
      | (with_reducible exact ih7 _ _ _ _ _)
      | (with_reducible exact ih8 _ _ _ _ _ _)
      | (with_reducible exact quittancelaw04_head.mono _)
      | (with_reducible exact quittancelaw04_one.mono _ _ _ _ _ _)
      | (with_reducible exact sheaf_Top.mono _ _)
      | (with_reducible exact LeO.refl _)
      | (with_reducible exact LeO.none _)
      | (with_reducible refine LeO.ite ?_ ?_)
      | (with_reducible refine LeO.bind ?_ (fun _ => ?_))
      | exact ih0 _ _ _
      | exact ih1 _ _ _ _
      | exact ih2 _ _ _ _ _
      | exact ih3 _ _ _ _ _ _ _ _ _ _
      | exact ih4 _ _ _ _ _ _ _ _ _ _ _ _ _
      | exact ih5 _ _ _ _ _ _ _ _ _ _ _ _ _
      | exact ih6 _ _ _ _ _
      | exact ih7 _ _ _ _ _
      | exact ih8 _ _ _ _ _ _
      | exact quittancelaw04_head.mono _
      | exact quittancelaw04_one.mono _ _ _ _ _ _
      | exact sheaf_Top.mono _ _
      | exact LeO.none _
      | refine LeO.ite ?_ ?_
      | refine LeO.bind ?_ (fun _ => ?_)
    · intro y0 y1 y2 y3 y4 y5
      unfold quittancelaw04_SheafTorn.j8
      repeat' first
      | (with_reducible exact ih0 _ _ _)
      | (with_reducible exact ih1 _ _ _ _)
      | (with_reducible exact ih2 _ _ _ _ _)
      | (with_reducible exact ih3 _ _ _ _ _ _ _ _ _ _)
      | (with_reducible exact ih4 _ _ _ _ _ _ _ _ _ _ _ _ _)
      | (with_reducible exact ih5 _ _ _ _ _ _ _ _ _ _ _ _ _)
      | (with_reducible exact ih6 _ _ _ _ _)
      | (with_reducible exact ih7 _ _ _ _ _)
      | (with_reducible exact ih8 _ _ _ _ _ _)
      | (with_reducible exact quittancelaw04_head.mono _)
      | (with_reducible exact quittancelaw04_one.mono _ _ _ _ _ _)
      | (with_reducible exact sheaf_Top.mono _ _)
      | (with_reducible exact LeO.refl _)
      | (with_reducible exact LeO.none _)
      | (with_reducible refine LeO.ite ?_ ?_)
      | (with_reducible refine LeO.bind ?_ (fun _ => ?_))
      | exact ih0 _ _ _
      | exact ih1 _ _ _ _
      | exact ih2 _ _ _ _ _
      | exact ih3 _ _ _ _ _ _ _ _ _ _
      | exact ih4 _ _ _ _ _ _ _ _ _ _ _ _ _
      | exact ih5 _ _ _ _ _ _ _ _ _ _ _ _ _
      | exact ih6 _ _ _ _ _
      | exact ih7 _ _ _ _ _
      | exact ih8 _ _ _ _ _ _
      | exact quittancelaw04_head.mono _
      | exact quittancelaw04_one.mono _ _ _ _ _ _
      | exact sheaf_Top.mono _ _
      | exact LeO.none _
      | refine LeO.ite ?_ ?_
      | refine LeO.bind ?_ (fun _ => ?_)
theorem quittancelaw04_SheafTorn.mono : ∀ a0 k, LeO (quittancelaw04_SheafTorn.f k a0) (quittancelaw04_SheafTorn.f (k + 1) a0) := by
  intro a0 k
  obtain ⟨ih0, ih1, ih2, ih3, ih4, ih5, ih6, ih7, ih8⟩ := quittancelaw04_SheafTorn.mono_l k
  unfold quittancelaw04_SheafTorn.f
  repeat' first
      | (with_reducible exact ih0 _ _ _)
      | (with_reducible exact ih1 _ _ _ _)
      | (with_reducible exact ih2 _ _ _ _ _)
      | (with_reducible exact ih3 _ _ _ _ _ _ _ _ _ _)
      | (with_reducible exact ih4 _ _ _ _ _ _ _ _ _ _ _ _ _)
      | (with_reducible exact ih5 _ _ _ _ _ _ _ _ _ _ _ _ _)
      | (with_reducible exact ih6 _ _ _ _ _)
      | (with_reducible exact ih7 _ _ _ _ _)
      | (with_reducible exact ih8 _ _ _ _ _ _)
      | (with_reducible exact quittancelaw04_head.mono _)
      | (with_reducible exact quittancelaw04_one.mono _ _ _ _ _ _)
      | (with_reducible exact sheaf_Top.mono _ _)
      | (with_reducible exact LeO.refl _)
      | (with_reducible exact LeO.none _)
      | (with_reducible refine LeO.ite ?_ ?_)
      | (with_reducible refine LeO.bind ?_ (fun _ => ?_))
      | exact ih0 _ _ _
      | exact ih1 _ _ _ _
      | exact ih2 _ _ _ _ _
      | exact ih3 _ _ _ _ _ _ _ _ _ _
      | exact ih4 _ _ _ _ _ _ _ _ _ _ _ _ _
      | exact ih5 _ _ _ _ _ _ _ _ _ _ _ _ _
      | exact ih6 _ _ _ _ _
      | exact ih7 _ _ _ _ _
      | exact ih8 _ _ _ _ _ _
      | exact quittancelaw04_head.mono _
      | exact quittancelaw04_one.mono _ _ _ _ _ _
      | exact sheaf_Top.mono _ _
      | exact LeO.none _
      | refine LeO.ite ?_ ?_
      | refine LeO.bind ?_ (fun _ => ?_)
end Go.Proofs.Ytknmbhllinbcjaa.Q
