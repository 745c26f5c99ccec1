/- slices.swapRangeCmpFunc at shares, by walking it. -/
import Derived.Test.YtmjohabfikpahaaProg
import Derived.Test.YtmjohabfikpahaaV0
import Derived.Shelf.SlSortCmp.KitK
import Derived.Sort.WalkB2
import Derived.Sort.WalkB12
import Derived.Deep.LoopGhost
set_option maxRecDepth 1000000
set_option linter.unusedVariables false
set_option linter.unusedSimpArgs false
namespace Go.Proofs.Ytmjohabfikpahaa
open Go Go.Shelf Go.RowKit Go.Lib Go.Sort Go.Proofs
/-- What the walks of the sort ask of a program: the functions' bodies, and the types; an element has k cells. -/
structure Sh (P : Program) (k : Nat) : Prop where
  mixed : P.follows Departure.mixedOrders = true
  f23 : P.funcs[23]? = some Try.f23
  f26 : P.funcs[26]? = some Try.f26
  f27 : P.funcs[27]? = some Try.f27
  f28 : P.funcs[28]? = some Try.f28
  f29 : P.funcs[29]? = some Try.f29
  t3 : P.underlying 3 = some (TypeDesc.int IntKind.i64)
  a3 : ∀ w, (isAgg 3).run P w = .ok false w
  z3 : ∀ w, (Go.sizeOf 3).run P w = .ok 1 w
  v3 : ∀ w, (zeroValue 3).run P w = .ok (Value.int IntKind.i64 0) w
  t4 : P.underlying 4 = some (TypeDesc.bool)
  a4 : ∀ w, (isAgg 4).run P w = .ok false w
  z4 : ∀ w, (Go.sizeOf 4).run P w = .ok 1 w
  v4 : ∀ w, (zeroValue 4).run P w = .ok (Value.bool false) w
  t34 : P.underlying 34 = some (TypeDesc.slice 36)
  a34 : ∀ w, (isAgg 34).run P w = .ok false w
  z34 : ∀ w, (Go.sizeOf 34).run P w = .ok 1 w
  v34 : ∀ w, (zeroValue 34).run P w = .ok (Value.slice none 0 0) w
  t38 : P.underlying 38 = some (TypeDesc.func #[36, 36] #[3] false)
  a38 : ∀ w, (isAgg 38).run P w = .ok false w
  z38 : ∀ w, (Go.sizeOf 38).run P w = .ok 1 w
  v38 : ∀ w, (zeroValue 38).run P w = .ok (Value.nilFunc) w
  t44 : P.underlying 44 = some (TypeDesc.int IntKind.u64)
  a44 : ∀ w, (isAgg 44).run P w = .ok false w
  z44 : ∀ w, (Go.sizeOf 44).run P w = .ok 1 w
  v44 : ∀ w, (zeroValue 44).run P w = .ok (Value.int IntKind.u64 0) w
  a36 : ∀ w, (isAgg 36).run P w = .ok true w
  z36 : ∀ w, (Go.sizeOf 36).run P w = .ok k w
theorem sh_try : Sh Try.prog 3 := ⟨by kernel_rfl, Try.func23, Try.func26, Try.func27, Try.func28, Try.func29, Try.underlying3, Try.isAgg3, Try.sizeOf3, Try.zeroValue3, Try.underlying4, Try.isAgg4, Try.sizeOf4, Try.zeroValue4, Try.underlying34, Try.isAgg34, Try.sizeOf34, Try.zeroValue34, Try.underlying38, Try.isAgg38, Try.sizeOf38, Try.zeroValue38, Try.underlying44, Try.isAgg44, Try.sizeOf44, Try.zeroValue44, Try.isAgg36, Try.sizeOf36⟩
variable {P : Program} {k : Nat} {α : Type} [Inhabited α] {enc : α → List Value} {w0 w : World} {blk off : Nat} {d0 d : Array α}
set_option maxHeartbeats 2000000 in
theorem swapRange_calls (L : Sh P k) (R : RowK enc k w0 blk off d0) (hs : d0.size = d.size) (S : SWK enc k w0 blk off d w) (a b n lo hi cap : Nat) (hdis : a + n ≤ b ∨ b + n ≤ a) (h1 : lo ≤ a) (h2 : lo ≤ b) (h3 : a + n ≤ hi) (h4 : b + n ≤ hi) (h5 : hi ≤ d.size) (hsz : d.size < 4611686018427387904) (g : Nat) (cb : Array Value) :
    Calls P 29 #[.slice (some ⟨blk, off, none⟩) d.size cap, .int .i64 a, .int .i64 b, .int .i64 n, .func (.func g) #[] cb] w fun e w' => e = .returned (.tuple #[]) ∧ ∃ d', Swr a b n n d d' ∧ PermIn lo hi d d' ∧ SWK enc k w0 blk off d' w' := by
  have mixed := L.mixed; have t3 := L.t3; have a3 := L.a3; have z3 := L.z3; have v3 := L.v3; have t4 := L.t4; have a4 := L.a4; have z4 := L.z4; have v4 := L.v4; have t34 := L.t34; have a34 := L.a34; have z34 := L.z34; have v34 := L.v34; have t38 := L.t38; have a38 := L.a38; have z38 := L.z38; have v38 := L.v38; have t44 := L.t44; have a44 := L.a44; have z44 := L.z44; have v44 := L.v44; have a36 := L.a36; have z36 := L.z36
  have F29 := L.f29
  have S0 : Aside (SWK enc k w0 blk off d w) := S
  clear S
  go_enter F29, Try.ntmps29
  go_wp2
  go_loopg [10] n (fun kx s10 wr => ∃ (i : Nat) (dk : Array α), s10 = .int .i64 i ∧ i + kx = n ∧ dk.size = d.size ∧ Aside (Swr a b n i d dk) ∧ Aside (PermIn lo hi d dk) ∧ Aside (SWK enc k w0 blk off dk wr))
  case atStart => exact ⟨0, d, rfl, by omega, rfl, Swr.start a b n d, permIn_refl d lo hi, S0⟩
  case round =>
    clear S0
    obtain ⟨i, dk, rfl, hik, hds, HW, HP, S1⟩ := hrel
    by_cases hlt : i < n
    · have q1 : decide ((i : Int) < (n : Int)) = true := decide_eq_true (by omega)
      go_wp2_with fail
      have eA : ((a : Int) + (i : Int)).toNat = a + i := by omega
      have pA : (0 : Int) ≤ (a : Int) + (i : Int) := by omega
      have bA : (a : Int) + (i : Int) < (d.size : Int) := by omega
      have rA : IntKind.i64.wrap ((a : Int) + (i : Int)) = (a : Int) + (i : Int) := by rw [IntKind.wrap_i64]; omega
      have eB : ((b : Int) + (i : Int)).toNat = b + i := by omega
      have pB : (0 : Int) ≤ (b : Int) + (i : Int) := by omega
      have bB : (b : Int) + (i : Int) < (d.size : Int) := by omega
      have rB : IntKind.i64.wrap ((b : Int) + (i : Int)) = (b : Int) + (i : Int) := by rw [IntKind.wrap_i64]; omega
      have S2 : Aside (SWK enc k w0 blk off (swp dk (a + i) (b + i)) ((wr.drew.setCells blk (off + (a + i) * k) (enc dk[b + i]!)).setCells blk (off + (b + i) * k) (enc dk[a + i]!))) := S1.out.swapped R (a + i) (b + i) (by omega) (by omega)
      have la := S1.out.ld1 R (by omega) P (a + i) (by omega)
      have lb := S1.out.ld1 R (by omega) P (b + i) (by omega)
      have sa := S1.out.st1 R (by omega) P (a + i) (by omega) dk[b + i]!
      have sb := S1.out.st2 R (by omega) P (a + i) (b + i) (by omega) (by omega) dk[b + i]! dk[a + i]!
      have na : (enc dk[a + i]!).length = k := R.hk _
      have nb : (enc dk[b + i]!).length = k := R.hk _
      generalize enc dk[a + i]! = cA at S2 la sb na
      generalize enc dk[b + i]! = cB at S2 lb sa sb nb
      have HW2 : Aside (Swr a b n (i + 1) d (swp dk (a + i) (b + i))) := HW.out.step hlt hdis (by omega) (by omega)
      have HP2 : Aside (PermIn lo hi d (swp dk (a + i) (b + i))) := pi_trans HP.out (swp_permIn dk lo hi (a + i) (b + i) (by omega) (by omega) (by omega) (by omega) (by omega))
      clear S1 HW HP
      go_wp2_with fail
      go_big_region_o
      clear la lb sa sb
      generalize (wr.drew.setCells blk (off + (a + i) * k) cB).setCells blk (off + (b + i) * k) cA = w2 at S2 ⊢
      go_wp2
      go_roundg (gk - 1)
      case measure => omega
      case rel => exact ⟨i + 1, swp dk (a + i) (b + i), by simp, by omega, by rw [size_swp]; exact hds, HW2, HP2, S2⟩
    · have q1 : decide ((i : Int) < (n : Int)) = false := decide_eq_false (by omega)
      have hin : i = n := by omega
      go_wp2
      go_end0
      exact ⟨rfl, dk, hin ▸ HW.out, HP.out, S1.out⟩
end Go.Proofs.Ytmjohabfikpahaa
