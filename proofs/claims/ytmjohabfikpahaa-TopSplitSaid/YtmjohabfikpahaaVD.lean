/- arith.Sum, slices.Min, split.sum. -/
import Derived.Test.YtmjohabfikpahaaVC
import Derived.Laws.Externs
set_option maxRecDepth 1000000
set_option linter.unusedVariables false
set_option linter.unusedSimpArgs false
namespace Go.Proofs.Ytmjohabfikpahaa
open Go Go.Shelf Go.RowKit Go.Lib Go.Sort Go.Proofs
/-- Integers that a slice leads to. -/
def Ints (w : World) (A : Option Addr) (zs : List Int) : Prop := 0 < zs.length → ∃ b off, A = some ⟨b, off, none⟩ ∧ b < w.heap.size ∧ ∀ j, j < zs.length → w.cell? ⟨b, off + j, none⟩ = some (.int .i64 (zs.getD j 0))
theorem cell_only {fp : List Nat} {w W : World} (h : Only fp w W) {b j : Nat} (hb : b < w.heap.size) (hn : b ∉ fp) : W.cell? ⟨b, j, none⟩ = w.cell? ⟨b, j, none⟩ := by
  unfold World.cell?
  rw [h.block b hb hn]
theorem Ints.only {w W : World} {A : Option Addr} {zs : List Int} (h : Ints w A zs) {fp : List Nat} (ho : Only fp w W) (hf : ∀ k ∈ fp, w.heap.size ≤ k) : Ints W A zs := fun h0 => by
  obtain ⟨b, off, e, hb, hc⟩ := h h0
  exact ⟨b, off, e, Nat.lt_of_lt_of_le hb ho.size, fun j hj => by rw [cell_only ho hb (fun e => by have := hf b e; omega)]; exact hc j hj⟩
theorem Ints.new {w W : World} {A : Option Addr} {zs : List Int} (h : Ints w A zs) (ho : Only [] w W) : Ints W A zs := h.only ho (by simp)
def I64 (z : Int) : Prop := -9223372036854775808 ≤ z ∧ z < 9223372036854775808
/-- The sum of the first i. -/
def tsum (zs : List Int) (i : Nat) : Int := (zs.take i).sum
theorem tsum_zero (zs : List Int) : tsum zs 0 = 0 := by unfold tsum; simp
theorem tsum_succ (zs : List Int) (i : Nat) (h : i < zs.length) : tsum zs (i + 1) = tsum zs i + zs.getD i 0 := by
  unfold tsum
  rw [← List.take_append_getElem h, List.sum_append, List.getD_eq_getElem?_getD, List.getElem?_eq_getElem h]
  simp
theorem tsum_all (zs : List Int) : tsum zs zs.length = zs.sum := by unfold tsum; rw [List.take_length]
theorem tsum_le (zs : List Int) (hz : ∀ z ∈ zs, I64 z) (i : Nat) (h : i ≤ zs.length) : -(9223372036854775808 * (i : Int)) ≤ tsum zs i ∧ tsum zs i ≤ 9223372036854775808 * (i : Int) := by
  induction i with
  | zero => rw [tsum_zero]; omega
  | succ i ih =>
    have := ih (by omega)
    rw [tsum_succ zs i (by omega)]
    have h2 : I64 (zs.getD i 0) := by
      rw [List.getD_eq_getElem?_getD, List.getElem?_eq_getElem (by omega)]
      exact hz _ (List.getElem_mem _)
    unfold I64 at h2
    omega
def Mm : Int := 18446744073709551616
/-- One more number, in two words. -/
theorem add_low (S z : Int) : (S % 18446744073709551616 + z % 18446744073709551616) % 18446744073709551616 = (S + z) % 18446744073709551616 := (Int.add_emod S z _).symm
theorem sum_step (S z a l : Int) (hz : I64 z) (hS : S = 18446744073709551616 * a + l) (h0 : 0 ≤ l) (h1 : l < 18446744073709551616) :
    (S + z) / 18446744073709551616 = a + (if z < 0 then -1 else 0) + (l + z % 18446744073709551616) / 18446744073709551616 := by
  unfold I64 at hz
  split
  · have e : z % 18446744073709551616 = z + 18446744073709551616 := by omega
    rw [e, hS, show 18446744073709551616 * a + l + z = (l + z) + 18446744073709551616 * a by omega, Int.add_mul_ediv_left _ _ (by decide), show l + (z + 18446744073709551616) = l + z + 18446744073709551616 * 1 by omega, Int.add_mul_ediv_left _ _ (by decide)]
    omega
  · have e : z % 18446744073709551616 = z := by omega
    rw [e, hS, show 18446744073709551616 * a + l + z = (l + z) + 18446744073709551616 * a by omega, Int.add_mul_ediv_left _ _ (by decide)]
    omega
theorem high_step (a s c : Int) : ((a % 18446744073709551616 + s % 18446744073709551616) % 18446744073709551616 + c) % 18446744073709551616 = (a + s + c) % 18446744073709551616 := by
  rw [← Int.add_emod, Int.emod_add_emod]
/-- The two words of a sum. -/
structure Two (S hi lo : Int) : Prop where
  hi : hi = S / 18446744073709551616 % 18446744073709551616
  lo : lo = S % 18446744073709551616
theorem Two.zero : Two 0 0 0 := ⟨rfl, rfl⟩
theorem Two.range {S hi lo : Int} (h : Two S hi lo) : 0 ≤ hi ∧ hi < 18446744073709551616 ∧ 0 ≤ lo ∧ lo < 18446744073709551616 := by
  rw [h.hi, h.lo]
  exact ⟨Int.emod_nonneg _ (by decide), Int.emod_lt_of_pos _ (by decide), Int.emod_nonneg _ (by decide), Int.emod_lt_of_pos _ (by decide)⟩
theorem Two.step {S hi lo z : Int} (h : Two S hi lo) (hz : I64 z) : Two (S + z) (((hi + (if z < 0 then -1 else 0) % 18446744073709551616) % 18446744073709551616 + (lo + z % 18446744073709551616) / 18446744073709551616) % 18446744073709551616) ((lo + z % 18446744073709551616) % 18446744073709551616) := by
  have e := Int.mul_ediv_add_emod S 18446744073709551616
  have r := h.range
  constructor
  · rw [h.hi, h.lo, high_step, sum_step S z (S / 18446744073709551616) (S % 18446744073709551616) hz e.symm (by rw [← h.lo]; exact r.2.2.1) (by rw [← h.lo]; exact r.2.2.2)]
  · rw [h.lo, add_low]
/-- What the words tell. -/
theorem Two.told {S hi lo : Int} (h : Two S hi lo) (hS : -85070591730234615865843651857942052864 ≤ S ∧ S ≤ 85070591730234615865843651857942052864) :
    (hi = (if lo < 9223372036854775808 then 0 else 18446744073709551615)) ↔ I64 S := by
  have e := Int.mul_ediv_add_emod S 18446744073709551616
  have r := h.range
  have h1 := h.hi
  have h2 := h.lo
  unfold I64
  rw [← h2] at e
  generalize S / 18446744073709551616 = a at *
  clear h h2
  have b1 : -4611686018427387905 ≤ a := by omega
  have b2 : a ≤ 4611686018427387905 := by omega
  by_cases c : 0 ≤ a
  · have h3 : hi = a := by rw [h1]; exact Int.emod_eq_of_lt c (by omega)
    rw [h3]
    split <;> omega
  · have h3 : hi = a + 18446744073709551616 := by
      rw [h1, ← Int.add_emod_right]; exact Int.emod_eq_of_lt (by omega) (by omega)
    rw [h3]
    split <;> omega
theorem Two.low {S hi lo : Int} (h : Two S hi lo) (hS : I64 S) : IntKind.i64.wrap lo = S := by
  have h2 := h.lo
  unfold I64 at hS
  rw [IntKind.wrap_i64, h2]
  omega
theorem add64_run (x y : Int) (hx : 0 ≤ x) (hy : 0 ≤ y) (w : World) : (callFunc 12 #[.int .u64 x, .int .u64 y, .int .u64 0]).run Try.prog w = .ok (.value (.tuple #[.int .u64 ((x + y) % 18446744073709551616), .int .u64 ((x + y) / 18446744073709551616)])) w := by
  rw [run_callFunc_extern Try.func12 (by kernel_rfl) (by kernel_rfl) (by kernel_rfl) (e := add64Entry) (by kernel_rfl), run_add64 x y 0 hx hy (by omega) (by omega)]
  simp only [Result.andThen, Int.add_zero]
theorem getD_mem {zs : List Int} {j : Nat} (h : j < zs.length) : zs.getD j 0 ∈ zs := by
  rw [List.getD_eq_getElem?_getD, List.getElem?_eq_getElem h]
  exact List.getElem_mem h
theorem two_cells {w : World} {g T : Nat} {u v : Value} (h : w.heap[g]? = some (.cells #[u, v] T (0, 0))) : w.cell? ⟨g, 0, none⟩ = some u ∧ w.cell? ⟨g, 1, none⟩ = some v ∧ w.frozen? ⟨g, 0, none⟩ = false ∧ w.frozen? ⟨g, 1, none⟩ = false :=
  ⟨by rw [cell_of_row w _ _ _ _ _ h]; rfl, by rw [cell_of_row w _ _ _ _ _ h]; rfl, frozen_of_row w _ _ _ _ h, frozen_of_row w _ _ _ _ h⟩
theorem set_two {w : World} {g T : Nat} {u v x y : Value} (h : w.heap[g]? = some (.cells #[u, v] T (0, 0))) : ((w.setCell ⟨g, 0, none⟩ x).setCell ⟨g, 1, none⟩ y).heap[g]? = some (.cells #[x, y] T (0, 0)) :=
  heap_setCell_same _ g 1 _ T y (heap_setCell_same w g 0 _ T x h)
set_option maxHeartbeats 4000000 in
theorem Sum_calls (A : Option Addr) (zs : List Int) (n c : Nat) (w : World) (hI : Ints w A zs) (hn : n = zs.length) (hz : ∀ z ∈ zs, I64 z) (hl : zs.length ≤ 9223372036854775807) :
    Calls Try.prog 5 #[.slice A n c] w fun e w' => ∃ (s : Int) (is : Bool), e = .returned (.tuple #[.int .i64 s, .bool is]) ∧ (is = true ↔ I64 zs.sum) ∧ (is = true → s = zs.sum) ∧ Only [] w w' := by
  have HI : Aside (Ints w A zs) := hI
  have HZ : Aside (∀ z ∈ zs, I64 z) := hz
  have HN : Aside (n = zs.length) := hn
  have hn2 : n ≤ 9223372036854775807 := by omega
  obtain ⟨b1, b2, b3⟩ := new_one w (.cells #[.int .u64 0, .int .u64 0] 41)
  have HB : Aside (Only [] w (w.alloc (.cells #[.int .u64 0, .int .u64 0] 41))) := b1
  have HG : Aside ((w.alloc (.cells #[.int .u64 0, .int .u64 0] 41)).heap[w.heap.size]? = some (.cells #[.int .u64 0, .int .u64 0] 41 (0, 0))) := b2
  clear hI hz hn b1 b2 b3
  go_enter Try.func5, Try.ntmps5
  go_wp2_with fail
  go_loopg [13] n (fun kx s13 wr => ∃ (i : Nat) (hi lo : Int), s13 = .int .i64 i ∧ i ≤ n ∧ n - i ≤ kx ∧ Aside (Two (tsum zs i) hi lo) ∧ Aside (Only [] w wr) ∧ Aside (wr.heap[w.heap.size]? = some (.cells #[.int .u64 hi, .int .u64 lo] 41 (0, 0))))
  case atStart => exact ⟨0, 0, 0, rfl, by omega, by omega, by show Two _ _ _; rw [tsum_zero]; exact Two.zero, HB, HG⟩
  case round =>
    clear HB HG
    obtain ⟨i, hi, lo, rfl, hin, hk, HT, HO, HG⟩ := hrel
    by_cases hlt : i < n
    · have q1 : decide ((i : Int) < (n : Int)) = true := decide_eq_true (by omega)
      obtain ⟨b, off, hA, hb, hc⟩ := (HI.out.only HO.out (by simp)) (by have := HN.out; omega)
      subst hA
      obtain ⟨z, hzz⟩ : ∃ z, z = zs.getD i 0 := ⟨_, rfl⟩
      have hcz := hc i (by have := HN.out; omega)
      rw [← hzz] at hcz
      have hzI : I64 z := by rw [hzz]; exact HZ.out _ (getD_mem (by have := HN.out; omega))
      have HS : Aside (tsum zs (i + 1) = tsum zs i + z) := by rw [hzz]; exact tsum_succ zs i (by have := HN.out; omega)
      have hr := HT.out.range
      have ei : ((i : Int)).toNat = i := by omega
      obtain ⟨g0, g1, f0, f1⟩ := two_cells HG.out
      obtain ⟨uz, huz⟩ : ∃ uz, uz = z % 18446744073709551616 := ⟨_, rfl⟩
      have huz0 : 0 ≤ uz := by rw [huz]; exact Int.emod_nonneg _ (by decide)
      have ez : IntKind.u64.wrap z = uz := by rw [IntKind.wrap_u64, huz]
      have ez2 : z % 18446744073709551616 = uz := huz.symm
      have ea := fun w => add64_run lo uz hr.2.2.1 huz0 w
      obtain ⟨lo2, hlo2⟩ : ∃ lo2, lo2 = (lo + uz) % 18446744073709551616 := ⟨_, rfl⟩
      obtain ⟨cy, hcy⟩ : ∃ cy, cy = (lo + uz) / 18446744073709551616 := ⟨_, rfl⟩
      rw [← hlo2, ← hcy] at ea
      have HL : Aside (lo2 = (lo + uz) % 18446744073709551616 ∧ cy = (lo + uz) / 18446744073709551616) := ⟨hlo2, hcy⟩
      clear hc hzz huz hlo2 hcy
      obtain ⟨hi2, eh⟩ : ∃ hi2, IntKind.u64.wrap (IntKind.u64.wrap (hi + IntKind.u64.wrap (z / 9223372036854775808)) + cy) = hi2 := ⟨_, rfl⟩
      have HT2 : Aside (Two (tsum zs (i + 1)) hi2 lo2) := by
        have h9 := HT.out.step hzI
        rw [ez2, ← HL.out.1, ← HL.out.2] at h9
        show Two _ _ _
        rw [HS.out]
        have e9 : (if z < 0 then (-1 : Int) else 0) = z / 9223372036854775808 := by
          unfold I64 at hzI
          split <;> omega
        rw [e9] at h9
        rw [← eh]
        simp only [IntKind.wrap_u64]
        exact h9
      clear HT HS HL hr
      go_wp2_with fail
      go_roundg (n - (i + 1))
      case measure => omega
      case rel => exact ⟨i + 1, hi2, lo2, by go_num, by omega, Nat.le_refl _, HT2, (HO.out.trans (Only.setCell (fp := [w.heap.size]) _ _ _ (by simp)) (fun k hk hl => by rw [List.mem_singleton] at hk; omega)).trans (Only.setCell (fp := [w.heap.size]) _ _ _ (by simp)) (fun k hk hl => by rw [List.mem_singleton] at hk; omega), set_two HG.out⟩
    · have q1 : decide ((i : Int) < (n : Int)) = false := decide_eq_false (by omega)
      have hin2 : i = n := by omega
      subst hin2
      obtain ⟨g0, g1, f0, f1⟩ := two_cells HG.out
      have HT3 : Aside (Two zs.sum hi lo) := by show Two _ _ _; rw [← tsum_all, ← HN.out]; exact HT.out
      have hr := HT.out.range
      have htold := HT3.out.told (by have := tsum_le zs HZ.out zs.length (Nat.le_refl _); rw [tsum_all] at this; omega)
      obtain ⟨n1, en⟩ : ∃ n1, IntKind.i64.wrap lo = n1 := ⟨_, rfl⟩
      have hlow : I64 zs.sum → n1 = zs.sum := fun h => by rw [← en]; exact HT3.out.low h
      obtain ⟨tv, et, htv⟩ : ∃ tv, IntKind.u64.wrap (n1 / 9223372036854775808) = tv ∧ tv = (if lo < 9223372036854775808 then 0 else 18446744073709551615) := by
        refine ⟨_, rfl, ?_⟩
        rw [IntKind.wrap_i64] at en
        rw [IntKind.wrap_u64]
        split <;> omega
      rw [← htv] at htold
      have HF : Aside ((hi = tv ↔ I64 zs.sum) ∧ (I64 zs.sum → n1 = zs.sum)) := ⟨htold, hlow⟩
      have HO2 : Aside (Only [] w wr) := HO.out
      clear HT HT3 HG HO htold hlow htv hr HN HI HZ
      by_cases ct : tv = hi
      · have t1 : (tv == hi) = true := by rw [beq_iff_eq]; exact ct
        have HCT : Aside (tv = hi) := ct
        clear ct
        go_wp2_with fail
        go_ret2
        exact ⟨n1, true, rfl, by simp only [true_iff]; exact HF.out.1.1 HCT.out.symm, fun _ => HF.out.2 (HF.out.1.1 HCT.out.symm), HO2.out⟩
      · have t1 : (tv == hi) = false := by rw [beq_eq_false_iff_ne]; exact ct
        go_wp2_with fail
        go_ret2
        exact ⟨0, false, rfl, by simp only [Bool.false_eq_true, false_iff]; exact fun h => ct (HF.out.1.2 h).symm, fun h => by simp at h, HO2.out⟩
end Go.Proofs.Ytmjohabfikpahaa
