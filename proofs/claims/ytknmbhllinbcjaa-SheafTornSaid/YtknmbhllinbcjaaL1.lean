/- Package leaf: contracts of its functions, by walking them. No condition but the numbers' kinds. -/
import Derived.Test.YtknmbhllinbcjaaProg
import Derived.Test.YtknmbhllinbcjaaH0
import Derived.Test.YtknmbhllinbcjaaM0
import Derived.Deep.RegionWith
import Derived.Deep.QuietTactic
set_option linter.unusedVariables false
set_option linter.unusedSimpArgs false
namespace Go.Proofs.Ytknmbhllinbcjaa
open Go Go.RowKit
theorem info66 : (Try.prog.info? 66).map (fun i => (i.zero, i.size)) = some (some (.agg (cells8 z64)), 64) := by kernel_rfl
theorem info5 : (Try.prog.info? 5).map (fun i => (i.zero, i.size)) = some (some (.int .u8 0), 1) := by kernel_rfl
theorem info_two {P : Program} {e : TypeId} {z : Value} {size : Nat} (h : (P.info? e).map (fun i => (i.zero, i.size)) = some (some z, size)) :
    ∃ i, P.info? e = some i ∧ i.zero = some z ∧ i.size = size := by
  obtain ⟨i, hi, hzz⟩ := Option.map_eq_some_iff.1 h
  simp only [Prod.mk.injEq] at hzz
  exact ⟨i, hi, hzz.1, hzz.2⟩
/-- The 64 bytes that 'of' makes. -/
def pad64 (l : List UInt8) : List UInt8 := l.take 64 ++ List.replicate (64 - l.length) 0
theorem pad64_length (l : List UInt8) : (pad64 l).length = 64 := by simp [pad64]; omega
theorem pad64_cells (s : ByteArray) : ((cells8 z64).toList.take 0 ++ (s.data.toList.take 64).map cb ++ (cells8 z64).toList.drop (0 + Nat.min s.size 64)).toArray = cells8 (pad64 s.data.toList) := by
  have hl : s.data.toList.length = s.size := Array.length_toList
  rw [cells8_toList, ← List.map_drop, List.take_zero, List.nil_append, ← List.map_append, Nat.zero_add]
  unfold cells8 pad64 z64
  congr 3
  rw [List.drop_replicate, hl]
  congr 1
  by_cases h : s.size ≤ 64
  · rw [show Nat.min s.size 64 = s.size from Nat.min_eq_left h]
  · rw [show Nat.min s.size 64 = 64 from Nat.min_eq_right (by omega)]; omega

theorem c8_ones (l : List UInt8) : ∀ v ∈ (cells8 l).toList, v.oneCell' = true := by rw [cells8_toList]; exact cb_one _
set_option maxRecDepth 100000 in
theorem of_calls (s : ByteArray) (w : World) :
    Calls Try.prog 35 #[.string s] w fun e w' => e = .returned (.tuple #[.agg (cells8 (pad64 s.data.toList)), .bool ((s.size : Int) == 64)]) ∧ Below w.heap.size w w' := by
  obtain ⟨i, hi, hz, hs⟩ := info_two info66
  obtain ⟨j, hj, hjz, hjs⟩ := info_two info5
  have HS := hid hs
  have HJ := hid hjs
  clear hs hjs
  have HB := hid (show 0 + 64 ≤ (cells8 z64).size by rw [cells8_size]; exact Nat.le_refl _)
  obtain ⟨L, hL⟩ : ∃ L, L = pad64 s.data.toList := ⟨_, rfl⟩
  have HL := hid hL
  have HZ := hid (show (Try.prog.info? 66).map (·.size) = some (cells8 L).size by rw [hi, hL, cells8_size, pad64_length]; simp [HS.out])
  have HZ2 := hid (show i.size = (cells8 L).size by rw [hL, cells8_size, pad64_length]; exact HS.out)
  rw [← hL]
  clear hL
  go_enter Try.func35, Try.ntmps35
  go_wp2_with (first
    | (refine wpList_alloc_row rfl 66 rfl i _ hi hz (cells8 z64) rfl ?_; intro w1 n1)
    | (refine wpList_copy_string rfl (.tmp 4) (.tmp 5) 39 9 rfl 5 Try.underlying39 j hj HJ.out w.heap.size 0 64 64 rfl s rfl 66 (cells8 z64) n1.at_ HB.out ?_; rw [pad64_cells, ← HL.out]; intro w2 u2)
    | (refine wpList_load_row rfl 66 (.tmp 2) rfl w.heap.size rfl 66 (cells8 L) (0, 0) _ u2.at_ Try.underlying66 rfl HZ.out ?_)
    | (refine wpList_store_row rfl 66 (.tmp 2) (.tmp 7) rfl i hi w.heap.size rfl 66 _ u2.at_ (cells8 L) rfl HZ2.out rfl (c8_ones L) ?_; intro w3 u3))
  refine bodyPost_ret (v := .tuple #[.agg (cells8 L), .bool ((s.size : Int) == 64)]) ?_ rfl ⟨rfl, ?_⟩
  · have h0 := run_loadVar_row (P := Try.prog) w3 w.heap.size 66 66 (cells8 L) (0, 0) _ u3.at_ Try.underlying66 rfl HZ.out
    simp [results, Try.results35, asAddr, h0]
  · exact n1.below.trans ((u2.below _ (Nat.le_refl _)).trans (u3.below _ (Nat.le_refl _)))

theorem head_calls (k : Nat) (w : World) (h1 : k < 8) :
    Calls Try.prog 37 #[.int .i64 k] w fun e w' => e = .returned (.int .i64 (7 - k)) ∧ w = w' := by
  go_enter Try.func37, Try.ntmps37
  go_wp2
  go_ret
  exact ⟨rfl, rfl⟩
set_option maxRecDepth 100000 in
/-- 'number' with 'head': the number at that end. -/
theorem num_head_calls (l : List UInt8) (hl : l.length = 64) (w : World) :
    Calls Try.prog 36 #[.agg (cells8 l), .func (.func 37) #[] #[]] w fun e w' => e = .returned (.int .u64 (leNum (fun i => l.getD (7 - i) 0) 8 : Nat)) ∧ Below w.heap.size w w' := by
  obtain ⟨f, hf⟩ : ∃ f : Nat → UInt8, f = fun i => l.getD (7 - i) 0 := ⟨_, rfl⟩
  have HL := hid hl
  have HF := hid hf
  rw [← hf]
  clear hl hf
  go_enter Try.func36, Try.ntmps36
  go_wp2_with (refine wpList_box_row rfl 66 (.tmp 0) rfl (cells8 l) rfl ?_; intro w1 n1)
  go_loop [4, 5, 6] (fun n k q => ∃ j : Nat, j ≤ 8 ∧ q = .int .i64 j ∧ n = .int .u64 (leNum f j : Nat)) (fun _ _ q => 8 - (intOf q).toNat)
  case atStart => exact ⟨0, by omega, rfl, rfl⟩
  case round =>
    obtain ⟨i, hi, rfl, rfl⟩ := hrel
    by_cases hlt : i < 8
    · obtain ⟨b, hb⟩ : ∃ b, b = f i := ⟨_, rfl⟩
      have hc : w1.cell? ⟨w.heap.size, 7 - i, none⟩ = some (.int .u8 b.toNat) := by
        rw [cell_of_row w1 _ _ _ _ _ n1.at_, cells8_get, List.getElem?_eq_getElem (by rw [HL.out]; omega), hb, HF.out]
        simp [cb, List.getD_eq_getElem?_getD, List.getElem?_eq_getElem (show 7 - i < l.length by rw [HL.out]; omega)]
      have HR := hid (le_round f i hlt b hb.symm)
      clear hb
      have h0 := Nat.zero_le (leNum f i)
      go_wp2_with (go_at_call 37; refine (head_calls i _ hlt).mono ?_; rintro e w' ⟨rfl, rfl⟩)
      go_round
      case rel => exact ⟨i + 1, by omega, by go_num, by rw [HR.out]⟩
      case measure => simp [intOf]; omega
    · have h8 : i = 8 := by omega
      subst h8
      go_wp2
      go_ret
      exact ⟨rfl, n1.below⟩

theorem foot_calls (k : Nat) (w : World) (h1 : k < 8) :
    Calls Try.prog 38 #[.int .i64 k] w fun e w' => e = .returned (.int .i64 (56 + k)) ∧ w = w' := by
  go_enter Try.func38, Try.ntmps38
  go_wp2
  go_ret
  exact ⟨rfl, rfl⟩
set_option maxRecDepth 100000 in
/-- 'number' with 'foot': the number at that end. -/
theorem num_foot_calls (l : List UInt8) (hl : l.length = 64) (w : World) :
    Calls Try.prog 36 #[.agg (cells8 l), .func (.func 38) #[] #[]] w fun e w' => e = .returned (.int .u64 (leNum (fun i => l.getD (56 + i) 0) 8 : Nat)) ∧ Below w.heap.size w w' := by
  obtain ⟨f, hf⟩ : ∃ f : Nat → UInt8, f = fun i => l.getD (56 + i) 0 := ⟨_, rfl⟩
  have HL := hid hl
  have HF := hid hf
  rw [← hf]
  clear hl hf
  go_enter Try.func36, Try.ntmps36
  go_wp2_with (refine wpList_box_row rfl 66 (.tmp 0) rfl (cells8 l) rfl ?_; intro w1 n1)
  go_loop [4, 5, 6] (fun n k q => ∃ j : Nat, j ≤ 8 ∧ q = .int .i64 j ∧ n = .int .u64 (leNum f j : Nat)) (fun _ _ q => 8 - (intOf q).toNat)
  case atStart => exact ⟨0, by omega, rfl, rfl⟩
  case round =>
    obtain ⟨i, hi, rfl, rfl⟩ := hrel
    by_cases hlt : i < 8
    · obtain ⟨b, hb⟩ : ∃ b, b = f i := ⟨_, rfl⟩
      have hc : w1.cell? ⟨w.heap.size, 56 + i, none⟩ = some (.int .u8 b.toNat) := by
        rw [cell_of_row w1 _ _ _ _ _ n1.at_, cells8_get, List.getElem?_eq_getElem (by rw [HL.out]; omega), hb, HF.out]
        simp [cb, List.getD_eq_getElem?_getD, List.getElem?_eq_getElem (show 56 + i < l.length by rw [HL.out]; omega)]
      have HR := hid (le_round f i hlt b hb.symm)
      clear hb
      have h0 := Nat.zero_le (leNum f i)
      go_wp2_with (go_at_call 38; refine (foot_calls i _ hlt).mono ?_; rintro e w' ⟨rfl, rfl⟩)
      go_round
      case rel => exact ⟨i + 1, by omega, by go_num, by rw [HR.out]⟩
      case measure => simp [intOf]; omega
    · have h8 : i = 8 := by omega
      subst h8
      go_wp2
      go_ret
      exact ⟨rfl, n1.below⟩

def byteAt (n j : Nat) : UInt8 := UInt8.ofNat (n / 256 ^ j)
def stampL (l : List UInt8) (n : Nat) : Nat → List UInt8
  | 0 => l
  | j + 1 => ((stampL l n j).set (7 - j) (byteAt n j)).set (56 + j) (byteAt n j)
theorem stampL_length (l : List UInt8) (n j : Nat) : (stampL l n j).length = l.length := by
  induction j with
  | zero => rfl
  | succ j ih => simp [stampL, ih]
theorem byteAt_val (n i : Nat) : Value.int .u8 ((n : Int) / 2 ^ (8 * i) % 256) = cb (byteAt n i) := by
  have e : ((n : Int) / 2 ^ (8 * i) % 256) = ((n / 256 ^ i % 256 : Nat) : Int) := by
    rw [pow256, Int.natCast_emod, Int.natCast_ediv, Int.natCast_pow]; rfl
  rw [e]
  simp [cb, byteAt, UInt8.toNat_ofNat']
def StampGood (w : World) (g1 : Nat) (L : List UInt8) (W : World) : Prop :=
  W.heap[w.heap.size]? = some (.cells (cells8 L) 66 (0, 0)) ∧ W.heap[g1]? = some (.cells (cells8 z64) 66 (0, 0)) ∧ Below w.heap.size w W
theorem stamp_store {w wr : World} {g1 : Nat} {L : List UInt8} (hA : wr.heap[w.heap.size]? = some (.cells (cells8 L) 66 (0, 0)))
    (hB : wr.heap[g1]? = some (.cells (cells8 z64) 66 (0, 0))) (hbel : Below w.heap.size w wr) (h1 : w.heap.size ≠ g1) (_h2 : w.heap.size < g1) (p q : Nat) (v : Value) (b : UInt8) (hv : v = cb b) :
    StampGood w g1 ((L.set p b).set q b) (((wr.setCell ⟨w.heap.size, p, none⟩ v).setCell ⟨w.heap.size, q, none⟩ v).drew) := by
  subst hv
  have e1 := heap_setCell_same wr w.heap.size p (cells8 L) 66 (cb b) hA
  rw [cells8_set] at e1
  have e2 := heap_setCell_same _ w.heap.size q _ 66 (cb b) e1
  rw [cells8_set] at e2
  refine ⟨e2, ?_, ((hbel.setCell (p := ⟨w.heap.size, p, none⟩) (Nat.le_refl _) _).setCell (p := ⟨w.heap.size, q, none⟩) (Nat.le_refl _) _).drew⟩
  show ((wr.setCell _ _).setCell _ _).heap[g1]? = _
  rw [heap_setCell_other _ _ _ _ (by exact h1.symm), heap_setCell_other _ _ _ _ (by exact h1.symm)]
  exact hB
set_option maxRecDepth 100000 in
set_option maxHeartbeats 1000000 in
theorem stamped_calls (l : List UInt8) (hl : l.length = 64) (n : Nat) (hn : n < 18446744073709551616) (w : World) :
    Calls Try.prog 41 #[.agg (cells8 l), .int .u64 n] w fun e w' => e = .returned (.agg (cells8 (stampL l n 8))) ∧ Below w.heap.size w w' := by
  obtain ⟨ti, hi, hz, hs⟩ := info_two info66
  have HL := hid hl
  have HN := hid hn
  have HT := hid hs
  obtain ⟨L, hL⟩ : ∃ L, L = stampL l n 8 := ⟨_, rfl⟩
  rw [← hL]
  have HLL := hid hL
  have HZ := hid (show (Try.prog.info? 66).map (·.size) = some (cells8 L).size by rw [hi, hL, cells8_size, stampL_length, hl]; simp [hs])
  have HZ2 := hid (show ti.size = (cells8 L).size by rw [hL, cells8_size, stampL_length, hl]; exact hs)
  clear hl hn hL hs
  go_enter Try.func41, Try.ntmps41
  go_wp2_with (first | (refine wpList_box_row rfl 66 (.tmp 0) rfl (cells8 l) rfl ?_; intro w1 n1) | (refine wpList_alloc_row rfl 66 rfl ti _ hi hz (cells8 z64) rfl ?_; intro w2 n2))
  go_loopw [5, 6, 7] (fun k c q wr => ∃ j : Nat, j ≤ 8 ∧ q = .int .i64 j ∧ wr.heap[w.heap.size]? = some (.cells (cells8 (stampL l n j)) 66 (0, 0)) ∧ wr.heap[w1.heap.size]? = some (.cells (cells8 z64) 66 (0, 0)) ∧ Below w.heap.size w wr) (fun _ _ q _ => 8 - (intOf q).toNat)
  case atStart => exact ⟨0, by omega, rfl, (n2.old _ (by have := n1.size; omega)).trans n1.at_, n2.at_, n1.below.trans (n2.below.mono (by have := n1.size; omega))⟩
  case round =>
    obtain ⟨i, hi8, rfl, hA, hB, hbel⟩ := hrel
    by_cases hlt : i < 8
    · have L := stampL_length l n i
      have HL2 := hid L
      clear L
      have hc1 : ∃ v1, wr.cell? ⟨w.heap.size, 7 - i, none⟩ = some (v1) := by
        rw [cell_of_row wr _ _ _ _ _ hA, cells8_get, List.getElem?_eq_getElem (by rw [HL2.out, HL.out]; omega)]
        exact ⟨_, rfl⟩
      have hc2 : ∃ v2, wr.cell? ⟨w.heap.size, 56 + i, none⟩ = some (v2) := by
        rw [cell_of_row wr _ _ _ _ _ hA, cells8_get, List.getElem?_eq_getElem (by rw [HL2.out, HL.out]; omega)]
        exact ⟨_, rfl⟩
      obtain ⟨v1, hc1⟩ := hc1
      obtain ⟨v2, hc2⟩ := hc2
      have hf1 : wr.frozen? ⟨w.heap.size, 7 - i, none⟩ = false := frozen_of_row wr _ _ _ _ hA
      have hf2 : wr.frozen? ⟨w.heap.size, 56 + i, none⟩ = false := frozen_of_row wr _ _ _ _ hA
      have hg1 : w1.heap.size = w.heap.size + 1 := n1.size
      obtain ⟨v, hv⟩ : ∃ v, v = Value.int .u8 ((n : Int) / 2 ^ (8 * i) % 256) := ⟨_, rfl⟩
      have hcb : v = cb (byteAt n i) := by rw [hv, byteAt_val]
      have S1 := hid (stamp_store hA hB hbel (by omega) (by omega) (7 - i) (56 + i) v (byteAt n i) hcb)
      have S2 := hid (stamp_store hA hB hbel (by omega) (by omega) (56 + i) (7 - i) v (byteAt n i) hcb)
      rw [List.set_comm _ _ (by omega)] at S2
      rw [hv] at S1 S2
      clear hv hcb hg1 hA hB hbel
      go_wp2
      go_region_with (first | (go_at_call 37; refine (head_calls i _ hlt).mono ?_; rintro e w' ⟨rfl, rfl⟩) | (go_at_call 38; refine (foot_calls i _ hlt).mono ?_; rintro e w' ⟨rfl, rfl⟩))
      all_goals
        go_wp2
        go_roundw
        case rel => exact ⟨i + 1, by omega, by go_num, by first | exact S1.out | exact S2.out⟩
        case measure => simp [intOf]; omega
    · have h8 : i = 8 := by omega
      subst h8
      rw [← HLL.out] at hA
      have HA := hid hA
      have HB := hid hB
      clear hA hB
      go_wp2_with (first
        | (refine wpList_load_row rfl 66 (.tmp 2) rfl w.heap.size rfl 66 (cells8 L) (0, 0) _ HA.out Try.underlying66 rfl HZ.out ?_)
        | (refine wpList_store_row rfl 66 (.tmp 4) (.tmp 24) rfl ti hi w1.heap.size rfl 66 _ HB.out (cells8 L) rfl HZ2.out (by rw [← HZ2.out, HT.out]; rfl) (c8_ones L) ?_; intro w3 u3))
      refine bodyPost_ret (v := .agg (cells8 L)) ?_ rfl ⟨rfl, ?_⟩
      · exact results_cell_row Try.results41 _ w3 w1.heap.size 66 (cells8 L) (0, 0) _ rfl u3.at_ Try.underlying66 rfl HZ.out
      · exact hbel.trans (u3.below _ (by have := n1.size; omega))
end Go.Proofs.Ytknmbhllinbcjaa
