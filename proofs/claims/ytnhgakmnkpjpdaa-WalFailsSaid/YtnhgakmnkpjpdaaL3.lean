import Derived.Test.YtnhgakmnkpjpdaaProg
import Derived.Test.YtnhgakmnkpjpdaaH0
import Derived.Deep.RegionWith
import Derived.Deep.QuietTactic
/- Package leaf: contracts of its functions, by walking them. No condition but the numbers' kinds. -/
set_option linter.unusedVariables false
set_option linter.unusedSimpArgs false
namespace Go.Proofs.Ytnhgakmnkpjpdaa
open Go Go.RowKit
theorem info66 : (Try.prog.info? 124).map (fun i => (i.zero, i.size)) = some (some (.agg (cells8 z64)), 64) := by kernel_rfl
theorem info5 : (Try.prog.info? 5).map (fun i => (i.zero, i.size)) = some (some (.int .u8 0), 1) := by kernel_rfl
theorem info_two {P : Program} {e : TypeId} {z : Value} {size : Nat} (h : (P.info? e).map (fun i => (i.zero, i.size)) = some (some z, size)) :
    ∃ i, P.info? e = some i ∧ i.zero = some z ∧ i.size = size := by
  obtain ⟨i, hi, hzz⟩ := Option.map_eq_some_iff.1 h
  simp only [Prod.mk.injEq] at hzz
  exact ⟨i, hi, hzz.1, hzz.2⟩
/-- The 64 bytes that 'of' makes. -/
def pad64 (l : List UInt8) : List UInt8 := l.take 64 ++ List.replicate (64 - l.length) 0
theorem pad64_length (l : List UInt8) : (pad64 l).length = 64 := by simp [pad64]; omega
theorem pad64_cells (s : ByteArray) : ((cells8 z64).toList.take 0 ++ (s.data.toList.take 64).map cb ++ (cells8 z64).toList.drop (0 + Nat.min s.size 64)).toArray = cells8 (pad64 s.data.toList) := by
  have hl : s.data.toList.length = s.size := Array.length_toList
  rw [cells8_toList, ← List.map_drop, List.take_zero, List.nil_append, ← List.map_append, Nat.zero_add]
  unfold cells8 pad64 z64
  congr 3
  rw [List.drop_replicate, hl]
  congr 1
  by_cases h : s.size ≤ 64
  · rw [show Nat.min s.size 64 = s.size from Nat.min_eq_left h]
  · rw [show Nat.min s.size 64 = 64 from Nat.min_eq_right (by omega)]; omega

theorem c8_ones (l : List UInt8) : ∀ v ∈ (cells8 l).toList, v.oneCell' = true := by rw [cells8_toList]; exact cb_one _
set_option maxRecDepth 100000 in
theorem of_calls (s : ByteArray) (w : World) :
    Calls Try.prog 87 #[.string s] w fun e w' => e = .returned (.tuple #[.agg (cells8 (pad64 s.data.toList)), .bool ((s.size : Int) == 64)]) ∧ Below w.heap.size w w' := by
  obtain ⟨i, hi, hz, hs⟩ := info_two info66
  obtain ⟨j, hj, hjz, hjs⟩ := info_two info5
  have HS := hid hs
  have HJ := hid hjs
  clear hs hjs
  have HB := hid (show 0 + 64 ≤ (cells8 z64).size by rw [cells8_size]; exact Nat.le_refl _)
  obtain ⟨L, hL⟩ : ∃ L, L = pad64 s.data.toList := ⟨_, rfl⟩
  have HL := hid hL
  have HZ := hid (show (Try.prog.info? 124).map (·.size) = some (cells8 L).size by rw [hi, hL, cells8_size, pad64_length]; simp [HS.out])
  have HZ2 := hid (show i.size = (cells8 L).size by rw [hL, cells8_size, pad64_length]; exact HS.out)
  rw [← hL]
  clear hL
  go_enter Try.func87, Try.ntmps87
  go_wp2_with (first
    | (refine wpList_alloc_row rfl 124 rfl i _ hi hz (cells8 z64) rfl ?_; intro w1 n1)
    | (refine wpList_copy_string rfl (.tmp 4) (.tmp 5) 73 9 rfl 5 Try.underlying73 j hj HJ.out w.heap.size 0 64 64 rfl s rfl 124 (cells8 z64) n1.at_ HB.out ?_; rw [pad64_cells, ← HL.out]; intro w2 u2)
    | (refine wpList_load_row rfl 124 (.tmp 2) rfl w.heap.size rfl 124 (cells8 L) (0, 0) _ u2.at_ Try.underlying124 rfl HZ.out ?_)
    | (refine wpList_store_row rfl 124 (.tmp 2) (.tmp 7) rfl i hi w.heap.size rfl 124 _ u2.at_ (cells8 L) rfl HZ2.out rfl (c8_ones L) ?_; intro w3 u3))
  refine bodyPost_ret (v := .tuple #[.agg (cells8 L), .bool ((s.size : Int) == 64)]) ?_ rfl ⟨rfl, ?_⟩
  · have h0 := run_loadVar_row (P := Try.prog) w3 w.heap.size 124 124 (cells8 L) (0, 0) _ u3.at_ Try.underlying124 rfl HZ.out
    simp [results, Try.results87, asAddr, h0]
  · exact n1.below.trans ((u2.below _ (Nat.le_refl _)).trans (u3.below _ (Nat.le_refl _)))

theorem head_calls (k : Nat) (w : World) (h1 : k < 8) :
    Calls Try.prog 89 #[.int .i64 k] w fun e w' => e = .returned (.int .i64 (7 - k)) ∧ w = w' := by
  go_enter Try.func89, Try.ntmps89
  go_wp2
  go_ret
  exact ⟨rfl, rfl⟩
set_option maxRecDepth 100000 in
/-- 'number' with 'head': the number at that end. -/
theorem num_head_calls (l : List UInt8) (hl : l.length = 64) (w : World) :
    Calls Try.prog 88 #[.agg (cells8 l), .func (.func 89) #[] #[]] w fun e w' => e = .returned (.int .u64 (leNum (fun i => l.getD (7 - i) 0) 8 : Nat)) ∧ Below w.heap.size w w' := by
  obtain ⟨f, hf⟩ : ∃ f : Nat → UInt8, f = fun i => l.getD (7 - i) 0 := ⟨_, rfl⟩
  have HL := hid hl
  have HF := hid hf
  rw [← hf]
  clear hl hf
  go_enter Try.func88, Try.ntmps88
  go_wp2_with (refine wpList_box_row rfl 124 (.tmp 0) rfl (cells8 l) rfl ?_; intro w1 n1)
  go_loop [4, 5, 6] (fun n k q => ∃ j : Nat, j ≤ 8 ∧ q = .int .i64 j ∧ n = .int .u64 (leNum f j : Nat)) (fun _ _ q => 8 - (intOf q).toNat)
  case atStart => exact ⟨0, by omega, rfl, rfl⟩
  case round =>
    obtain ⟨i, hi, rfl, rfl⟩ := hrel
    by_cases hlt : i < 8
    · obtain ⟨b, hb⟩ : ∃ b, b = f i := ⟨_, rfl⟩
      have hc : w1.cell? ⟨w.heap.size, 7 - i, none⟩ = some (.int .u8 b.toNat) := by
        rw [cell_of_row w1 _ _ _ _ _ n1.at_, cells8_get, List.getElem?_eq_getElem (by rw [HL.out]; omega), hb, HF.out]
        simp [cb, List.getD_eq_getElem?_getD, List.getElem?_eq_getElem (show 7 - i < l.length by rw [HL.out]; omega)]
      have HR := hid (le_round f i hlt b hb.symm)
      clear hb
      have h0 := Nat.zero_le (leNum f i)
      go_wp2_with (go_at_call 89; refine (head_calls i _ hlt).mono ?_; rintro e w' ⟨rfl, rfl⟩)
      go_round
      case rel => exact ⟨i + 1, by omega, by go_num, by rw [HR.out]⟩
      case measure => simp [intOf]; omega
    · have h8 : i = 8 := by omega
      subst h8
      go_wp2
      go_ret
      exact ⟨rfl, n1.below⟩

theorem foot_calls (k : Nat) (w : World) (h1 : k < 8) :
    Calls Try.prog 90 #[.int .i64 k] w fun e w' => e = .returned (.int .i64 (56 + k)) ∧ w = w' := by
  go_enter Try.func90, Try.ntmps90
  go_wp2
  go_ret
  exact ⟨rfl, rfl⟩
set_option maxRecDepth 100000 in
/-- 'number' with 'foot': the number at that end. -/
theorem num_foot_calls (l : List UInt8) (hl : l.length = 64) (w : World) :
    Calls Try.prog 88 #[.agg (cells8 l), .func (.func 90) #[] #[]] w fun e w' => e = .returned (.int .u64 (leNum (fun i => l.getD (56 + i) 0) 8 : Nat)) ∧ Below w.heap.size w w' := by
  obtain ⟨f, hf⟩ : ∃ f : Nat → UInt8, f = fun i => l.getD (56 + i) 0 := ⟨_, rfl⟩
  have HL := hid hl
  have HF := hid hf
  rw [← hf]
  clear hl hf
  go_enter Try.func88, Try.ntmps88
  go_wp2_with (refine wpList_box_row rfl 124 (.tmp 0) rfl (cells8 l) rfl ?_; intro w1 n1)
  go_loop [4, 5, 6] (fun n k q => ∃ j : Nat, j ≤ 8 ∧ q = .int .i64 j ∧ n = .int .u64 (leNum f j : Nat)) (fun _ _ q => 8 - (intOf q).toNat)
  case atStart => exact ⟨0, by omega, rfl, rfl⟩
  case round =>
    obtain ⟨i, hi, rfl, rfl⟩ := hrel
    by_cases hlt : i < 8
    · obtain ⟨b, hb⟩ : ∃ b, b = f i := ⟨_, rfl⟩
      have hc : w1.cell? ⟨w.heap.size, 56 + i, none⟩ = some (.int .u8 b.toNat) := by
        rw [cell_of_row w1 _ _ _ _ _ n1.at_, cells8_get, List.getElem?_eq_getElem (by rw [HL.out]; omega), hb, HF.out]
        simp [cb, List.getD_eq_getElem?_getD, List.getElem?_eq_getElem (show 56 + i < l.length by rw [HL.out]; omega)]
      have HR := hid (le_round f i hlt b hb.symm)
      clear hb
      have h0 := Nat.zero_le (leNum f i)
      go_wp2_with (go_at_call 90; refine (foot_calls i _ hlt).mono ?_; rintro e w' ⟨rfl, rfl⟩)
      go_round
      case rel => exact ⟨i + 1, by omega, by go_num, by rw [HR.out]⟩
      case measure => simp [intOf]; omega
    · have h8 : i = 8 := by omega
      subst h8
      go_wp2
      go_ret
      exact ⟨rfl, n1.below⟩

def byteAt (n j : Nat) : UInt8 := UInt8.ofNat (n / 256 ^ j)
def stampL (l : List UInt8) (n : Nat) : Nat → List UInt8
  | 0 => l
  | j + 1 => ((stampL l n j).set (7 - j) (byteAt n j)).set (56 + j) (byteAt n j)
theorem stampL_length (l : List UInt8) (n j : Nat) : (stampL l n j).length = l.length := by
  induction j with
  | zero => rfl
  | succ j ih => simp [stampL, ih]
theorem byteAt_val (n i : Nat) : Value.int .u8 ((n : Int) / 2 ^ (8 * i) % 256) = cb (byteAt n i) := by
  have e : ((n : Int) / 2 ^ (8 * i) % 256) = ((n / 256 ^ i % 256 : Nat) : Int) := by
    rw [pow256, Int.natCast_emod, Int.natCast_ediv, Int.natCast_pow]; rfl
  rw [e]
  simp [cb, byteAt, UInt8.toNat_ofNat']
def StampGood (w : World) (g1 : Nat) (L : List UInt8) (W : World) : Prop :=
  W.heap[w.heap.size]? = some (.cells (cells8 L) 124 (0, 0)) ∧ W.heap[g1]? = some (.cells (cells8 z64) 124 (0, 0)) ∧ Below w.heap.size w W
theorem stamp_store {w wr : World} {g1 : Nat} {L : List UInt8} (hA : wr.heap[w.heap.size]? = some (.cells (cells8 L) 124 (0, 0)))
    (hB : wr.heap[g1]? = some (.cells (cells8 z64) 124 (0, 0))) (hbel : Below w.heap.size w wr) (h1 : w.heap.size ≠ g1) (_h2 : w.heap.size < g1) (p q : Nat) (v : Value) (b : UInt8) (hv : v = cb b) :
    StampGood w g1 ((L.set p b).set q b) (((wr.setCell ⟨w.heap.size, p, none⟩ v).setCell ⟨w.heap.size, q, none⟩ v).drew) := by
  subst hv
  have e1 := heap_setCell_same wr w.heap.size p (cells8 L) 124 (cb b) hA
  rw [cells8_set] at e1
  have e2 := heap_setCell_same _ w.heap.size q _ 124 (cb b) e1
  rw [cells8_set] at e2
  refine ⟨e2, ?_, ((hbel.setCell (p := ⟨w.heap.size, p, none⟩) (Nat.le_refl _) _).setCell (p := ⟨w.heap.size, q, none⟩) (Nat.le_refl _) _).drew⟩
  show ((wr.setCell _ _).setCell _ _).heap[g1]? = _
  rw [heap_setCell_other _ _ _ _ (by exact h1.symm), heap_setCell_other _ _ _ _ (by exact h1.symm)]
  exact hB
set_option maxRecDepth 100000 in
set_option maxHeartbeats 1000000 in
theorem stamped_calls (l : List UInt8) (hl : l.length = 64) (n : Nat) (hn : n < 18446744073709551616) (w : World) :
    Calls Try.prog 99 #[.agg (cells8 l), .int .u64 n] w fun e w' => e = .returned (.agg (cells8 (stampL l n 8))) ∧ Below w.heap.size w w' := by
  obtain ⟨ti, hi, hz, hs⟩ := info_two info66
  have HL := hid hl
  have HN := hid hn
  have HT := hid hs
  obtain ⟨L, hL⟩ : ∃ L, L = stampL l n 8 := ⟨_, rfl⟩
  rw [← hL]
  have HLL := hid hL
  have HZ := hid (show (Try.prog.info? 124).map (·.size) = some (cells8 L).size by rw [hi, hL, cells8_size, stampL_length, hl]; simp [hs])
  have HZ2 := hid (show ti.size = (cells8 L).size by rw [hL, cells8_size, stampL_length, hl]; exact hs)
  clear hl hn hL hs
  go_enter Try.func99, Try.ntmps99
  go_wp2_with (first | (refine wpList_box_row rfl 124 (.tmp 0) rfl (cells8 l) rfl ?_; intro w1 n1) | (refine wpList_alloc_row rfl 124 rfl ti _ hi hz (cells8 z64) rfl ?_; intro w2 n2))
  go_loopw [5, 6, 7] (fun k c q wr => ∃ j : Nat, j ≤ 8 ∧ q = .int .i64 j ∧ wr.heap[w.heap.size]? = some (.cells (cells8 (stampL l n j)) 124 (0, 0)) ∧ wr.heap[w1.heap.size]? = some (.cells (cells8 z64) 124 (0, 0)) ∧ Below w.heap.size w wr) (fun _ _ q _ => 8 - (intOf q).toNat)
  case atStart => exact ⟨0, by omega, rfl, (n2.old _ (by have := n1.size; omega)).trans n1.at_, n2.at_, n1.below.trans (n2.below.mono (by have := n1.size; omega))⟩
  case round =>
    obtain ⟨i, hi8, rfl, hA, hB, hbel⟩ := hrel
    by_cases hlt : i < 8
    · have L := stampL_length l n i
      have HL2 := hid L
      clear L
      have hc1 : ∃ v1, wr.cell? ⟨w.heap.size, 7 - i, none⟩ = some (v1) := by
        rw [cell_of_row wr _ _ _ _ _ hA, cells8_get, List.getElem?_eq_getElem (by rw [HL2.out, HL.out]; omega)]
        exact ⟨_, rfl⟩
      have hc2 : ∃ v2, wr.cell? ⟨w.heap.size, 56 + i, none⟩ = some (v2) := by
        rw [cell_of_row wr _ _ _ _ _ hA, cells8_get, List.getElem?_eq_getElem (by rw [HL2.out, HL.out]; omega)]
        exact ⟨_, rfl⟩
      obtain ⟨v1, hc1⟩ := hc1
      obtain ⟨v2, hc2⟩ := hc2
      have hf1 : wr.frozen? ⟨w.heap.size, 7 - i, none⟩ = false := frozen_of_row wr _ _ _ _ hA
      have hf2 : wr.frozen? ⟨w.heap.size, 56 + i, none⟩ = false := frozen_of_row wr _ _ _ _ hA
      have hg1 : w1.heap.size = w.heap.size + 1 := n1.size
      obtain ⟨v, hv⟩ : ∃ v, v = Value.int .u8 ((n : Int) / 2 ^ (8 * i) % 256) := ⟨_, rfl⟩
      have hcb : v = cb (byteAt n i) := by rw [hv, byteAt_val]
      have S1 := hid (stamp_store hA hB hbel (by omega) (by omega) (7 - i) (56 + i) v (byteAt n i) hcb)
      have S2 := hid (stamp_store hA hB hbel (by omega) (by omega) (56 + i) (7 - i) v (byteAt n i) hcb)
      rw [List.set_comm _ _ (by omega)] at S2
      rw [hv] at S1 S2
      clear hv hcb hg1 hA hB hbel
      go_wp2
      go_region_with (first | (go_at_call 89; refine (head_calls i _ hlt).mono ?_; rintro e w' ⟨rfl, rfl⟩) | (go_at_call 90; refine (foot_calls i _ hlt).mono ?_; rintro e w' ⟨rfl, rfl⟩))
      all_goals
        go_wp2
        go_roundw
        case rel => exact ⟨i + 1, by omega, by go_num, by first | exact S1.out | exact S2.out⟩
        case measure => simp [intOf]; omega
    · have h8 : i = 8 := by omega
      subst h8
      rw [← HLL.out] at hA
      have HA := hid hA
      have HB := hid hB
      clear hA hB
      go_wp2_with (first
        | (refine wpList_load_row rfl 124 (.tmp 2) rfl w.heap.size rfl 124 (cells8 L) (0, 0) _ HA.out Try.underlying124 rfl HZ.out ?_)
        | (refine wpList_store_row rfl 124 (.tmp 4) (.tmp 24) rfl ti hi w1.heap.size rfl 124 _ HB.out (cells8 L) rfl HZ2.out (by rw [← HZ2.out, HT.out]; rfl) (c8_ones L) ?_; intro w3 u3))
      refine bodyPost_ret (v := .agg (cells8 L)) ?_ rfl ⟨rfl, ?_⟩
      · exact results_cell_row Try.results99 _ w3 w1.heap.size 124 (cells8 L) (0, 0) _ rfl u3.at_ Try.underlying124 rfl HZ.out
      · exact hbel.trans (u3.below _ (by have := n1.size; omega))
end Go.Proofs.Ytnhgakmnkpjpdaa

/- Package leaf: contracts of Put, Get, Ends (in the form of the kit's printed contracts). The numbers are those of 64 bits; else the plain function tells nothing. -/
set_option linter.unusedVariables false
set_option linter.unusedSimpArgs false
namespace Go.Proofs.Ytnhgakmnkpjpdaa
open Go Go.RowKit
/-- A leaf's 64 bytes, as the code makes them. -/
def leafL (n : Nat) (l : List UInt8) : List UInt8 := stampL (List.replicate 8 0 ++ l.take 56 ++ List.replicate (56 - l.length) 0) n 8
theorem leafL_length (n : Nat) (l : List UInt8) : (leafL n l).length = 64 := by
  unfold leafL
  rw [stampL_length]
  simp
  omega
def headNum (l : List UInt8) : Nat := leNum (fun i => l.getD (7 - i) 0) 8
def footNum (l : List UInt8) : Nat := leNum (fun i => l.getD (56 + i) 0) 8
def leaf_Put.f (a0 : Int) (a1 : ByteArray) : Option (ByteArray × Int) :=
  if a0 = 0 then some (⟨#[]⟩, 2) else if a1.size > 48 then some (⟨#[]⟩, 3)
  else if 0 < a0 ∧ a0 < 18446744073709551616 then some (⟨(leafL a0.toNat a1.data.toList).toArray⟩, 0) else none
def leaf_Ends.f (a0 : ByteArray) : Option (Int × Int) :=
  if a0.size = 64 then some ((headNum a0.data.toList : Nat), (footNum a0.data.toList : Nat)) else some (0, 0)
def leaf_Get.f (a0 : ByteArray) : Option (Int × ByteArray × Bool) :=
  if a0.size = 64 ∧ headNum a0.data.toList ≠ 0 ∧ footNum a0.data.toList = headNum a0.data.toList then some ((headNum a0.data.toList : Nat), a0.extract 8 56, true)
  else some (0, ⟨#[]⟩, false)

theorem put_cells (s : ByteArray) (h : s.size ≤ 48) : ((cells8 z64).toList.take 8 ++ (s.data.toList.take 56).map cb ++ (cells8 z64).toList.drop (8 + Nat.min s.size 56)).toArray = cells8 (List.replicate 8 0 ++ s.data.toList.take 56 ++ List.replicate (56 - s.data.toList.length) 0) := by
  have hl : s.data.toList.length = s.size := Array.length_toList
  rw [cells8_toList, ← List.map_drop, ← List.map_take, ← List.map_append, ← List.map_append]
  unfold cells8 z64
  congr 3
  rw [List.drop_replicate, hl]
  congr 1
  rw [show Nat.min s.size 56 = s.size from Nat.min_eq_left (by omega)]
  omega

set_option maxRecDepth 100000 in
set_option maxHeartbeats 1000000 in
theorem leaf_Put.calls (a0 : Int) (a1 : ByteArray) (r1 : ByteArray) (r2 : Int) (w : World) (h : leaf_Put.f a0 a1 = some (r1, r2)) :
    Calls Try.prog 94 #[.int .u64 a0, .string a1] w fun e w' => e = .returned (.tuple #[.string r1, .int .i64 r2]) ∧ Below w.heap.size w w' := by
  unfold leaf_Put.f at h
  by_cases h0 : a0 = 0
  · rw [if_pos h0] at h
    obtain ⟨rfl, rfl⟩ := Prod.mk.inj (Option.some.inj h)
    subst h0
    clear h
    go_enter Try.func94, Try.ntmps94
    go_wp2
    go_ret2
    exact ⟨rfl, Below.refl _ _⟩
  · rw [if_neg h0] at h
    have hb0 : (a0 == 0) = false := by simpa using h0
    by_cases h1 : a1.size > 48
    · rw [if_pos h1] at h
      obtain ⟨rfl, rfl⟩ := Prod.mk.inj (Option.some.inj h)
      have h1' : (48 : Int) < (a1.size : Int) := by omega
      clear h h0
      go_enter Try.func94, Try.ntmps94
      go_wp2
      go_ret2
      exact ⟨rfl, Below.refl _ _⟩
    · rw [if_neg h1] at h
      by_cases h2 : 0 < a0 ∧ a0 < 18446744073709551616
      · rw [if_pos h2] at h
        obtain ⟨hr1, rfl⟩ := Prod.mk.inj (Option.some.inj h)
        obtain ⟨n, hn⟩ : ∃ n : Nat, a0 = n := ⟨a0.toNat, by omega⟩
        subst hn
        rw [Int.toNat_natCast] at hr1
        have hs : a1.size ≤ 48 := by omega
        have h1' : ¬ (48 : Int) < (a1.size : Int) := by omega
        obtain ⟨ti, hi, hz, hs6⟩ := info_two info66
        obtain ⟨tj, hj, hjz, hjs⟩ := info_two info5
        obtain ⟨L, hL⟩ : ∃ L, L = leafL n a1.data.toList := ⟨_, rfl⟩
        obtain ⟨Z, hZ⟩ : ∃ Z, Z = List.replicate 8 0 ++ a1.data.toList.take 56 ++ List.replicate (56 - a1.data.toList.length) 0 := ⟨_, rfl⟩
        have hZl : Z.length = 64 := by rw [hZ]; simp; omega
        have hLl : L.length = 64 := by rw [hL, leafL_length]
        have HC := hid (put_cells a1 hs)
        rw [← hZ] at HC
        have HLS := hid (show stampL Z n 8 = L by rw [hL, hZ, leafL])
        rw [← hL] at hr1
        subst hr1
        have HB := hid (show 8 + 56 ≤ (cells8 z64).size by rw [cells8_size]; exact Nat.le_refl _)
        have HJ := hid hjs
        have HZL := hid hZl
        have HZ := hid (show (Try.prog.info? 124).map (·.size) = some (cells8 Z).size by rw [hi, cells8_size, hZl]; simp [hs6])
        have HZ2 := hid (show ti.size = (cells8 L).size by rw [cells8_size, hLl]; exact hs6)
        have HLL := hid (show (cells8 L).size = (cells8 Z).size by rw [cells8_size, cells8_size, hLl, hZl])
        have HL64 := hid hLl
        have HN := hid h2.2
        clear h h0 h2 hL hZ hs hjs hZl hs6 hLl
        go_enter Try.func94, Try.ntmps94
        go_wp2_with (first
          | (refine wpList_alloc_row rfl 124 rfl ti _ hi hz (cells8 z64) rfl ?_; intro w1 n1)
          | (refine wpList_copy_string rfl (.tmp 14) (.tmp 15) 73 9 rfl 5 Try.underlying73 tj hj HJ.out w.heap.size 8 56 56 rfl a1 rfl 124 (cells8 z64) n1.at_ HB.out ?_; rw [HC.out]; intro w2 u2)
          | (refine wpList_load_row rfl 124 (.tmp 6) rfl w.heap.size rfl 124 (cells8 Z) (0, 0) _ u2.at_ Try.underlying124 rfl HZ.out ?_)
          | (go_at_call 99; refine (stamped_calls Z HZL.out n (by have := HN.out; omega) _).mono ?_; rw [HLS.out]; rintro e w3 ⟨rfl, b3⟩; have k3 := hid ((b3.block w.heap.size (by have := u2.size; have := n1.size; omega)).trans u2.at_))
          | (refine wpList_store_row rfl 124 (.tmp 6) (.tmp 19) rfl ti hi w.heap.size rfl 124 _ k3.out (cells8 L) rfl HZ2.out HLL.out (c8_ones L) ?_; intro w4 u4)
          | (refine wpList_convert_back rfl 73 9 (.tmp 20) rfl 5 Try.underlying73 Try.underlying5 Try.underlying9 w.heap.size 0 64 L 64 HL64.out.symm rfl 124 (cells8 L) (0, 0) u4.at_ (fun j hj => by rw [Nat.zero_add, cells8_get, List.getElem?_eq_getElem hj]; simp [List.getD_eq_getElem?_getD, List.getElem?_eq_getElem hj]) ?_))
        go_ret2
        exact ⟨rfl, n1.below.trans ((u2.below _ (Nat.le_refl _)).trans ((b3.mono (by have := u2.size; have := n1.size; omega)).trans (u4.below _ (Nat.le_refl _))))⟩
      · rw [if_neg h2] at h
        exact absurd h (by simp)

theorem pad64_64 (l : List UInt8) (h : l.length = 64) : pad64 l = l := by
  unfold pad64
  rw [h, List.take_of_length_le (by omega)]
  simp

set_option maxRecDepth 100000 in
set_option maxHeartbeats 1000000 in
theorem leaf_Ends.calls (a0 : ByteArray) (r1 : Int) (r2 : Int) (w : World) (h : leaf_Ends.f a0 = some (r1, r2)) :
    Calls Try.prog 73 #[.string a0] w fun e w' => e = .returned (.tuple #[.int .u64 r1, .int .u64 r2]) ∧ Below w.heap.size w w' := by
  unfold leaf_Ends.f at h
  obtain ⟨ti, hi, hz, hs6⟩ := info_two info66
  have hlen : a0.data.toList.length = a0.size := Array.length_toList
  by_cases h1 : a0.size = 64
  · rw [if_pos h1] at h
    obtain ⟨rfl, rfl⟩ := Prod.mk.inj (Option.some.inj h)
    have hb : ((a0.size : Int) == 64) = true := by rw [h1]; rfl
    obtain ⟨L, hL⟩ : ∃ L, L = a0.data.toList := ⟨_, rfl⟩
    have hLl : L.length = 64 := by rw [hL, hlen, h1]
    have HP := hid (show pad64 a0.data.toList = L by rw [← hL, pad64_64 L hLl])
    have HL64 := hid hLl
    have HZ := hid (show (Try.prog.info? 124).map (·.size) = some (cells8 L).size by rw [hi, cells8_size, hLl]; simp [hs6])
    have HZ2 := hid (show ti.size = (cells8 L).size by rw [cells8_size, hLl]; exact hs6)
    have HZ3 := hid (show (cells8 L).size = (cells8 z64).size by rw [cells8_size, cells8_size, hLl, z64_length])
    have HB := hid hb
    rw [← hL]
    have hn1 : headNum L = leNum (fun i => L.getD (7 - i) 0) 8 := rfl
    have hn2 : footNum L = leNum (fun i => L.getD (56 + i) 0) 8 := rfl
    rw [hn1, hn2]
    clear h h1 hL hLl hb hlen hs6 hn1 hn2
    go_enter Try.func73, Try.ntmps73
    go_wp2_with (first
      | (go_at_call 87; refine (of_calls a0 _).mono ?_; rw [HP.out, HB.out]; rintro e w1 ⟨rfl, b1⟩)
      | (refine wpList_alloc_row rfl 124 rfl ti _ hi hz (cells8 z64) rfl ?_; intro w2 n2)
      | (refine wpList_store_row rfl 124 (.tmp 4) (.tmp 9) rfl ti hi w1.heap.size rfl 124 _ n2.at_ (cells8 L) rfl HZ2.out HZ3.out (c8_ones L) ?_; intro w3 u3))
    have hk : ∀ W, Below w3.heap.size w3 W → W.heap[w1.heap.size]? = some (.cells (cells8 L) 124 (0, 0)) := fun W hW => (hW.block _ (by have := u3.size; have := n2.size; omega)).trans u3.at_
    have HK := hid hk
    clear hk
    refine wp_region_quiet (C := fun W => Below w3.heap.size w3 W) (by kernel_rfl) (by kernel_rfl) ⟨rfl, rfl, rfl, Nat.le_refl _, fun _ _ => rfl⟩ ?_
    simp only [List.toList_toArray]
    refine wpQuiet_load_row rfl 124 (.tmp 4) rfl w1.heap.size rfl 124 (cells8 L) (0, 0) _ HK.out Try.underlying124 rfl HZ.out ?_
    refine wpQuiet_call rfl 88 #[.agg (cells8 L), .func (.func 89) #[] #[]] (.int .u64 (leNum (fun i => L.getD (7 - i) 0) 8 : Nat)) (fun w => by go_simp) (fun W hW => (num_head_calls L HL64.out W).mono fun e W' he => ⟨he.1, hW.trans (he.2.mono hW.size)⟩) ?_
    refine wpQuiet_load_row rfl 124 (.tmp 4) rfl w1.heap.size rfl 124 (cells8 L) (0, 0) _ HK.out Try.underlying124 rfl HZ.out ?_
    refine wpQuiet_call rfl 88 #[.agg (cells8 L), .func (.func 90) #[] #[]] (.int .u64 (leNum (fun i => L.getD (56 + i) 0) 8 : Nat)) (fun w => by go_simp) (fun W hW => (num_foot_calls L HL64.out W).mono fun e W' he => ⟨he.1, hW.trans (he.2.mono hW.size)⟩) ?_
    refine wpQuiet_move rfl (.tmp 14) (.int .u64 (leNum (fun i => L.getD (7 - i) 0) 8 : Nat)) (.inr rfl) rfl ?_
    refine wpQuiet_move rfl (.tmp 16) (.int .u64 (leNum (fun i => L.getD (56 + i) 0) 8 : Nat)) (.inr rfl) rfl ?_
    refine wpQuiet_nil ?_
    intro W hW
    go_wp2
    refine bodyPost_ret (v := .tuple #[.int .u64 (leNum (fun i => L.getD (7 - i) 0) 8 : Nat), .int .u64 (leNum (fun i => L.getD (56 + i) 0) 8 : Nat)]) ?_ rfl ⟨rfl, ?_⟩
    · exact results_tmp2 Try.results73 _ _ _
    · exact b1.trans ((n2.below.mono b1.size).trans ((u3.below _ b1.size).trans (hW.mono (by have := u3.size; have := n2.size; have := b1.size; omega))))
  · rw [if_neg h1] at h
    obtain ⟨rfl, rfl⟩ := Prod.mk.inj (Option.some.inj h)
    have hb : ((a0.size : Int) == 64) = false := by rw [beq_eq_false_iff_ne]; omega
    obtain ⟨L, hL⟩ : ∃ L, L = pad64 a0.data.toList := ⟨_, rfl⟩
    have HP := hid hL.symm
    have hLl : L.length = 64 := by rw [hL, pad64_length]
    have HZ2 := hid (show ti.size = (cells8 L).size by rw [cells8_size, hLl]; exact hs6)
    have HZ3 := hid (show (cells8 L).size = (cells8 z64).size by rw [cells8_size, cells8_size, hLl, z64_length])
    have HB := hid hb
    clear h h1 hL hLl hb hlen hs6
    go_enter Try.func73, Try.ntmps73
    go_wp2_with (first
      | (go_at_call 87; refine (of_calls a0 _).mono ?_; rw [HP.out, HB.out]; rintro e w1 ⟨rfl, b1⟩)
      | (refine wpList_alloc_row rfl 124 rfl ti _ hi hz (cells8 z64) rfl ?_; intro w2 n2)
      | (refine wpList_store_row rfl 124 (.tmp 4) (.tmp 9) rfl ti hi w1.heap.size rfl 124 _ n2.at_ (cells8 L) rfl HZ2.out HZ3.out (c8_ones L) ?_; intro w3 u3))
    go_ret2
    exact ⟨rfl, b1.trans ((n2.below.mono b1.size).trans (u3.below _ b1.size))⟩
end Go.Proofs.Ytnhgakmnkpjpdaa

/- Package leaf: the contract of Get. -/
set_option linter.unusedVariables false
set_option linter.unusedSimpArgs false
namespace Go.Proofs.Ytnhgakmnkpjpdaa
open Go Go.RowKit
theorem pw_drewN {B : Nat} {w W : World} (h : Below B w W) (n : Nat) : Below B w (W.drewN n) := ⟨h.os, h.tape, h.output, h.size, h.block⟩
set_option maxRecDepth 100000 in
set_option maxHeartbeats 1000000 in
theorem leaf_Get.calls (a0 : ByteArray) (r1 : Int) (r2 : ByteArray) (r3 : Bool) (w : World) (h : leaf_Get.f a0 = some (r1, r2, r3)) :
    Calls Try.prog 75 #[.string a0] w fun e w' => e = .returned (.tuple #[.int .u64 r1, .string r2, .bool r3]) ∧ Below w.heap.size w w' := by
  unfold leaf_Get.f at h
  obtain ⟨ti, hi, hz, hs6⟩ := info_two info66
  have hlen : a0.data.toList.length = a0.size := Array.length_toList
  obtain ⟨L, hL⟩ : ∃ L, L = pad64 a0.data.toList := ⟨_, rfl⟩
  have hLl : L.length = 64 := by rw [hL, pad64_length]
  have HP := hid hL.symm
  have HL64 := hid hLl
  have HZ := hid (show (Try.prog.info? 124).map (·.size) = some (cells8 L).size by rw [hi, cells8_size, hLl]; simp [hs6])
  have HZ2 := hid (show ti.size = (cells8 L).size by rw [cells8_size, hLl]; exact hs6)
  have HZ3 := hid (show (cells8 L).size = (cells8 z64).size by rw [cells8_size, cells8_size, hLl, z64_length])
  obtain ⟨N, hN⟩ : ∃ N : Nat, N = leNum (fun i => L.getD (7 - i) 0) 8 := ⟨_, rfl⟩
  obtain ⟨M, hM⟩ : ∃ M : Nat, M = leNum (fun i => L.getD (56 + i) 0) 8 := ⟨_, rfl⟩
  have HN := hid hN
  have HM := hid hM
  by_cases h1 : a0.size = 64
  · have hLa : L = a0.data.toList := by rw [hL, pad64_64 _ (by rw [hlen, h1])]
    have hb : ((a0.size : Int) == 64) = true := by rw [h1]; rfl
    have HB := hid hb
    have hn1 : headNum a0.data.toList = N := by rw [← hLa]; exact hN.symm
    have hn2 : footNum a0.data.toList = M := by rw [← hLa]; exact hM.symm
    rw [hn1, hn2] at h
    have hsz : (56 : Int) ≤ (a0.size : Int) := by omega
    by_cases h2 : N = 0
    · have hr : some ((0 : Int), (⟨#[]⟩ : ByteArray), false) = some (r1, r2, r3) := by rw [if_neg (by intro hh; exact hh.2.1 h2)] at h; exact h
      obtain ⟨rfl, hh⟩ := Prod.mk.inj (Option.some.inj hr)
      obtain ⟨rfl, rfl⟩ := Prod.mk.inj hh
      have hb2 : ((N : Int) == 0) = true := by rw [h2]; rfl
      clear h h1 hL hLl hb hlen hs6 hN hM hLa hn1 hn2 h2 hr hh
      go_enter Try.func75, Try.ntmps75
      go_wp2_with (first
        | (go_at_call 87; refine (of_calls a0 _).mono ?_; rw [HP.out, HB.out]; rintro e w1 ⟨rfl, b1⟩)
        | (refine wpList_alloc_row rfl 124 rfl ti _ hi hz (cells8 z64) rfl ?_; intro w2 n2)
        | (refine wpList_store_row rfl 124 (.tmp 5) (.tmp 9) rfl ti hi w1.heap.size rfl 124 _ n2.at_ (cells8 L) rfl HZ2.out HZ3.out (c8_ones L) ?_; intro w3 u3)
        | (refine wpList_load_row rfl 124 (.tmp 5) rfl w1.heap.size rfl 124 (cells8 L) (0, 0) _ u3.at_ Try.underlying124 rfl HZ.out ?_)
        | (go_at_call 88; refine (num_head_calls L HL64.out _).mono ?_; rw [← HN.out]; rintro e w4 ⟨rfl, b4⟩))
      refine bodyPost_ret (v := .tuple #[.int .u64 0, .string ⟨#[]⟩, .bool false]) (by simp [results, Try.results75]) rfl ⟨rfl, ?_⟩
      exact b1.trans ((n2.below.mono b1.size).trans ((u3.below _ b1.size).trans (b4.mono (by have := u3.size; have := n2.size; have := b1.size; omega))))
    · have hb2 : ((N : Int) == 0) = false := by rw [beq_eq_false_iff_ne]; omega
      by_cases h3 : M = N
      · rw [if_pos ⟨h1, h2, h3⟩] at h
        obtain ⟨rfl, hh⟩ := Prod.mk.inj (Option.some.inj h)
        obtain ⟨rfl, rfl⟩ := Prod.mk.inj hh
        have hb3 : ((M : Int) == (N : Int)) = true := by rw [h3]; simp
        have hb4 : ((M : Int) != (N : Int)) = false := by rw [h3]; simp
        clear h h1 hL hLl hb hlen hs6 hN hM hLa hn1 hn2 h2 hh h3
        go_enter Try.func75, Try.ntmps75
        go_wp2_with (first
          | (go_at_call 87; refine (of_calls a0 _).mono ?_; rw [HP.out, HB.out]; rintro e w1 ⟨rfl, b1⟩)
          | (refine wpList_alloc_row rfl 124 rfl ti _ hi hz (cells8 z64) rfl ?_; intro w2 n2)
          | (refine wpList_store_row rfl 124 (.tmp 5) (.tmp 9) rfl ti hi w1.heap.size rfl 124 _ n2.at_ (cells8 L) rfl HZ2.out HZ3.out (c8_ones L) ?_; intro w3 u3)
          | (refine wpList_load_row rfl 124 (.tmp 5) rfl w1.heap.size rfl 124 (cells8 L) (0, 0) _ u3.at_ Try.underlying124 rfl HZ.out ?_)
          | (refine wpList_load_row_g rfl 124 (.tmp 5) rfl w1.heap.size rfl 124 (cells8 L) (0, 0) _ k4.out Try.underlying124 rfl HZ.out ?_)
          | (go_at_call 88; refine (num_foot_calls L HL64.out w4).mono ?_; rw [← HM.out]; rintro e w5 ⟨rfl, b5⟩)
          | (go_at_call 88; refine (num_head_calls L HL64.out w3).mono ?_; rw [← HN.out]; rintro e w4 ⟨rfl, b4⟩; have k4 := hid ((b4.block w1.heap.size (by have := u3.size; have := n2.size; omega)).trans u3.at_)))
        go_quiet (fail)
        go_wp2
        refine bodyPost_ret (v := .tuple #[.int .u64 N, .string (a0.extract 8 56), .bool true]) (by simp [results, Try.results75]) rfl ⟨rfl, ?_⟩
        exact b1.trans ((n2.below.mono b1.size).trans ((u3.below _ b1.size).trans ((b4.mono (by have := u3.size; have := n2.size; have := b1.size; omega)).trans (pw_drewN (b5.mono (by have := u3.size; have := n2.size; have := b1.size; have := b4.size; omega)) _))))
      · have hr : some ((0 : Int), (⟨#[]⟩ : ByteArray), false) = some (r1, r2, r3) := by rw [if_neg (by intro hh; exact h3 hh.2.2)] at h; exact h
        obtain ⟨rfl, hh⟩ := Prod.mk.inj (Option.some.inj hr)
        obtain ⟨rfl, rfl⟩ := Prod.mk.inj hh
        have hb3 : ((M : Int) == (N : Int)) = false := by rw [beq_eq_false_iff_ne]; omega
        have hb4 : ((M : Int) != (N : Int)) = true := by rw [bne_iff_ne]; omega
        clear h h1 hL hLl hb hlen hs6 hN hM hLa hn1 hn2 h2 hh h3 hr
        go_enter Try.func75, Try.ntmps75
        go_wp2_with (first
          | (go_at_call 87; refine (of_calls a0 _).mono ?_; rw [HP.out, HB.out]; rintro e w1 ⟨rfl, b1⟩)
          | (refine wpList_alloc_row rfl 124 rfl ti _ hi hz (cells8 z64) rfl ?_; intro w2 n2)
          | (refine wpList_store_row rfl 124 (.tmp 5) (.tmp 9) rfl ti hi w1.heap.size rfl 124 _ n2.at_ (cells8 L) rfl HZ2.out HZ3.out (c8_ones L) ?_; intro w3 u3)
          | (refine wpList_load_row rfl 124 (.tmp 5) rfl w1.heap.size rfl 124 (cells8 L) (0, 0) _ u3.at_ Try.underlying124 rfl HZ.out ?_)
          | (refine wpList_load_row_g rfl 124 (.tmp 5) rfl w1.heap.size rfl 124 (cells8 L) (0, 0) _ k4.out Try.underlying124 rfl HZ.out ?_)
          | (go_at_call 88; refine (num_foot_calls L HL64.out w4).mono ?_; rw [← HM.out]; rintro e w5 ⟨rfl, b5⟩)
          | (go_at_call 88; refine (num_head_calls L HL64.out w3).mono ?_; rw [← HN.out]; rintro e w4 ⟨rfl, b4⟩; have k4 := hid ((b4.block w1.heap.size (by have := u3.size; have := n2.size; omega)).trans u3.at_)))
        refine bodyPost_ret (v := .tuple #[.int .u64 0, .string ⟨#[]⟩, .bool false]) (by simp [results, Try.results75]) rfl ⟨rfl, ?_⟩
        exact b1.trans ((n2.below.mono b1.size).trans ((u3.below _ b1.size).trans ((b4.mono (by have := u3.size; have := n2.size; have := b1.size; omega)).trans (b5.mono (by have := u3.size; have := n2.size; have := b1.size; have := b4.size; omega)))))
  · have hr : some ((0 : Int), (⟨#[]⟩ : ByteArray), false) = some (r1, r2, r3) := by rw [if_neg (by intro hh; exact h1 hh.1)] at h; exact h
    obtain ⟨rfl, hh⟩ := Prod.mk.inj (Option.some.inj hr)
    obtain ⟨rfl, rfl⟩ := Prod.mk.inj hh
    have hb : ((a0.size : Int) == 64) = false := by rw [beq_eq_false_iff_ne]; omega
    have HB := hid hb
    clear h h1 hL hLl hb hlen hs6 hN hM hh hr
    go_enter Try.func75, Try.ntmps75
    go_wp2_with (first
      | (go_at_call 87; refine (of_calls a0 _).mono ?_; rw [HP.out, HB.out]; rintro e w1 ⟨rfl, b1⟩)
      | (refine wpList_alloc_row rfl 124 rfl ti _ hi hz (cells8 z64) rfl ?_; intro w2 n2)
      | (refine wpList_store_row rfl 124 (.tmp 5) (.tmp 9) rfl ti hi w1.heap.size rfl 124 _ n2.at_ (cells8 L) rfl HZ2.out HZ3.out (c8_ones L) ?_; intro w3 u3)
      | (refine wpList_load_row rfl 124 (.tmp 5) rfl w1.heap.size rfl 124 (cells8 L) (0, 0) _ u3.at_ Try.underlying124 rfl HZ.out ?_)
      | (go_at_call 88; refine (num_head_calls L HL64.out w3).mono ?_; rw [← HN.out]; rintro e w4 ⟨rfl, b4⟩; have k4 := hid ((b4.block w1.heap.size (by have := u3.size; have := n2.size; omega)).trans u3.at_)))
    refine bodyPost_ret (v := .tuple #[.int .u64 0, .string ⟨#[]⟩, .bool false]) (by simp [results, Try.results75]) rfl ⟨rfl, ?_⟩
    exact b1.trans ((n2.below.mono b1.size).trans ((u3.below _ b1.size).trans (b4.mono (by have := u3.size; have := n2.size; have := b1.size; omega))))
end Go.Proofs.Ytnhgakmnkpjpdaa
