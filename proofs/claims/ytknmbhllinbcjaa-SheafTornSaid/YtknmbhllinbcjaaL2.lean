/- Package leaf: contracts of Put, Get, Ends (in the form of the kit's printed contracts). The numbers are those of 64 bits; else the plain function tells nothing. -/
import Derived.Test.YtknmbhllinbcjaaL1
set_option linter.unusedVariables false
set_option linter.unusedSimpArgs false
namespace Go.Proofs.Ytknmbhllinbcjaa
open Go Go.RowKit
/-- A leaf's 64 bytes, as the code makes them. -/
def leafL (n : Nat) (l : List UInt8) : List UInt8 := stampL (List.replicate 8 0 ++ l.take 56 ++ List.replicate (56 - l.length) 0) n 8
theorem leafL_length (n : Nat) (l : List UInt8) : (leafL n l).length = 64 := by
  unfold leafL
  rw [stampL_length]
  simp
  omega
def headNum (l : List UInt8) : Nat := leNum (fun i => l.getD (7 - i) 0) 8
def footNum (l : List UInt8) : Nat := leNum (fun i => l.getD (56 + i) 0) 8
def leaf_Put.f (a0 : Int) (a1 : ByteArray) : Option (ByteArray × Int) :=
  if a0 = 0 then some (⟨#[]⟩, 2) else if a1.size > 48 then some (⟨#[]⟩, 3)
  else if 0 < a0 ∧ a0 < 18446744073709551616 then some (⟨(leafL a0.toNat a1.data.toList).toArray⟩, 0) else none
def leaf_Ends.f (a0 : ByteArray) : Option (Int × Int) :=
  if a0.size = 64 then some ((headNum a0.data.toList : Nat), (footNum a0.data.toList : Nat)) else some (0, 0)
def leaf_Get.f (a0 : ByteArray) : Option (Int × ByteArray × Bool) :=
  if a0.size = 64 ∧ headNum a0.data.toList ≠ 0 ∧ footNum a0.data.toList = headNum a0.data.toList then some ((headNum a0.data.toList : Nat), a0.extract 8 56, true)
  else some (0, ⟨#[]⟩, false)

theorem put_cells (s : ByteArray) (h : s.size ≤ 48) : ((cells8 z64).toList.take 8 ++ (s.data.toList.take 56).map cb ++ (cells8 z64).toList.drop (8 + Nat.min s.size 56)).toArray = cells8 (List.replicate 8 0 ++ s.data.toList.take 56 ++ List.replicate (56 - s.data.toList.length) 0) := by
  have hl : s.data.toList.length = s.size := Array.length_toList
  rw [cells8_toList, ← List.map_drop, ← List.map_take, ← List.map_append, ← List.map_append]
  unfold cells8 z64
  congr 3
  rw [List.drop_replicate, hl]
  congr 1
  rw [show Nat.min s.size 56 = s.size from Nat.min_eq_left (by omega)]
  omega

set_option maxRecDepth 100000 in
set_option maxHeartbeats 1000000 in
theorem leaf_Put.calls (a0 : Int) (a1 : ByteArray) (r1 : ByteArray) (r2 : Int) (w : World) (h : leaf_Put.f a0 a1 = some (r1, r2)) :
    Calls Try.prog 22 #[.int .u64 a0, .string a1] w fun e w' => e = .returned (.tuple #[.string r1, .int .i64 r2]) ∧ Below w.heap.size w w' := by
  unfold leaf_Put.f at h
  by_cases h0 : a0 = 0
  · rw [if_pos h0] at h
    obtain ⟨rfl, rfl⟩ := Prod.mk.inj (Option.some.inj h)
    subst h0
    clear h
    go_enter Try.func22, Try.ntmps22
    go_wp2
    go_ret2
    exact ⟨rfl, Below.refl _ _⟩
  · rw [if_neg h0] at h
    have hb0 : (a0 == 0) = false := by simpa using h0
    by_cases h1 : a1.size > 48
    · rw [if_pos h1] at h
      obtain ⟨rfl, rfl⟩ := Prod.mk.inj (Option.some.inj h)
      have h1' : (48 : Int) < (a1.size : Int) := by omega
      clear h h0
      go_enter Try.func22, Try.ntmps22
      go_wp2
      go_ret2
      exact ⟨rfl, Below.refl _ _⟩
    · rw [if_neg h1] at h
      by_cases h2 : 0 < a0 ∧ a0 < 18446744073709551616
      · rw [if_pos h2] at h
        obtain ⟨hr1, rfl⟩ := Prod.mk.inj (Option.some.inj h)
        obtain ⟨n, hn⟩ : ∃ n : Nat, a0 = n := ⟨a0.toNat, by omega⟩
        subst hn
        rw [Int.toNat_natCast] at hr1
        have hs : a1.size ≤ 48 := by omega
        have h1' : ¬ (48 : Int) < (a1.size : Int) := by omega
        obtain ⟨ti, hi, hz, hs6⟩ := info_two info66
        obtain ⟨tj, hj, hjz, hjs⟩ := info_two info5
        obtain ⟨L, hL⟩ : ∃ L, L = leafL n a1.data.toList := ⟨_, rfl⟩
        obtain ⟨Z, hZ⟩ : ∃ Z, Z = List.replicate 8 0 ++ a1.data.toList.take 56 ++ List.replicate (56 - a1.data.toList.length) 0 := ⟨_, rfl⟩
        have hZl : Z.length = 64 := by rw [hZ]; simp; omega
        have hLl : L.length = 64 := by rw [hL, leafL_length]
        have HC := hid (put_cells a1 hs)
        rw [← hZ] at HC
        have HLS := hid (show stampL Z n 8 = L by rw [hL, hZ, leafL])
        rw [← hL] at hr1
        subst hr1
        have HB := hid (show 8 + 56 ≤ (cells8 z64).size by rw [cells8_size]; exact Nat.le_refl _)
        have HJ := hid hjs
        have HZL := hid hZl
        have HZ := hid (show (Try.prog.info? 66).map (·.size) = some (cells8 Z).size by rw [hi, cells8_size, hZl]; simp [hs6])
        have HZ2 := hid (show ti.size = (cells8 L).size by rw [cells8_size, hLl]; exact hs6)
        have HLL := hid (show (cells8 L).size = (cells8 Z).size by rw [cells8_size, cells8_size, hLl, hZl])
        have HL64 := hid hLl
        have HN := hid h2.2
        clear h h0 h2 hL hZ hs hjs hZl hs6 hLl
        go_enter Try.func22, Try.ntmps22
        go_wp2_with (first
          | (refine wpList_alloc_row rfl 66 rfl ti _ hi hz (cells8 z64) rfl ?_; intro w1 n1)
          | (refine wpList_copy_string rfl (.tmp 14) (.tmp 15) 39 9 rfl 5 Try.underlying39 tj hj HJ.out w.heap.size 8 56 56 rfl a1 rfl 66 (cells8 z64) n1.at_ HB.out ?_; rw [HC.out]; intro w2 u2)
          | (refine wpList_load_row rfl 66 (.tmp 6) rfl w.heap.size rfl 66 (cells8 Z) (0, 0) _ u2.at_ Try.underlying66 rfl HZ.out ?_)
          | (go_at_call 41; refine (stamped_calls Z HZL.out n (by have := HN.out; omega) _).mono ?_; rw [HLS.out]; rintro e w3 ⟨rfl, b3⟩; have k3 := hid ((b3.block w.heap.size (by have := u2.size; have := n1.size; omega)).trans u2.at_))
          | (refine wpList_store_row rfl 66 (.tmp 6) (.tmp 19) rfl ti hi w.heap.size rfl 66 _ k3.out (cells8 L) rfl HZ2.out HLL.out (c8_ones L) ?_; intro w4 u4)
          | (refine wpList_convert_back rfl 39 9 (.tmp 20) rfl 5 Try.underlying39 Try.underlying5 Try.underlying9 w.heap.size 0 64 L 64 HL64.out.symm rfl 66 (cells8 L) (0, 0) u4.at_ (fun j hj => by rw [Nat.zero_add, cells8_get, List.getElem?_eq_getElem hj]; simp [List.getD_eq_getElem?_getD, List.getElem?_eq_getElem hj]) ?_))
        go_ret2
        exact ⟨rfl, n1.below.trans ((u2.below _ (Nat.le_refl _)).trans ((b3.mono (by have := u2.size; have := n1.size; omega)).trans (u4.below _ (Nat.le_refl _))))⟩
      · rw [if_neg h2] at h
        exact absurd h (by simp)

theorem pad64_64 (l : List UInt8) (h : l.length = 64) : pad64 l = l := by
  unfold pad64
  rw [h, List.take_of_length_le (by omega)]
  simp

set_option maxRecDepth 100000 in
set_option maxHeartbeats 1000000 in
theorem leaf_Ends.calls (a0 : ByteArray) (r1 : Int) (r2 : Int) (w : World) (h : leaf_Ends.f a0 = some (r1, r2)) :
    Calls Try.prog 19 #[.string a0] w fun e w' => e = .returned (.tuple #[.int .u64 r1, .int .u64 r2]) ∧ Below w.heap.size w w' := by
  unfold leaf_Ends.f at h
  obtain ⟨ti, hi, hz, hs6⟩ := info_two info66
  have hlen : a0.data.toList.length = a0.size := Array.length_toList
  by_cases h1 : a0.size = 64
  · rw [if_pos h1] at h
    obtain ⟨rfl, rfl⟩ := Prod.mk.inj (Option.some.inj h)
    have hb : ((a0.size : Int) == 64) = true := by rw [h1]; rfl
    obtain ⟨L, hL⟩ : ∃ L, L = a0.data.toList := ⟨_, rfl⟩
    have hLl : L.length = 64 := by rw [hL, hlen, h1]
    have HP := hid (show pad64 a0.data.toList = L by rw [← hL, pad64_64 L hLl])
    have HL64 := hid hLl
    have HZ := hid (show (Try.prog.info? 66).map (·.size) = some (cells8 L).size by rw [hi, cells8_size, hLl]; simp [hs6])
    have HZ2 := hid (show ti.size = (cells8 L).size by rw [cells8_size, hLl]; exact hs6)
    have HZ3 := hid (show (cells8 L).size = (cells8 z64).size by rw [cells8_size, cells8_size, hLl, z64_length])
    have HB := hid hb
    rw [← hL]
    have hn1 : headNum L = leNum (fun i => L.getD (7 - i) 0) 8 := rfl
    have hn2 : footNum L = leNum (fun i => L.getD (56 + i) 0) 8 := rfl
    rw [hn1, hn2]
    clear h h1 hL hLl hb hlen hs6 hn1 hn2
    go_enter Try.func19, Try.ntmps19
    go_wp2_with (first
      | (go_at_call 35; refine (of_calls a0 _).mono ?_; rw [HP.out, HB.out]; rintro e w1 ⟨rfl, b1⟩)
      | (refine wpList_alloc_row rfl 66 rfl ti _ hi hz (cells8 z64) rfl ?_; intro w2 n2)
      | (refine wpList_store_row rfl 66 (.tmp 4) (.tmp 9) rfl ti hi w1.heap.size rfl 66 _ n2.at_ (cells8 L) rfl HZ2.out HZ3.out (c8_ones L) ?_; intro w3 u3))
    have hk : ∀ W, Below w3.heap.size w3 W → W.heap[w1.heap.size]? = some (.cells (cells8 L) 66 (0, 0)) := fun W hW => (hW.block _ (by have := u3.size; have := n2.size; omega)).trans u3.at_
    have HK := hid hk
    clear hk
    refine wp_region_quiet (C := fun W => Below w3.heap.size w3 W) (by kernel_rfl) (by kernel_rfl) ⟨rfl, rfl, rfl, Nat.le_refl _, fun _ _ => rfl⟩ ?_
    simp only [List.toList_toArray]
    refine wpQuiet_load_row rfl 66 (.tmp 4) rfl w1.heap.size rfl 66 (cells8 L) (0, 0) _ HK.out Try.underlying66 rfl HZ.out ?_
    refine wpQuiet_call rfl 36 #[.agg (cells8 L), .func (.func 37) #[] #[]] (.int .u64 (leNum (fun i => L.getD (7 - i) 0) 8 : Nat)) (fun w => by go_simp) (fun W hW => (num_head_calls L HL64.out W).mono fun e W' he => ⟨he.1, hW.trans (he.2.mono hW.size)⟩) ?_
    refine wpQuiet_load_row rfl 66 (.tmp 4) rfl w1.heap.size rfl 66 (cells8 L) (0, 0) _ HK.out Try.underlying66 rfl HZ.out ?_
    refine wpQuiet_call rfl 36 #[.agg (cells8 L), .func (.func 38) #[] #[]] (.int .u64 (leNum (fun i => L.getD (56 + i) 0) 8 : Nat)) (fun w => by go_simp) (fun W hW => (num_foot_calls L HL64.out W).mono fun e W' he => ⟨he.1, hW.trans (he.2.mono hW.size)⟩) ?_
    refine wpQuiet_move rfl (.tmp 14) (.int .u64 (leNum (fun i => L.getD (7 - i) 0) 8 : Nat)) (.inr rfl) rfl ?_
    refine wpQuiet_move rfl (.tmp 16) (.int .u64 (leNum (fun i => L.getD (56 + i) 0) 8 : Nat)) (.inr rfl) rfl ?_
    refine wpQuiet_nil ?_
    intro W hW
    go_wp2
    refine bodyPost_ret (v := .tuple #[.int .u64 (leNum (fun i => L.getD (7 - i) 0) 8 : Nat), .int .u64 (leNum (fun i => L.getD (56 + i) 0) 8 : Nat)]) ?_ rfl ⟨rfl, ?_⟩
    · exact results_tmp2 Try.results19 _ _ _
    · exact b1.trans ((n2.below.mono b1.size).trans ((u3.below _ b1.size).trans (hW.mono (by have := u3.size; have := n2.size; have := b1.size; omega))))
  · rw [if_neg h1] at h
    obtain ⟨rfl, rfl⟩ := Prod.mk.inj (Option.some.inj h)
    have hb : ((a0.size : Int) == 64) = false := by rw [beq_eq_false_iff_ne]; omega
    obtain ⟨L, hL⟩ : ∃ L, L = pad64 a0.data.toList := ⟨_, rfl⟩
    have HP := hid hL.symm
    have hLl : L.length = 64 := by rw [hL, pad64_length]
    have HZ2 := hid (show ti.size = (cells8 L).size by rw [cells8_size, hLl]; exact hs6)
    have HZ3 := hid (show (cells8 L).size = (cells8 z64).size by rw [cells8_size, cells8_size, hLl, z64_length])
    have HB := hid hb
    clear h h1 hL hLl hb hlen hs6
    go_enter Try.func19, Try.ntmps19
    go_wp2_with (first
      | (go_at_call 35; refine (of_calls a0 _).mono ?_; rw [HP.out, HB.out]; rintro e w1 ⟨rfl, b1⟩)
      | (refine wpList_alloc_row rfl 66 rfl ti _ hi hz (cells8 z64) rfl ?_; intro w2 n2)
      | (refine wpList_store_row rfl 66 (.tmp 4) (.tmp 9) rfl ti hi w1.heap.size rfl 66 _ n2.at_ (cells8 L) rfl HZ2.out HZ3.out (c8_ones L) ?_; intro w3 u3))
    go_ret2
    exact ⟨rfl, b1.trans ((n2.below.mono b1.size).trans (u3.below _ b1.size))⟩
end Go.Proofs.Ytknmbhllinbcjaa
