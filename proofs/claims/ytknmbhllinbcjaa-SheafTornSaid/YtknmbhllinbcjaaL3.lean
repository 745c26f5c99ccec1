/- Package leaf: the contract of Get. -/
import Derived.Test.YtknmbhllinbcjaaL2
set_option linter.unusedVariables false
set_option linter.unusedSimpArgs false
namespace Go.Proofs.Ytknmbhllinbcjaa
open Go Go.RowKit
theorem pw_drewN {B : Nat} {w W : World} (h : Below B w W) (n : Nat) : Below B w (W.drewN n) := ⟨h.os, h.tape, h.output, h.size, h.block⟩
set_option maxRecDepth 100000 in
set_option maxHeartbeats 1000000 in
theorem leaf_Get.calls (a0 : ByteArray) (r1 : Int) (r2 : ByteArray) (r3 : Bool) (w : World) (h : leaf_Get.f a0 = some (r1, r2, r3)) :
    Calls Try.prog 28 #[.string a0] w fun e w' => e = .returned (.tuple #[.int .u64 r1, .string r2, .bool r3]) ∧ Below w.heap.size w w' := by
  unfold leaf_Get.f at h
  obtain ⟨ti, hi, hz, hs6⟩ := info_two info66
  have hlen : a0.data.toList.length = a0.size := Array.length_toList
  obtain ⟨L, hL⟩ : ∃ L, L = pad64 a0.data.toList := ⟨_, rfl⟩
  have hLl : L.length = 64 := by rw [hL, pad64_length]
  have HP := hid hL.symm
  have HL64 := hid hLl
  have HZ := hid (show (Try.prog.info? 66).map (·.size) = some (cells8 L).size by rw [hi, cells8_size, hLl]; simp [hs6])
  have HZ2 := hid (show ti.size = (cells8 L).size by rw [cells8_size, hLl]; exact hs6)
  have HZ3 := hid (show (cells8 L).size = (cells8 z64).size by rw [cells8_size, cells8_size, hLl, z64_length])
  obtain ⟨N, hN⟩ : ∃ N : Nat, N = leNum (fun i => L.getD (7 - i) 0) 8 := ⟨_, rfl⟩
  obtain ⟨M, hM⟩ : ∃ M : Nat, M = leNum (fun i => L.getD (56 + i) 0) 8 := ⟨_, rfl⟩
  have HN := hid hN
  have HM := hid hM
  by_cases h1 : a0.size = 64
  · have hLa : L = a0.data.toList := by rw [hL, pad64_64 _ (by rw [hlen, h1])]
    have hb : ((a0.size : Int) == 64) = true := by rw [h1]; rfl
    have HB := hid hb
    have hn1 : headNum a0.data.toList = N := by rw [← hLa]; exact hN.symm
    have hn2 : footNum a0.data.toList = M := by rw [← hLa]; exact hM.symm
    rw [hn1, hn2] at h
    have hsz : (56 : Int) ≤ (a0.size : Int) := by omega
    by_cases h2 : N = 0
    · have hr : some ((0 : Int), (⟨#[]⟩ : ByteArray), false) = some (r1, r2, r3) := by rw [if_neg (by intro hh; exact hh.2.1 h2)] at h; exact h
      obtain ⟨rfl, hh⟩ := Prod.mk.inj (Option.some.inj hr)
      obtain ⟨rfl, rfl⟩ := Prod.mk.inj hh
      have hb2 : ((N : Int) == 0) = true := by rw [h2]; rfl
      clear h h1 hL hLl hb hlen hs6 hN hM hLa hn1 hn2 h2 hr hh
      go_enter Try.func28, Try.ntmps28
      go_wp2_with (first
        | (go_at_call 35; refine (of_calls a0 _).mono ?_; rw [HP.out, HB.out]; rintro e w1 ⟨rfl, b1⟩)
        | (refine wpList_alloc_row rfl 66 rfl ti _ hi hz (cells8 z64) rfl ?_; intro w2 n2)
        | (refine wpList_store_row rfl 66 (.tmp 5) (.tmp 9) rfl ti hi w1.heap.size rfl 66 _ n2.at_ (cells8 L) rfl HZ2.out HZ3.out (c8_ones L) ?_; intro w3 u3)
        | (refine wpList_load_row rfl 66 (.tmp 5) rfl w1.heap.size rfl 66 (cells8 L) (0, 0) _ u3.at_ Try.underlying66 rfl HZ.out ?_)
        | (go_at_call 36; refine (num_head_calls L HL64.out _).mono ?_; rw [← HN.out]; rintro e w4 ⟨rfl, b4⟩))
      refine bodyPost_ret (v := .tuple #[.int .u64 0, .string ⟨#[]⟩, .bool false]) (by simp [results, Try.results28]) rfl ⟨rfl, ?_⟩
      exact b1.trans ((n2.below.mono b1.size).trans ((u3.below _ b1.size).trans (b4.mono (by have := u3.size; have := n2.size; have := b1.size; omega))))
    · have hb2 : ((N : Int) == 0) = false := by rw [beq_eq_false_iff_ne]; omega
      by_cases h3 : M = N
      · rw [if_pos ⟨h1, h2, h3⟩] at h
        obtain ⟨rfl, hh⟩ := Prod.mk.inj (Option.some.inj h)
        obtain ⟨rfl, rfl⟩ := Prod.mk.inj hh
        have hb3 : ((M : Int) == (N : Int)) = true := by rw [h3]; simp
        have hb4 : ((M : Int) != (N : Int)) = false := by rw [h3]; simp
        clear h h1 hL hLl hb hlen hs6 hN hM hLa hn1 hn2 h2 hh h3
        go_enter Try.func28, Try.ntmps28
        go_wp2_with (first
          | (go_at_call 35; refine (of_calls a0 _).mono ?_; rw [HP.out, HB.out]; rintro e w1 ⟨rfl, b1⟩)
          | (refine wpList_alloc_row rfl 66 rfl ti _ hi hz (cells8 z64) rfl ?_; intro w2 n2)
          | (refine wpList_store_row rfl 66 (.tmp 5) (.tmp 9) rfl ti hi w1.heap.size rfl 66 _ n2.at_ (cells8 L) rfl HZ2.out HZ3.out (c8_ones L) ?_; intro w3 u3)
          | (refine wpList_load_row rfl 66 (.tmp 5) rfl w1.heap.size rfl 66 (cells8 L) (0, 0) _ u3.at_ Try.underlying66 rfl HZ.out ?_)
          | (refine wpList_load_row_g rfl 66 (.tmp 5) rfl w1.heap.size rfl 66 (cells8 L) (0, 0) _ k4.out Try.underlying66 rfl HZ.out ?_)
          | (go_at_call 36; refine (num_foot_calls L HL64.out w4).mono ?_; rw [← HM.out]; rintro e w5 ⟨rfl, b5⟩)
          | (go_at_call 36; refine (num_head_calls L HL64.out w3).mono ?_; rw [← HN.out]; rintro e w4 ⟨rfl, b4⟩; have k4 := hid ((b4.block w1.heap.size (by have := u3.size; have := n2.size; omega)).trans u3.at_)))
        go_quiet (fail)
        go_wp2
        refine bodyPost_ret (v := .tuple #[.int .u64 N, .string (a0.extract 8 56), .bool true]) (by simp [results, Try.results28]) rfl ⟨rfl, ?_⟩
        exact b1.trans ((n2.below.mono b1.size).trans ((u3.below _ b1.size).trans ((b4.mono (by have := u3.size; have := n2.size; have := b1.size; omega)).trans (pw_drewN (b5.mono (by have := u3.size; have := n2.size; have := b1.size; have := b4.size; omega)) _))))
      · have hr : some ((0 : Int), (⟨#[]⟩ : ByteArray), false) = some (r1, r2, r3) := by rw [if_neg (by intro hh; exact h3 hh.2.2)] at h; exact h
        obtain ⟨rfl, hh⟩ := Prod.mk.inj (Option.some.inj hr)
        obtain ⟨rfl, rfl⟩ := Prod.mk.inj hh
        have hb3 : ((M : Int) == (N : Int)) = false := by rw [beq_eq_false_iff_ne]; omega
        have hb4 : ((M : Int) != (N : Int)) = true := by rw [bne_iff_ne]; omega
        clear h h1 hL hLl hb hlen hs6 hN hM hLa hn1 hn2 h2 hh h3 hr
        go_enter Try.func28, Try.ntmps28
        go_wp2_with (first
          | (go_at_call 35; refine (of_calls a0 _).mono ?_; rw [HP.out, HB.out]; rintro e w1 ⟨rfl, b1⟩)
          | (refine wpList_alloc_row rfl 66 rfl ti _ hi hz (cells8 z64) rfl ?_; intro w2 n2)
          | (refine wpList_store_row rfl 66 (.tmp 5) (.tmp 9) rfl ti hi w1.heap.size rfl 66 _ n2.at_ (cells8 L) rfl HZ2.out HZ3.out (c8_ones L) ?_; intro w3 u3)
          | (refine wpList_load_row rfl 66 (.tmp 5) rfl w1.heap.size rfl 66 (cells8 L) (0, 0) _ u3.at_ Try.underlying66 rfl HZ.out ?_)
          | (refine wpList_load_row_g rfl 66 (.tmp 5) rfl w1.heap.size rfl 66 (cells8 L) (0, 0) _ k4.out Try.underlying66 rfl HZ.out ?_)
          | (go_at_call 36; refine (num_foot_calls L HL64.out w4).mono ?_; rw [← HM.out]; rintro e w5 ⟨rfl, b5⟩)
          | (go_at_call 36; refine (num_head_calls L HL64.out w3).mono ?_; rw [← HN.out]; rintro e w4 ⟨rfl, b4⟩; have k4 := hid ((b4.block w1.heap.size (by have := u3.size; have := n2.size; omega)).trans u3.at_)))
        refine bodyPost_ret (v := .tuple #[.int .u64 0, .string ⟨#[]⟩, .bool false]) (by simp [results, Try.results28]) rfl ⟨rfl, ?_⟩
        exact b1.trans ((n2.below.mono b1.size).trans ((u3.below _ b1.size).trans ((b4.mono (by have := u3.size; have := n2.size; have := b1.size; omega)).trans (b5.mono (by have := u3.size; have := n2.size; have := b1.size; have := b4.size; omega)))))
  · have hr : some ((0 : Int), (⟨#[]⟩ : ByteArray), false) = some (r1, r2, r3) := by rw [if_neg (by intro hh; exact h1 hh.1)] at h; exact h
    obtain ⟨rfl, hh⟩ := Prod.mk.inj (Option.some.inj hr)
    obtain ⟨rfl, rfl⟩ := Prod.mk.inj hh
    have hb : ((a0.size : Int) == 64) = false := by rw [beq_eq_false_iff_ne]; omega
    have HB := hid hb
    clear h h1 hL hLl hb hlen hs6 hN hM hh hr
    go_enter Try.func28, Try.ntmps28
    go_wp2_with (first
      | (go_at_call 35; refine (of_calls a0 _).mono ?_; rw [HP.out, HB.out]; rintro e w1 ⟨rfl, b1⟩)
      | (refine wpList_alloc_row rfl 66 rfl ti _ hi hz (cells8 z64) rfl ?_; intro w2 n2)
      | (refine wpList_store_row rfl 66 (.tmp 5) (.tmp 9) rfl ti hi w1.heap.size rfl 66 _ n2.at_ (cells8 L) rfl HZ2.out HZ3.out (c8_ones L) ?_; intro w3 u3)
      | (refine wpList_load_row rfl 66 (.tmp 5) rfl w1.heap.size rfl 66 (cells8 L) (0, 0) _ u3.at_ Try.underlying66 rfl HZ.out ?_)
      | (go_at_call 36; refine (num_head_calls L HL64.out w3).mono ?_; rw [← HN.out]; rintro e w4 ⟨rfl, b4⟩; have k4 := hid ((b4.block w1.heap.size (by have := u3.size; have := n2.size; omega)).trans u3.at_)))
    refine bodyPost_ret (v := .tuple #[.int .u64 0, .string ⟨#[]⟩, .bool false]) (by simp [results, Try.results28]) rfl ⟨rfl, ?_⟩
    exact b1.trans ((n2.below.mono b1.size).trans ((u3.below _ b1.size).trans (b4.mono (by have := u3.size; have := n2.size; have := b1.size; omega))))
end Go.Proofs.Ytknmbhllinbcjaa
