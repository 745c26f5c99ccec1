/- Chapter 03: the law's own read and head. -/
import Derived.Test.YtlafanbilodafaaDA
set_option linter.unusedVariables false
set_option linter.unusedSimpArgs false
namespace Go.Proofs.Ytlafanbilodafaa
open Go Go.RowKit Go.Proofs.YtlafanbilodafaaW.PrintWords Go.Proofs.YtlafanbilodafaaW.PrintLast Go.Proofs.YtlafanbilodafaaW.PrintMore
attribute [local go_sem] Oper.semAt_some max2_int min2_int max_two min_two max_three min_three max_four min_four
theorem readS_size {base : Nat} {w : World} {d : DV} {s : DS} (h : Drv base w d s) (n : Int) (hn : 0 ≤ n ∧ n < (s.now.length : Int)) : (readS s n).size = 64 := by
  unfold readS
  rw [if_pos hn, B_size]
  exact getD_64 h.secN (by omega)
theorem Dr.rd {w0 w : World} {l : List (Nat × DS)} {F : List Nat} {i D : Nat} {s : DS} (h : Dr w0 w l F) (hi : l[i]? = some (D, s)) (n many : Int) (hn : 0 ≤ n ∧ n < (s.now.length : Int)) (hm : 0 ≤ many ∧ many ≤ 64) :
    Calls Try.prog 26 #[ptr D, .int .i64 n, .int .i64 many] w fun e w' => e = .returned (.string ((readS s n).extract 0 many.toNat)) ∧ w' = w := by
  obtain ⟨d, -, hd⟩ := h.at hi
  have hs := readS_size hd n hn
  have he : hasE s.now.length n = 0 := by unfold hasE; rw [if_pos hn]
  obtain ⟨R, hR⟩ : ∃ R, R = readS s n := ⟨_, rfl⟩
  rw [← hR] at hs ⊢
  have HC := hid (h.read hi n)
  rw [← hR, he] at HC
  have c1 : decide ((R.size : Int) < many) = false := decide_eq_false (by omega)
  have c2 : 0 ≤ many := hm.1
  have c3 : many ≤ (R.size : Int) := by omega
  obtain ⟨m, rfl⟩ : ∃ m : Nat, many = (m : Int) := ⟨many.toNat, by omega⟩
  unfold ptr at *
  clear hs he hR hn hm hd
  go_enter Try.func26, Try.ntmps26
  go_wp2_with (go_at_call 14; refine HC.out.mono ?_; rintro e w' ⟨rfl, rfl⟩)
  go_ret
  exact ⟨rfl, rfl⟩
def sAB : ByteArray := ⟨#[97, 98]⟩
def hA : DS := (writeR (newS 8) 0 ⟨#[97, 98]⟩).1
def hB : DS := (syncR hA).1
def hC : DS := (writeR hB 0 ⟨#[99, 100]⟩).1
def hX : DS := crashS hC 0 (-1) 0
def hY : DS := crashS hC 1 (-1) 0
def hZ : DS := crashS hC 0 0 1
def hZ1 : DS := fuseS hZ 1
def hZ2 : DS := (writeR hZ1 1 ⟨#[120]⟩).1
theorem hA_e : (writeR (newS 8) 0 ⟨#[97, 98]⟩).2 = 0 := by kernel_rfl
theorem hB_e : (syncR hA).2 = 0 := by kernel_rfl
theorem hC_e : (writeR hB 0 ⟨#[99, 100]⟩).2 = 0 := by kernel_rfl
theorem hZ2_e : (writeR hZ1 1 ⟨#[120]⟩).2 = 0 := by kernel_rfl
theorem hZ3_e : (syncR hZ2).2 = 30 := by kernel_rfl
theorem hX_r : (readS hX 0).extract 0 2 = ⟨#[97, 98]⟩ := by kernel_rfl
theorem hY_r : (readS hY 0).extract 0 2 = ⟨#[99, 100]⟩ := by kernel_rfl
theorem hZ_r : (readS (syncR hZ2).1 0).extract 0 2 = ⟨#[99, 98]⟩ := by kernel_rfl
theorem o_small : (newS 8).opn.length < 1000000 ∧ hA.opn.length < 1000000 ∧ hB.opn.length < 1000000 ∧ hC.opn.length < 1000000 ∧ hZ1.opn.length < 1000000 := by decide +kernel
theorem n_eight : hX.now.length = 8 ∧ hY.now.length = 8 ∧ (syncR hZ2).1.now.length = 8 := by decide +kernel
set_option maxRecDepth 100000 in
set_option maxHeartbeats 1000000 in
theorem head_calls (w : World) : Calls Try.prog 11 #[] w fun e w' => e = .returned (.bool true) ∧ Below w.heap.size w w' := by
  go_enter Try.func11, Try.ntmps11
  go_wp2_with fail
  go_at_call 6
  refine ((Dr.start w).make 8 (by decide) (by decide)).mono ?_
  rintro e w1 ⟨v, rfl, D, rfl, hd1, -⟩
  replace hd1 : Dr w w1 [(D, newS 8)] [] := hd1
  unfold ptr
  go_wp2_with fail
  go_at_call 6
  refine (New_no w1 7 (by decide)).mono ?_
  rintro e w2 ⟨rfl, rfl⟩
  go_wp2_with fail
  go_at_call 9
  refine (hd1.write (i := 0) rfl o_small.1 0 ⟨#[97, 98]⟩).mono ?_
  rintro e w3 ⟨rfl, hd2, -⟩
  rw [hA_e]
  replace hd2 : Dr w w3 [(D, hA)] [] := hd2
  clear hd1
  go_wp2_with fail
  go_at_call 8
  refine (hd2.sync (i := 0) rfl).mono ?_
  rintro e w4 ⟨rfl, hd3, -⟩
  rw [hB_e]
  replace hd3 : Dr w w4 [(D, hB)] [] := hd3
  clear hd2
  go_wp2_with fail
  go_at_call 9
  refine (hd3.write (i := 0) rfl o_small.2.2.1 0 ⟨#[99, 100]⟩).mono ?_
  rintro e w5 ⟨rfl, hd4, -⟩
  rw [hC_e]
  replace hd4 : Dr w w5 [(D, hC)] [] := hd4
  clear hd3
  go_wp2_with fail
  go_at_call 13
  refine (hd4.copy (i := 0) rfl o_small.2.2.2.1).mono ?_
  rintro e w6 ⟨v, rfl, X, rfl, hd5, -⟩
  replace hd5 : Dr w w6 [(D, hC), (X, hC)] [] := hd5
  clear hd4
  unfold ptr
  go_wp2_with fail
  go_at_call 13
  refine (hd5.copy (i := 0) rfl o_small.2.2.2.1).mono ?_
  rintro e w7 ⟨v, rfl, Y, rfl, hd6, -⟩
  replace hd6 : Dr w w7 [(D, hC), (X, hC), (Y, hC)] [] := hd6
  clear hd5
  unfold ptr
  go_wp2_with fail
  go_at_call 13
  refine (hd6.copy (i := 0) rfl o_small.2.2.2.1).mono ?_
  rintro e w8 ⟨v, rfl, Z, rfl, hd7, -⟩
  replace hd7 : Dr w w8 [(D, hC), (X, hC), (Y, hC), (Z, hC)] [] := hd7
  clear hd6
  unfold ptr
  go_wp2_with fail
  go_at_call 10
  refine (hd7.crash (i := 1) rfl o_small.2.2.2.1 0 (-1) 0 (by decide)).mono ?_
  rintro e w9 ⟨rfl, hd8, -⟩
  replace hd8 : Dr w w9 [(D, hC), (X, hX), (Y, hC), (Z, hC)] [] := hd8
  clear hd7
  go_wp2_with fail
  go_at_call 10
  refine (hd8.crash (i := 2) rfl o_small.2.2.2.1 1 (-1) 0 (by decide)).mono ?_
  rintro e w10 ⟨rfl, hd9, -⟩
  replace hd9 : Dr w w10 [(D, hC), (X, hX), (Y, hY), (Z, hC)] [] := hd9
  clear hd8
  go_wp2_with fail
  go_at_call 10
  refine (hd9.crash (i := 3) rfl o_small.2.2.2.1 0 0 1 (by decide)).mono ?_
  rintro e w11 ⟨rfl, hd10, -⟩
  replace hd10 : Dr w w11 [(D, hC), (X, hX), (Y, hY), (Z, hZ)] [] := hd10
  clear hd9
  go_wp2_with fail
  go_at_call 7
  refine (hd10.fuse (i := 3) rfl 1 (by decide)).mono ?_
  rintro e w12 ⟨rfl, hd11, -⟩
  replace hd11 : Dr w w12 [(D, hC), (X, hX), (Y, hY), (Z, hZ1)] [] := hd11
  clear hd10
  go_wp2_with fail
  go_at_call 9
  refine (hd11.write (i := 3) rfl o_small.2.2.2.2 1 ⟨#[120]⟩).mono ?_
  rintro e w13 ⟨rfl, hd12, -⟩
  rw [hZ2_e]
  replace hd12 : Dr w w13 [(D, hC), (X, hX), (Y, hY), (Z, hZ2)] [] := hd12
  clear hd11
  go_wp2_with fail
  go_at_call 8
  refine (hd12.sync (i := 3) rfl).mono ?_
  rintro e w14 ⟨rfl, hd13, -⟩
  rw [hZ3_e]
  replace hd13 : Dr w w14 [(D, hC), (X, hX), (Y, hY), (Z, (syncR hZ2).1)] [] := hd13
  clear hd12
  go_wp2_with fail
  go_at_call 26
  refine (hd13.rd (i := 1) rfl 0 2 (by rw [n_eight.1]; decide) (by decide)).mono ?_
  rintro e w15 ⟨rfl, rfl⟩
  rw [show (2 : Int).toNat = 2 from rfl, hX_r]
  go_wp2_with fail
  go_at_call 26
  refine (hd13.rd (i := 2) rfl 0 2 (by rw [n_eight.2.1]; decide) (by decide)).mono ?_
  rintro e w16 ⟨rfl, rfl⟩
  rw [show (2 : Int).toNat = 2 from rfl, hY_r]
  go_wp2_with fail
  go_at_call 26
  refine (hd13.rd (i := 3) rfl 0 2 (by rw [n_eight.2.2]; decide) (by decide)).mono ?_
  rintro e w17 ⟨rfl, rfl⟩
  rw [show (2 : Int).toNat = 2 from rfl, hZ_r]
  go_wp2_with fail
  go_ret
  exact ⟨rfl, hd13.below⟩
end Go.Proofs.Ytlafanbilodafaa
