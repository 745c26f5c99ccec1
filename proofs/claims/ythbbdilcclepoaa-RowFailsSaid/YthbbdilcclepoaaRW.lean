/- Chapter 05: head, by walking it. -/
import Derived.Test.YthbbdilcclepoaaRX
import Derived.Test.YthbbdilcclepoaaR9
import Derived.Test.YthbbdilcclepoaaRB
set_option maxRecDepth 100000
set_option linter.unusedVariables false
set_option linter.unusedSimpArgs false
namespace Go.Proofs.Ythbbdilcclepoaa
open Go Go.RowKit Go.Proofs.Ythbbdilcclepoaa.Q Go.Proofs.Ythbbdilcclepoaa.Pure Go.Proofs.YthbbdilcclepoaaW.PrintWords Go.Proofs.YthbbdilcclepoaaW.PrintLast Go.Proofs.YthbbdilcclepoaaW.PrintMore
attribute [local go_sem] Oper.semAt_some max2_int min2_int max_two min_two max_three min_three max_four min_four
theorem RowAt.weaken {b b' : Nat} {W : World} {R D : Nat} {tv : Value} {r : RS} (h : RowAt b W R D tv r) (hb : b' ≤ b) : RowAt b' W R D tv r :=
  ⟨⟨Nat.le_trans hb h.ob.hO, h.ob.obj, fun x hx => ownsRow_weaken (h.ob.own x hx) hb, h.ob.nd⟩, h.lay, h.num⟩
/-- A row has been opened. -/
theorem Rw.opened {w0 w w' : World} {l : List (Nat × DS)} {F : List Nat} {i D : Nat} {s : DS} {R : Nat} {tv : Value} {r : RS} (h : Dr w0 w l F) (hi : l[i]? = some (D, s)) (ho : Only [] w w') (hr : RowAt w.heap.size w' R D tv r) :
    Rw w0 w' l (rwFp R tv ++ F) i D s R tv r :=
  ⟨h.grow [] _ ho (by simp) (fun k hk => (List.mem_append.1 hk).elim (fun e => .inr (hr.fp_lt k e)) .inl), hi, hr.weaken h.below.size, fun k hk => List.mem_append_left _ hk⟩
/-- A slice that was written out. -/
theorem str_lit (W : World) (xs : List ByteArray) (h0 : 0 < xs.length) (hm : xs.length ≤ 4096) : Kd.C Kd.string (W.alloc (.cells (strV xs).toArray 9)) (some ⟨W.heap.size, 0, none⟩) xs.length xs := by
  have ho : (W.alloc (.cells (strV xs).toArray 9)).ownsRow W.heap.size 9 1 (.slice (some ⟨W.heap.size, 0, none⟩) xs.length xs.length) xs.length (strV xs) := by
    refine ⟨by rw [strV_len, Nat.mul_one], .inr ⟨W.heap.size, xs.length, _, rfl, Nat.le_refl _, heap_alloc_new W _, Nat.le_refl _, by unfold maxLen; omega, by rw [List.size_toArray, strV_len, Nat.mul_one], ?_⟩⟩
    rw [List.toList_toArray, List.take_of_length_le (by rw [strV_len]; omega)]
  obtain ⟨A, c, e, -, hC⟩ := own_C_str ho
  injection e with e1
  rw [e1]; exact hC
theorem drawn_only {w w' : World} (h : Drawn0 w w') (fp : List Nat) : Only fp w w' := by
  obtain ⟨m, e⟩ := h; rw [e]; exact Only.drewN _ _ _
/-- 'make([]byte, n)', kept from being taken apart. -/
@[irreducible] def make54 (v u : Value) : Sem Next := do pure (.value (← Instr.makeSlice 54 v u))
theorem exec_make54 (ev : Operand → Value) (dst : Option Tmp) (x y : Operand) (ty : TypeId) (pos : String) (after : Array Edge) (g : Option (Nat × Bool)) : execOp ev ⟨dst, .makeSlice 54 x y, ty, pos, after, g⟩ = make54 (ev x) (ev y) := by
  unfold make54 execOp; rfl
theorem run_make54 (n : Nat) (hn : n ≤ 4096) (W : World) : (make54 (.int .i64 (n : Int)) (.int .i64 (n : Int))).run Try.prog W = .ok (.value (.slice (some ⟨W.heap.size, 0, none⟩) n n)) (W.alloc (.cells (List.replicate n (cb 0)).toArray 5)) := by
  obtain ⟨ti, hti, htz, hts, htb⟩ := info_three Q.info5
  unfold make54
  have h := run_make W 54 5 ti _ Try.underlying54 hti htz .i64 .i64 (n : Int) (n : Int) (by omega) (Int.le_refl _) (by rw [htb]; omega) (by omega)
  rw [Sem.run_bind, h]
  simp only [Int.toNat_natCast, hts]
  have e : (Value.int .u8 0).cells = (List.replicate 1 (cb 0)).toArray := rfl
  rw [e, made_same 1 _ (by decide), Nat.mul_one]
  rfl
theorem row8_zeros (W : World) (n : Nat) (hn : n ≤ 4096) : Row8 (W.alloc (.cells (List.replicate n (cb 0)).toArray 5)) 5 W.heap.size n (List.replicate n 0) := by
  refine ⟨⟨_, (0, 0), heap_alloc_new W _, by simp, .inl rfl, ?_⟩, by simp, by unfold maxLen; omega⟩
  rw [List.length_replicate, List.map_replicate]
  exact List.take_of_length_le (by simp)
attribute [local go_sem ↓] exec_make54
set_option maxHeartbeats 4000000 in
theorem row_head (w : World) : Calls Try.prog 9 #[] w fun e w' => e = .returned (.bool true) ∧ Below w.heap.size w w' := by
  go_enter Try.func9, Try.ntmps9
  go_wp2_with fail
  go_at_call 6
  refine ((Dr.start w).make 8 (by decide) (by decide)).mono ?_
  rintro e w1 ⟨v, rfl, D, rfl, hd1, -⟩
  replace hd1 : Dr w w1 [(D, newS 8)] [] := hd1
  have HD1 := hid hd1
  clear hd1
  unfold ptr
  go_wp2_with fail
  go_at_call 8
  refine (Open_ok HD1.out (i := 0) rfl 2 4 (by decide) (by decide) (by decide)).mono ?_
  rintro e w2 ⟨R, tv, rfl, ho2, hr2⟩
  rw [openRS_new 8 2 4 (by decide)] at hr2
  have HW2 := hid (show Rw w w2 [(D, newS 8)] (rwFp R tv ++ []) 0 D (newS 8) R tv rh0 from Rw.opened HD1.out rfl ho2 hr2)
  clear ho2 hr2 HD1
  unfold ptr
  go_wp2_with fail
  go_at_call 8
  refine (Open_nil w2 0 1).mono ?_
  rintro e w3 ⟨rfl, rfl⟩
  go_wp2_with fail
  go_at_call 8
  refine (Open_no HW2.out.dr (i := 0) rfl 5 4 (by decide) (by decide)).mono ?_
  rintro e w3 ⟨rfl, rfl⟩
  have hmk := run_make54 50 (by decide) w3
  replace hmk : (make54 (.int .i64 50) (.int .i64 50)).run Try.prog w3 = .ok (.value (.slice (some ⟨w3.heap.size, 0, none⟩) 50 50)) (w3.alloc (.cells (List.replicate 50 (cb 0)).toArray 5)) := hmk
  have HROW := hid (row8_zeros w3 50 (by decide))
  obtain ⟨Z, hZ⟩ : ∃ Z : Obj, Z = .cells (List.replicate 50 (cb 0)).toArray 5 := ⟨_, rfl⟩
  obtain ⟨L50, hL50⟩ : ∃ L : List UInt8, L = List.replicate 50 0 := ⟨_, rfl⟩
  rw [← hZ] at hmk HROW
  rw [← hL50] at HROW
  have HL50 := hid (show 50 = L50.length by rw [hL50, List.length_replicate])
  have HT50 := hid (show (⟨L50.toArray⟩ : ByteArray) = t50 by rw [hL50]; rfl)
  have HW3 := hid (HW2.out.new (Only.alloc [] w3 Z))
  clear HW2 hZ hL50
  go_wp2_with (refine wpList_string_of rfl 54 9 (.tmp 50) rfl 5 Try.underlying54 Try.underlying5 Try.underlying9 w3.heap.size 50 L50 50 HL50.out rfl HROW.out ?_; rw [HT50.out])
  obtain ⟨w4, hw4⟩ : ∃ w4, w4 = w3.alloc Z := ⟨_, rfl⟩
  rw [← hw4] at HW3 ⊢
  clear hw4 hmk HROW
  go_at_call 18
  refine (Row_Add HW3.out 1 tA (by decide) (by decide)).mono ?_
  rintro e w5 ⟨rfl, tv1, hwent⟩
  rw [show addR (newS 8) rh0 1 tA = rhA from rfl] at hwent ⊢
  rw [head_e.1]
  have HW5 := hid hwent.rw
  clear hwent HW3
  go_wp2_with fail
  go_at_call 18
  refine (Row_Add HW5.out 2 t50 (by decide) (by rw [head_o.1]; decide)).mono ?_
  rintro e w6 ⟨rfl, tv2, hwent⟩
  rw [show addR rhA.s rhA.r 2 t50 = rhB from rfl] at hwent ⊢
  rw [head_e.2.1]
  have HW6 := hid hwent.rw
  clear hwent HW5
  go_wp2_with fail
  go_at_call 22
  refine (Row_Texts HW6.out.row).mono ?_
  rintro e w7 ⟨v, rfl, hown, ho⟩
  rw [head_B.1] at hown
  have HH7 := hid (HW6.out.hold ho hown)
  clear hown ho HW6
  go_wp2_with fail
  go_at_call 35
  refine (Row_End HH7.out.rw.row).mono ?_
  rintro e w8 ⟨rfl, rfl⟩
  rw [head_B.2.1]
  go_wp2_with fail
  go_at_call 36
  refine (Row_Room HH7.out.rw.row).mono ?_
  rintro e w9 ⟨rfl, ho⟩
  rw [head_B.2.1, head_B.2.2]
  have HH9 := hid (HH7.out.new ho)
  clear ho HH7
  go_wp2_with fail
  go_at_call 18
  refine (Row_Add HH9.out.rw 2 tB (by decide) (by rw [head_o.2.1]; decide)).mono ?_
  rintro e w10 ⟨rfl, tv3, hwent⟩
  rw [show addR rhB.s rhB.r 2 tB = rhC from rfl] at hwent ⊢
  rw [head_e.2.2.1]
  have HH10 := hid (HH9.out.went hwent)
  clear hwent HH9
  go_wp2_with fail
  go_at_call 18
  refine (Row_Add HH10.out.rw 3 t50 (by decide) (by rw [head_o.2.2.1]; decide)).mono ?_
  rintro e w11 ⟨rfl, tv4, hwent⟩
  rw [show addR rhC.s rhC.r 3 t50 = rhD from rfl] at hwent ⊢
  rw [head_e.2.2.2.1]
  have HH11 := hid (HH10.out.went hwent)
  clear hwent HH10
  go_wp2_with fail
  go_at_call 19
  refine (Row_Begin HH11.out.rw 9 tC (by decide) (by rw [head_o.2.2.2]; decide)).mono ?_
  rintro e w12 ⟨rfl, tv5, hwent⟩
  rw [show beginR rhD.s rhD.r 9 tC = rhE from rfl] at hwent ⊢
  rw [head_e.2.2.2.2]
  have HH12 := hid (HH11.out.went hwent)
  clear hwent HH11
  obtain ⟨Av, cv, hvv, hcv, hCv⟩ := own_C_str HH12.out.own
  subst hvv
  have HCV := hid (And.intro hcv hCv)
  clear hcv hCv
  go_wp2_with fail
  obtain ⟨K, hK⟩ : ∃ K, 10 ≤ K := ⟨10, Nat.le_refl _⟩
  have HS2 := hid (Same_f K [tA, t50] (by decide) (by show 2 < K; omega))
  have HS1 := hid (Same_f K [tC] (by decide) (by show 1 < K; omega))
  have hC2 := str_lit w12 [tA, t50] (by decide) (by decide)
  obtain ⟨w13, hw13⟩ : ∃ w13, w13 = w12.alloc (.cells (strV [tA, t50]).toArray 9) := ⟨_, rfl⟩
  have HH13 := hid (HH12.out.new (show Only [] w12 w13 by rw [hw13]; exact Only.alloc _ _ _))
  have hCV2 : Kd.C Kd.string w13 Av [tA, t50].length [tA, t50] := Kd.C_below HCV.out.2 ((show Only [] w12 w13 by rw [hw13]; exact Only.alloc _ _ _).below (Nat.le_refl _) (by simp))
  rw [← hw13] at hC2
  show Calls Try.prog 28 #[.slice Av [tA, t50].length cv, .slice (some ⟨w12.heap.size, 0, none⟩) [tA, t50].length 2] (w12.alloc (.cells (strV [tA, t50]).toArray 9)) _
  rw [← hw13]
  refine (quittanceref01_Same.calls K Av cv [tA, t50] (some ⟨w12.heap.size, 0, none⟩) 2 [tA, t50] true w13 hCV2 HCV.out.1 hC2 (Nat.le_refl _) HS2.out).mono ?_
  rintro e w14 ⟨rfl, hd⟩
  have HW14 := hid (HH13.out.rw.new (drawn_only hd []))
  clear hd hCV2 hC2 HH13 hw13 HH12 HCV hK
  go_wp2_with fail
  go_at_call 22
  refine (Row_Texts HW14.out.row).mono ?_
  rintro e w15 ⟨v2, rfl, hown, ho⟩
  rw [head_E.1] at hown
  have HW15 := hid (HW14.out.new ho)
  obtain ⟨A2, c2, hv2, hc2, hC2⟩ := own_C_str hown
  subst hv2
  have HCV := hid (And.intro hc2 hC2)
  clear hc2 hC2 hown ho HW14
  go_wp2_with fail
  have hC2 := str_lit w15 [tC] (by decide) (by decide)
  obtain ⟨w16, hw16⟩ : ∃ w16, w16 = w15.alloc (.cells (strV [tC]).toArray 9) := ⟨_, rfl⟩
  have HW16 := hid (HW15.out.new (show Only [] w15 w16 by rw [hw16]; exact Only.alloc _ _ _))
  have hCV2 : Kd.C Kd.string w16 A2 [tC].length [tC] := Kd.C_below HCV.out.2 ((show Only [] w15 w16 by rw [hw16]; exact Only.alloc _ _ _).below (Nat.le_refl _) (by simp))
  rw [← hw16] at hC2
  show Calls Try.prog 28 #[.slice A2 [tC].length c2, .slice (some ⟨w15.heap.size, 0, none⟩) [tC].length 1] (w15.alloc (.cells (strV [tC]).toArray 9)) _
  rw [← hw16]
  refine (quittanceref01_Same.calls K A2 c2 [tC] (some ⟨w15.heap.size, 0, none⟩) 1 [tC] true w16 hCV2 HCV.out.1 hC2 (Nat.le_refl _) HS1.out).mono ?_
  rintro e w17 ⟨rfl, hd⟩
  have HW17 := hid (HW16.out.new (drawn_only hd []))
  clear hd hCV2 hC2 HW16 hw16 HW15 HCV
  go_wp2_with fail
  go_at_call 27
  refine (Row_First HW17.out.row).mono ?_
  rintro e w18 ⟨rfl, rfl⟩
  rw [head_E.2.2.1]
  go_wp2_with fail
  go_at_call 23
  refine (Row_Top HW17.out.row).mono ?_
  rintro e w18 ⟨rfl, rfl⟩
  rw [head_E.2.2.2]
  go_wp2_with fail
  go_at_call 35
  refine (Row_End HW17.out.row).mono ?_
  rintro e w18 ⟨rfl, rfl⟩
  rw [head_E.2.1]
  go_wp2_with fail
  go_ret
  exact ⟨rfl, HW17.out.dr.below⟩
end Go.Proofs.Ythbbdilcclepoaa
