/- arith.MulDiv: its closure, whole, itself, at numbers that are not below 0. -/
import Derived.Test.YtmjohabfikpahaaVB
set_option maxRecDepth 1000000
set_option linter.unusedVariables false
set_option linter.unusedSimpArgs false
namespace Go.Proofs.Ytmjohabfikpahaa
open Go Go.Shelf Go.RowKit Go.Lib Go.Sort Go.Proofs
theorem Only.at {fp : List Nat} {w W : World} (h : Only fp w W) {g : Nat} {o : Obj} (hg : w.heap[g]? = some o) (hn : g ∉ fp) : W.heap[g]? = some o :=
  (h.block g (Array.getElem?_eq_some_iff.1 hg).1 hn).trans hg
theorem one_cell {w : World} {g T : Nat} {v : Value} (h : w.heap[g]? = some (.cells #[v] T (0, 0))) : w.cell? ⟨g, 0, none⟩ = some v ∧ w.frozen? ⟨g, 0, none⟩ = false :=
  ⟨by rw [cell_of_row w _ _ _ _ _ h]; rfl, frozen_of_row w _ _ _ _ h⟩
theorem set_one {w : World} {g T : Nat} {v x : Value} (h : w.heap[g]? = some (.cells #[v] T (0, 0))) : (w.setCell ⟨g, 0, none⟩ x).heap[g]? = some (.cells #[x] T (0, 0)) :=
  heap_setCell_same w g 0 #[v] T x h
theorem new_one (w : World) (o : Obj) : Only [] w (w.alloc o) ∧ (w.alloc o).heap[w.heap.size]? = some o ∧ (w.alloc o).heap.size = w.heap.size + 1 := ⟨Only.alloc _ _ _, heap_alloc_new w o, by simp⟩
set_option maxHeartbeats 2000000 in
theorem mulDiv1_calls (hi lo c C R : Nat) (x : Value) (w : World) (hc0 : 0 < c) (hcb : c < 4611686018427387904) (h1 : hi < c) (h2 : lo < 18446744073709551616) (hN : (hi * 18446744073709551616 + lo) / c < 9223372036854775808)
    (hC : w.heap[C]? = some (.cells #[.int .i64 c] 2 (0, 0))) (hR : w.heap[R]? = some (.cells #[x] 2 (0, 0))) (hne : C ≠ R) :
    Calls Try.prog 14 #[.agg #[.int .u64 hi, .int .u64 lo], .bool false, .pointer (some ⟨C, 0, none⟩), .pointer (some ⟨R, 0, none⟩)] w fun e w' => e = .returned (.tuple #[.int .i64 (((hi * 18446744073709551616 + lo) / c : Nat) : Int), .bool true]) ∧ Only [R] w w' ∧ w'.heap[R]? = some (.cells #[.int .i64 (((hi * 18446744073709551616 + lo) % c : Nat) : Int)] 2 (0, 0)) := by
  have hcl := fun w1 => Div64_calls hi lo c h1 h2 (by omega) w1
  have hrb : (hi * 18446744073709551616 + lo) % c < c := Nat.mod_lt _ hc0
  generalize (hi * 18446744073709551616 + lo) / c = q at hcl hN ⊢
  generalize (hi * 18446744073709551616 + lo) % c = r at hcl hrb ⊢
  have hsg := fun w1 => signed_calls q hN w1
  have eC : IntKind.u64.wrap (c : Int) = (c : Int) := by rw [IntKind.wrap_u64]; omega
  have er : IntKind.i64.wrap (r : Int) = (r : Int) := by rw [IntKind.wrap_i64]; omega
  have t1 : decide ((c : Int) ≤ (hi : Int)) = false := decide_eq_false (by omega)
  have t2 : decide ((9223372036854775808 : Int) < (q : Int)) = false := decide_eq_false (by omega)
  have e15 : ∀ args w, (callFunc 15 args).run Try.prog w = .ok (.enter 15 args) w := enters_of Try.func15 (by kernel_rfl) rfl
  have e16 : ∀ args w, (callFunc 16 args).run Try.prog w = .ok (.enter 16 args) w := enters_of Try.func16 (by kernel_rfl) rfl
  obtain ⟨b1, b2, b3⟩ := new_one w (.cells #[.int .u64 hi, .int .u64 lo] 41)
  have hCl : C < w.heap.size := (Array.getElem?_eq_some_iff.1 hC).1
  have hRl : R < w.heap.size := (Array.getElem?_eq_some_iff.1 hR).1
  have hC1 := Only.at b1 hC (by simp)
  have hR1 := Only.at b1 hR (by simp)
  obtain ⟨c1, c2⟩ := one_cell hC
  obtain ⟨c3, c4⟩ := one_cell hC1
  have HB : Aside (Only [] w (w.alloc (.cells #[.int .u64 hi, .int .u64 lo] 41))) := b1
  have HC1 : Aside _ := hC1
  have HR1 : Aside _ := hR1
  clear hC hR hC1 hR1 b1 b2 b3
  go_enter Try.func14, Try.ntmps14
  go_wp2_with fail
  go_at_call 15
  refine (hcl _).mono ?_
  rintro e w2 ⟨rfl, o2⟩
  have hC2 := Only.at o2 HC1.out (by simp)
  have hR2 := Only.at o2 HR1.out (by simp)
  have HO : Aside (Only [R] w w2) := (HB.out.trans o2 (fun _ h _ => h)).mono (by simp)
  obtain ⟨c5, c6⟩ := one_cell hC2
  obtain ⟨c7, c8⟩ := one_cell hR2
  have HR2 : Aside _ := hR2
  clear hcl c1 c2 c3 c4 o2 hC2 hR2 HB HC1 HR1
  go_wp2_with fail
  go_at_call 16
  refine (hsg _).mono ?_
  rintro e w3 ⟨rfl, h3⟩
  have h4 := h3.symm
  clear h3 hsg
  subst h4
  go_wp2_with fail
  go_ret2
  exact ⟨rfl, HO.out.trans (Only.setCell _ _ _ (by simp)) (fun _ h _ => h), set_one HR2.out⟩
theorem results_tct {fn : Func} {t p u : Tmp} {ty : TypeId} (h : fn.results = #[.tmp t, .cell p ty, .tmp u]) (tmps : Array Value) (P : Program) (w : World) :
    (results fn tmps).run P w = ((asAddr (tmps.getD p undef)).run P w).andThen fun a w₁ => ((loadVar ty a).run P w₁).andThen fun v w₂ => .ok (.tuple #[tmps.getD t undef, v, tmps.getD u undef]) w₂ := by
  simp only [results, h]
  simp [Sem.run_bind, Result.andThen]
theorem mul_parts (a b : Nat) : a * b / 18446744073709551616 * 18446744073709551616 + a * b % 18446744073709551616 = a * b := by
  have := Nat.div_add_mod (a * b) 18446744073709551616
  rw [Nat.mul_comm] at this
  exact this
set_option maxHeartbeats 2000000 in
theorem whole_calls (a b c C R : Nat) (x : Value) (w : World) (ha : a < 9223372036854775808) (hb : b < 9223372036854775808) (hc0 : 0 < c) (hcb : c < 4611686018427387904) (h1 : a * b / 18446744073709551616 < c) (hN : a * b / c < 9223372036854775808)
    (hC : w.heap[C]? = some (.cells #[.int .i64 c] 2 (0, 0))) (hR : w.heap[R]? = some (.cells #[x] 2 (0, 0))) (hne : C ≠ R) :
    Calls Try.prog 13 #[.int .i64 a, .int .i64 b, .func (.func 14) #[] #[.pointer (some ⟨C, 0, none⟩), .pointer (some ⟨R, 0, none⟩)]] w fun e w' => e = .returned (.tuple #[.int .i64 ((a * b / c : Nat) : Int), .bool true]) ∧ Only [R] w w' ∧ w'.heap[R]? = some (.cells #[.int .i64 ((a * b % c : Nat) : Int)] 2 (0, 0)) := by
  have hm := fun w1 hC1 hR1 => mulDiv1_calls (a * b / 18446744073709551616) (a * b % 18446744073709551616) c C R x w1 hc0 hcb h1 (Nat.mod_lt _ (by decide)) (by rw [mul_parts]; exact hN) hC1 hR1 hne
  rw [mul_parts] at hm
  have hp := fun w1 => product_calls a b (by omega) (by omega) w1
  have ho1 := of_calls a ha w
  have ho2 := fun w1 => of_calls b hb w1
  generalize ((a * b / 18446744073709551616 : Nat) : Int) = ph at hm hp
  generalize ((a * b % 18446744073709551616 : Nat) : Int) = pl at hm hp
  generalize ((a * b / c : Nat) : Int) = q at hm ⊢
  generalize ((a * b % c : Nat) : Int) = r at hm ⊢
  have e14 : ∀ args w, (callFunc 14 args).run Try.prog w = .ok (.enter 14 args) w := enters_of Try.func14 (by kernel_rfl) rfl
  have e20 : ∀ args w, (callFunc 20 args).run Try.prog w = .ok (.enter 20 args) w := enters_of Try.func20 (by kernel_rfl) rfl
  have e21 : ∀ args w, (callFunc 21 args).run Try.prog w = .ok (.enter 21 args) w := enters_of Try.func21 (by kernel_rfl) rfl
  have HC : Aside _ := hC
  have HR : Aside _ := hR
  clear hC hR h1 hN
  go_enter Try.func13, Try.ntmps13
  go_wp2_with fail
  go_at_call 20
  refine ho1.mono ?_
  rintro e w3 ⟨rfl, h3⟩
  have h4 := h3.symm
  clear h3 ho1
  subst h4
  go_wp2_with fail
  go_at_call 20
  refine (ho2 _).mono ?_
  rintro e w3 ⟨rfl, h3⟩
  have h4 := h3.symm
  clear h3 ho2
  subst h4
  go_wp2_with fail
  go_at_call 21
  refine (hp _).mono ?_
  rintro e w2 ⟨rfl, o2⟩
  have HO : Aside (Only [] w w2) := o2
  have hm2 := hm w2 (Only.at o2 HC.out (by simp)) (Only.at o2 HR.out (by simp))
  clear hp hm o2 HC HR
  go_wp2_with fail
  go_at_call 14
  refine hm2.mono ?_
  rintro e w3 ⟨rfl, o3, h3⟩
  have HF : Aside (Only [R] w w3 ∧ w3.heap[R]? = some (.cells #[.int .i64 r] 2 (0, 0))) := ⟨(HO.out.mono (by simp)).trans o3 (fun _ h _ => h), h3⟩
  clear hm2 o3 h3 HO
  go_wp2_with fail
  go_ret2
  exact ⟨rfl, HF.out⟩
set_option maxHeartbeats 2000000 in
theorem MulDiv_calls (a b c : Nat) (w : World) (ha : a < 4611686018427387904) (hb : b ≤ c) (hc0 : 0 < c) (hcb : c < 4611686018427387904) :
    Calls Try.prog 7 #[.int .i64 a, .int .i64 b, .int .i64 c] w fun e w' => e = .returned (.tuple #[.int .i64 ((a * b / c : Nat) : Int), .int .i64 ((a * b % c : Nat) : Int), .bool true]) ∧ Only [] w w' := by
  have hab : a * b ≤ a * c := Nat.mul_le_mul_left _ hb
  have hN : a * b / c ≤ a := by
    have := Nat.div_le_div_right (c := c) hab
    rwa [Nat.mul_div_cancel _ hc0] at this
  have h1 : a * b / 18446744073709551616 < c := by
    rw [Nat.div_lt_iff_lt_mul (by decide), Nat.mul_comm c]
    exact Nat.lt_of_le_of_lt hab (Nat.mul_lt_mul_of_pos_right (by omega) hc0)
  have hw := fun w1 C R hC hR hne => whole_calls a b c C R (.int .i64 0) w1 (by omega) (by omega) hc0 hcb h1 (by omega) hC hR hne
  generalize ((a * b / c : Nat) : Int) = q at hw ⊢
  generalize ((a * b % c : Nat) : Int) = r at hw ⊢
  have t1 : decide ((c : Int) ≤ 0) = false := decide_eq_false (by omega)
  have e13 : ∀ args w, (callFunc 13 args).run Try.prog w = .ok (.enter 13 args) w := enters_of Try.func13 (by kernel_rfl) rfl
  have hw2 := hw ((w.alloc (.cells #[.int .i64 c] 2)).alloc (.cells #[.int .i64 0] 2)) w.heap.size (w.heap.size + 1) (by rw [heap_alloc_old _ _ (by simp)]; exact heap_alloc_new w _) (by have h := heap_alloc_new (w.alloc (.cells #[.int .i64 (c : Int)] 2)) (.cells #[.int .i64 0] 2); simpa using h) (by omega)
  clear hw hab hN h1
  have mixed : Try.prog.follows Departure.mixedOrders = true := sh_try.mixed
  go_enter Try.func7, Try.ntmps7
  go_wp2_with fail
  go_at_call 13
  refine hw2.mono ?_
  rintro e w3 ⟨rfl, o3, h3⟩
  have HO : Aside (Only [] w w3) := ((Only.alloc [] w _).trans (Only.alloc _ _ _) (fun _ h _ => h)).trans o3 (fun k hk hl => by rw [List.mem_singleton] at hk; omega)
  have h3d : w3.drew.heap[w.heap.size + 1]? = some (.cells #[.int .i64 r] 2 (0, 0)) := h3
  have hs := set_one (x := .int .i64 r) h3d
  have HOd : Aside (Only [] w (w3.drew.setCell ⟨w.heap.size + 1, 0, none⟩ (.int .i64 r))) := (HO.out.trans (Only.drewN [] w3 1) (fun _ h _ => h)).trans (Only.setCell (fp := [w.heap.size + 1]) _ _ _ (by simp)) (fun k hk hl => by rw [List.mem_singleton] at hk; omega)
  obtain ⟨c1, c2⟩ := one_cell h3
  obtain ⟨c3, c4⟩ := one_cell h3d
  obtain ⟨c5, c6⟩ := one_cell hs
  clear hw2 o3 h3 h3d hs HO
  generalize w.heap.size + 1 = R at *
  go_wp2_with fail
  go_big_region_o
  all_goals go_wp2
  refine bodyPost_ret (v := .tuple #[.int .i64 q, .int .i64 r, .bool true]) ?_ rfl ⟨rfl, HOd.out⟩
  rw [results_tct Try.results7]
  have c7 : (w3.setCell ⟨R, 0, none⟩ (.int .i64 r)).drew.cell? ⟨R, 0, none⟩ = some (.int .i64 r) := c5
  clear HOd
  go_simp
end Go.Proofs.Ytmjohabfikpahaa
