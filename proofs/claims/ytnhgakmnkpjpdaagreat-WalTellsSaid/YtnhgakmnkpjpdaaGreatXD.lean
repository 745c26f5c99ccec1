import Derived.Test.YtnhgakmnkpjpdaaGreatXA
import Derived.Test.YtnhgakmnkpjpdaaGreatPZ
import Derived.Test.YtnhgakmnkpjpdaaGreatX7
/- The document's log: top, may, put. -/
set_option maxRecDepth 100000
set_option linter.unusedVariables false
set_option linter.unusedSimpArgs false
namespace Go.Proofs.YtnhgakmnkpjpdaaGreat
open Go Go.RowKit Go.Proofs.YtnhgakmnkpjpdaaGreat.Q Go.Proofs.YtnhgakmnkpjpdaaGreatW.PrintWords Go.Proofs.YtnhgakmnkpjpdaaGreatW.PrintLast Go.Proofs.YtnhgakmnkpjpdaaGreatW.PrintMore
attribute [local go_sem] Oper.semAt_some max2_int min2_int max_two min_two max_three min_three max_four min_four
theorem rput_len {l : List ByteArray} {a n : Nat} {S : ByteArray} (ha : a ≤ l.length) : (Pure.rput l a n S).1.length = l.length := by
 unfold Pure.rput
 split
 ·
  rfl
 ·
  split
  ·
   rfl
  ·
   rename_i c
   show (Pure.splice l a _).length = _
   unfold Pure.splice
   rw [List.length_append, List.length_append, List.length_take, List.length_drop, Pure.sheafL_len]; omega
theorem StrAt.slice {w : World} {B : List Nat} {v : Value} {t : List ByteArray} (h : StrAt w B v t) : ∃ A n c, v = .slice A n c := by
 obtain ⟨A, c, e, -⟩ := h
 exact ⟨A, _, c, e⟩
theorem alloc_size (w : World) (o : Obj) : (w.alloc o).heap.size = w.heap.size + 1 := Array.size_push ..
def nilBox : Obj := lgBox (.slice none 0 0) (.slice none 0 0)
theorem two_cells {w w2 : World} {va vb : Value} (h : Only [] ((w.alloc (lgBox va vb)).alloc nilBox) w2) :
  w2.cell? ⟨w.heap.size, 0, none⟩ = some va ∧ w2.cell? ⟨w.heap.size, 1, none⟩ = some vb ∧ (∀ j, w2.frozen? ⟨w.heap.size, j, none⟩ = false) ∧
  w2.heap[w.heap.size + 1]? = some nilBox ∧ w2.cell? ⟨w.heap.size + 1, 0, none⟩ = some (.slice none 0 0) ∧ w2.cell? ⟨w.heap.size + 1, 1, none⟩ = some (.slice none 0 0) ∧ (∀ j, w2.frozen? ⟨w.heap.size + 1, j, none⟩ = false) ∧ Only [] w w2 := by
 have h1 : Only [] (w.alloc (lgBox va vb)) w2 := (Only.alloc [] _ _).trans h (fun _ h _ => h)
 obtain ⟨a1, a2, a3⟩ := box_cells h1
 have hb : w2.heap[w.heap.size + 1]? = some nilBox := by
  have e := alloc_size w (lgBox va vb)
  rw [h.block (w.heap.size + 1) (by rw [alloc_size, e]; omega) (by simp), ← e]
  exact heap_alloc_new _ _
 exact ⟨a1, a2, a3, hb, cell_of_row _ _ _ _ _ _ hb, cell_of_row _ _ _ _ _ _ hb, fun j => frozen_of_row _ _ _ _ _ hb, (Only.alloc [] w _).trans h1 (fun _ h _ => h)⟩
/-- The result's cells are written. -/
theorem wrote_two {w w2 : World} {va vb : Value} (h : Only [] ((w.alloc (lgBox va vb)).alloc nilBox) w2) (x y : Value) :
  ((w2.setCell ⟨w.heap.size + 1, 0, none⟩ x).setCell ⟨w.heap.size + 1, 1, none⟩ y).heap[w.heap.size + 1]? = some (.cells #[x, y] 34 (0, 0)) ∧ Only [] w ((w2.setCell ⟨w.heap.size + 1, 0, none⟩ x).setCell ⟨w.heap.size + 1, 1, none⟩ y) ∧ Only [w.heap.size + 1] w2 ((w2.setCell ⟨w.heap.size + 1, 0, none⟩ x).setCell ⟨w.heap.size + 1, 1, none⟩ y) := by
 have h0 := (two_cells h).2.2.2.2.2.2.2
 have h1 : Only [w.heap.size + 1] w2 ((w2.setCell ⟨w.heap.size + 1, 0, none⟩ x).setCell ⟨w.heap.size + 1, 1, none⟩ y) :=
  (Only.setCell (fp := [w.heap.size + 1]) w2 ⟨w.heap.size + 1, 0, none⟩ x (by simp)).trans (Only.setCell (fp := [w.heap.size + 1]) _ ⟨w.heap.size + 1, 1, none⟩ y (by simp)) (fun _ h _ => h)
 refine ⟨?_, h0.on h1 (fun k hk => by rw [List.mem_singleton.1 hk]; omega), h1⟩
 have hb := (two_cells h).2.2.2.1
 exact set_heap _ _ 1 _ _ _ (set_heap _ _ 0 _ _ _ hb)
section
variable {w : World} {B : List Nat} {va vb : Value} {a b : List ByteArray}
theorem LogAt.mono {B2 : List Nat} (h : LogAt w B va vb a b) (hB : ∀ k ∈ B, k ∈ B2) (hl : ∀ k ∈ B2, k < w.heap.size) : LogAt w B2 va vb a b := ⟨h.sa.mono hB, h.sb.mono hB, h.la, h.lb, hl⟩
theorem top_D (h : LogAt w B va vb a b) : Calls Tryz.prog 59 #[.agg #[va, vb]] w fun e w' => e = .returned (.int .u64 ((Pure.topD a b : Nat) : Int)) ∧ Only [] w w' := by
 obtain ⟨A1, c1, rfl, h1, C1⟩ := h.sa.C
 obtain ⟨A2, c2, rfl, h2, C2⟩ := h.sb.C
 refine (quittanceref06_top.calls 20000 A1 c1 a A2 c2 b _ w C1 h1 C2 h2 (Pure.top_f 20000 a b h.la h.lb (by decide))).mono ?_
 rintro e w2 ⟨rfl, hb⟩
 exact ⟨rfl, Only.of_below hb⟩
theorem may_D (h : LogAt w B va vb a b) {BX : List Nat} {vx : Value} {x : List ByteArray} (hx : StrAt w BX vx x) (hf : Pure.fine x) :
  Calls Tryz.prog 32 #[.agg #[va, vb], vx] w fun e w' => e = .returned (.int .i64 (if 9223372036854775807 ≤ Pure.topD a b then 6 else 0)) ∧ Only [] w w' := by
 obtain ⟨A1, c1, rfl, h1, C1⟩ := h.sa.C
 obtain ⟨A2, c2, rfl, h2, C2⟩ := h.sb.C
 obtain ⟨A3, c3, rfl, h3, C3⟩ := hx.C
 refine (quittanceref06_may.calls 20000 A1 c1 a A2 c2 b A3 c3 x _ w C1 h1 C2 h2 C3 h3 (Pure.may_f 20000 x hf a b h.la h.lb (by decide))).mono ?_
 rintro e w2 ⟨rfl, hb⟩
 exact ⟨rfl, Only.of_below hb⟩
theorem row_D {BX : List Nat} {vx : Value} {x : List ByteArray} (hx : StrAt w BX vx x) (hf : Pure.fine x) :
  Calls Tryz.prog 49 #[vx] w fun e w' => e = .returned (.string (Go.Proofs.YtnhgakmnkpjpdaaGreat.B (rowL x))) ∧ Only [] w w' := by
 obtain ⟨A3, c3, rfl, h3, C3⟩ := hx.C
 refine (quittanceref01_Row.calls 20000 A3 c3 x _ w C3 h3 (Pure.RRow_f 20000 x hf (by have := hf.1; omega))).mono ?_
 rintro e w2 ⟨rfl, hb⟩
 exact ⟨rfl, Only.of_below hb⟩
set_option maxHeartbeats 8000000 in
theorem put_D_t0 (h : LogAt w B va vb a b) (h0 : 0 < b.length) {BX : List Nat} {vx : Value} {x : List ByteArray} (hx : StrAt w BX vx x) (hf : Pure.fine x) (p : Nat) (hp : p ≤ b.length) (ht : Pure.topD a b < 9223372036854775807) {e2 : Int} {l2 : List ByteArray}
  (hr : Pure.rput b p (Pure.topD a b + 1) (Go.Proofs.YtnhgakmnkpjpdaaGreat.B (rowL x)) = (l2, e2)) (hz : e2 = 0) :
  Calls Tryz.prog 35 #[.agg #[va, vb], .bool true, .int .i64 (p : Int), vx] w fun e w' => ∃ va2 vb2 B2, e = .returned (.tuple #[.agg #[va2, vb2], .int .i64 0]) ∧
   LogAt w' B2 va2 vb2 (a, l2).1 (a, l2).2 ∧ (∀ k ∈ B2, k ∈ B ∨ (w.heap.size ≤ k ∧ k < w'.heap.size)) ∧ Only [] w w' := by
 obtain ⟨aA, an, ac, hva⟩ := h.sa.slice
 obtain ⟨bA, bn, bc, hvb⟩ := h.sb.slice
 subst hva
 subst hvb
 have H64 := hid (fun w2 (ho : Only [] w w2) => top_D (h.new ho))
 have H63 := hid (fun w2 (ho : Only [] w w2) => row_D (hx.kept ho (by simp)) hf)
 obtain ⟨S, hS⟩ : ∃ S, S = Go.Proofs.YtnhgakmnkpjpdaaGreat.B (rowL x) := ⟨_, rfl⟩
 have hsz : S.size ≤ 4200 := by rw [hS]; exact Pure.rowL_size x hf
 rw [← hS] at H63 hr
 clear hS
 obtain ⟨tp, htp⟩ : ∃ tp : Nat, Pure.topD a b = tp := ⟨_, rfl⟩
 rw [htp] at H64 ht hr
 have HLG := hid h
 have ew : IntKind.u64.wrap ((tp : Int) + 1) = ((tp + 1 : Nat) : Int) := by rw [IntKind.wrap_u64]; omega
 have e64 : ∀ args w, (callFunc 59 args).run Tryz.prog w = .ok (.enter 59 args) w := enters_of Tryz.func59 (by kernel_rfl) rfl
 have e63 : ∀ args w, (callFunc 49 args).run Tryz.prog w = .ok (.enter 49 args) w := enters_of Tryz.func49 (by kernel_rfl) rfl
 have e65 : ∀ args w, (callFunc 61 args).run Tryz.prog w = .ok (.enter 61 args) w := enters_of Tryz.func61 (by kernel_rfl) rfl
 have H65 := hid (fun w2 (ho : Only [] w w2) => Put5_D (h.sb.kept ho (by simp)) h.lb h0 p (tp + 1) S hp (by omega) hsz)
 have HLEN := hid (rput_len (n := tp + 1) (S := S) hp)
 rw [hr] at H65 HLEN
 clear h hx htp hr hp h0 hsz
 obtain ⟨st, hst⟩ : ∃ st, st = tp + 1 := ⟨_, rfl⟩
 rw [← hst] at ew H65
 clear hst
 subst hz
 go_enter Tryz.func35, Tryz.ntmps35
 go_wp2_with fail
 have ho1 : Only [] w ((w.alloc (lgBox (.slice aA an ac) (.slice bA bn bc))).alloc nilBox) := (two_cells (Only.refl [] _)).2.2.2.2.2.2.2
 go_at_call 59
 refine (H64.out _ ho1).mono ?_
 rintro e w2 ⟨rfl, ho2⟩
 have HO2 := hid (show Only [] ((w.alloc (lgBox (.slice aA an ac) (.slice bA bn bc))).alloc nilBox) w2 from ho2)
 have hn2 := ho1.trans ho2 (fun _ h _ => h)
 clear ho2 ho1
 go_wp2_with fail
 go_at_call 49
 refine (H63.out _ hn2).mono ?_
 rintro e w3 ⟨rfl, ho3⟩
 have HO3 := hid (HO2.out.trans ho3 (fun _ h _ => h))
 have hn3 := hn2.trans ho3 (fun _ h _ => h)
 clear ho3 hn2 HO2
 go_wp2_with fail
 go_at_call 61
 refine (H65.out _ hn3).mono ?_
 rintro e w5 ⟨v5, B5, rfl, hs5, hB5, ho5⟩
 obtain ⟨cA, cn, cc, hv5⟩ := hs5.slice
 subst hv5
 have HO5 := hid (HO3.out.trans ho5 (fun _ h _ => h))
 have HS5 := hid hs5
 obtain ⟨b0, b1, bf, hres, r0, r1, rf, -⟩ := two_cells HO5.out
 have bf0 := bf 0
 have bf1 := bf 1
 have rf0 := rf 0
 have rf1 := rf 1
 have hsz3 := hn3.size
 have hs35 := ho5.size
 have HB5 : Hid (∀ k ∈ B5, (k ∈ B ∨ w.heap.size + 1 < k) ∧ k < w5.heap.size) := fun k hk => by
  have hz3 : w.heap.size + 2 ≤ w3.heap.size := by
   have := HO3.out.size
   rw [alloc_size, alloc_size] at this
   omega
  rcases hB5 k hk with e | e
  ·
   have := HLG.out.lt k e
   exact ⟨.inl e, by omega⟩
  ·
   exact ⟨.inr (by omega), e.2⟩
 have HN5 := hid (hn3.trans ho5 (fun _ h _ => h))
 clear bf rf hres ho5 hs5 hB5 hn3 HO3 H63 H64 H65
 go_wp2_with fail
 have HW := hid (wrote_two HO5.out (.slice aA an ac) (.slice cA cn cc))
 have HSL := hid (HS5.out.kept HW.out.2.2 (fun k hk => by
  have h1 := (HB5.out k hk).1
  rw [List.mem_singleton]
  rcases h1 with e | e
  ·
   have := HLG.out.lt k e; omega
  ·
   omega))
 have HLG2 := hid (HLG.out.new HW.out.2.1)
 refine bodyPost_ret (results_ct rfl _ _ (w.heap.size + 1) 34 #[.slice aA an ac, .slice cA cn cc] (0, 0) _ rfl HW.out.1 Tryz.underlying34 rfl (by kernel_rfl)) rfl ?_
 refine ⟨_, _, B5 ++ B, rfl, ⟨HLG2.out.sa.mono (fun k hk => List.mem_append_right _ hk), HSL.out.mono (fun k hk => List.mem_append_left _ hk), HLG.out.la, by rw [HLEN.out]; exact HLG.out.lb, fun k hk => ?_⟩, fun k hk => ?_, HW.out.2.1⟩
 ·
  rcases List.mem_append.1 hk with e | e
  ·
   exact Nat.lt_of_lt_of_le (HB5.out k e).2 HW.out.2.2.size
  ·
   exact HLG2.out.lt k e
 ·
  rcases List.mem_append.1 hk with e | e
  ·
   rcases (HB5.out k e).1 with e2 | e2
   ·
    exact .inl e2
   ·
    exact .inr ⟨by omega, Nat.lt_of_lt_of_le (HB5.out k e).2 HW.out.2.2.size⟩
  ·
   exact .inl e
set_option maxHeartbeats 8000000 in
theorem put_D_te (h : LogAt w B va vb a b) (h0 : 0 < b.length) {BX : List Nat} {vx : Value} {x : List ByteArray} (hx : StrAt w BX vx x) (hf : Pure.fine x) (p : Nat) (hp : p ≤ b.length) (ht : Pure.topD a b < 9223372036854775807) {e2 : Int} {l2 : List ByteArray}
  (hr : Pure.rput b p (Pure.topD a b + 1) (Go.Proofs.YtnhgakmnkpjpdaaGreat.B (rowL x)) = (l2, e2)) (hz : e2 ≠ 0) :
  Calls Tryz.prog 35 #[.agg #[va, vb], .bool true, .int .i64 (p : Int), vx] w fun e w' => ∃ va2 vb2 B2, e = .returned (.tuple #[.agg #[va2, vb2], .int .i64 e2]) ∧
   LogAt w' B2 va2 vb2 (a, b).1 (a, b).2 ∧ (∀ k ∈ B2, k ∈ B ∨ (w.heap.size ≤ k ∧ k < w'.heap.size)) ∧ Only [] w w' := by
 obtain ⟨aA, an, ac, hva⟩ := h.sa.slice
 obtain ⟨bA, bn, bc, hvb⟩ := h.sb.slice
 subst hva
 subst hvb
 have H64 := hid (fun w2 (ho : Only [] w w2) => top_D (h.new ho))
 have H63 := hid (fun w2 (ho : Only [] w w2) => row_D (hx.kept ho (by simp)) hf)
 obtain ⟨S, hS⟩ : ∃ S, S = Go.Proofs.YtnhgakmnkpjpdaaGreat.B (rowL x) := ⟨_, rfl⟩
 have hsz : S.size ≤ 4200 := by rw [hS]; exact Pure.rowL_size x hf
 rw [← hS] at H63 hr
 clear hS
 obtain ⟨tp, htp⟩ : ∃ tp : Nat, Pure.topD a b = tp := ⟨_, rfl⟩
 rw [htp] at H64 ht hr
 have HLG := hid h
 have ew : IntKind.u64.wrap ((tp : Int) + 1) = ((tp + 1 : Nat) : Int) := by rw [IntKind.wrap_u64]; omega
 have e64 : ∀ args w, (callFunc 59 args).run Tryz.prog w = .ok (.enter 59 args) w := enters_of Tryz.func59 (by kernel_rfl) rfl
 have e63 : ∀ args w, (callFunc 49 args).run Tryz.prog w = .ok (.enter 49 args) w := enters_of Tryz.func49 (by kernel_rfl) rfl
 have e65 : ∀ args w, (callFunc 61 args).run Tryz.prog w = .ok (.enter 61 args) w := enters_of Tryz.func61 (by kernel_rfl) rfl
 have H65 := hid (fun w2 (ho : Only [] w w2) => Put5_D (h.sb.kept ho (by simp)) h.lb h0 p (tp + 1) S hp (by omega) hsz)
 have HLEN := hid (rput_len (n := tp + 1) (S := S) hp)
 rw [hr] at H65 HLEN
 clear h hx htp hr hp h0 hsz
 obtain ⟨st, hst⟩ : ∃ st, st = tp + 1 := ⟨_, rfl⟩
 rw [← hst] at ew H65
 clear hst
 have qz : (!(e2 == 0)) = true := by simp [hz]
 go_enter Tryz.func35, Tryz.ntmps35
 go_wp2_with fail
 have ho1 : Only [] w ((w.alloc (lgBox (.slice aA an ac) (.slice bA bn bc))).alloc nilBox) := (two_cells (Only.refl [] _)).2.2.2.2.2.2.2
 go_at_call 59
 refine (H64.out _ ho1).mono ?_
 rintro e w2 ⟨rfl, ho2⟩
 have HO2 := hid (show Only [] ((w.alloc (lgBox (.slice aA an ac) (.slice bA bn bc))).alloc nilBox) w2 from ho2)
 have hn2 := ho1.trans ho2 (fun _ h _ => h)
 clear ho2 ho1
 go_wp2_with fail
 go_at_call 49
 refine (H63.out _ hn2).mono ?_
 rintro e w3 ⟨rfl, ho3⟩
 have HO3 := hid (HO2.out.trans ho3 (fun _ h _ => h))
 have hn3 := hn2.trans ho3 (fun _ h _ => h)
 clear ho3 hn2 HO2
 go_wp2_with fail
 go_at_call 61
 refine (H65.out _ hn3).mono ?_
 rintro e w5 ⟨v5, B5, rfl, hs5, hB5, ho5⟩
 obtain ⟨cA, cn, cc, hv5⟩ := hs5.slice
 subst hv5
 have HO5 := hid (HO3.out.trans ho5 (fun _ h _ => h))
 have HS5 := hid hs5
 obtain ⟨b0, b1, bf, hres, r0, r1, rf, -⟩ := two_cells HO5.out
 have bf0 := bf 0
 have bf1 := bf 1
 have rf0 := rf 0
 have rf1 := rf 1
 have hsz3 := hn3.size
 have hs35 := ho5.size
 have HB5 : Hid (∀ k ∈ B5, (k ∈ B ∨ w.heap.size + 1 < k) ∧ k < w5.heap.size) := fun k hk => by
  have hz3 : w.heap.size + 2 ≤ w3.heap.size := by
   have := HO3.out.size
   rw [alloc_size, alloc_size] at this
   omega
  rcases hB5 k hk with e | e
  ·
   have := HLG.out.lt k e
   exact ⟨.inl e, by omega⟩
  ·
   exact ⟨.inr (by omega), e.2⟩
 have HN5 := hid (hn3.trans ho5 (fun _ h _ => h))
 clear bf rf hres ho5 hs5 hB5 hn3 HO3 H63 H64 H65
 go_wp2_with fail
 have HW := hid (wrote_two HO5.out (.slice aA an ac) (.slice bA bn bc))
 have HLG2 := hid (HLG.out.new HW.out.2.1)
 refine bodyPost_ret (results_ct rfl _ _ (w.heap.size + 1) 34 #[.slice aA an ac, .slice bA bn bc] (0, 0) _ rfl HW.out.1 Tryz.underlying34 rfl (by kernel_rfl)) rfl ?_
 exact ⟨_, _, B, rfl, HLG2.out, fun k hk => .inl hk, HW.out.2.1⟩
set_option maxHeartbeats 8000000 in
theorem put_D_f0 (h : LogAt w B va vb a b) (h0 : 0 < a.length) {BX : List Nat} {vx : Value} {x : List ByteArray} (hx : StrAt w BX vx x) (hf : Pure.fine x) (p : Nat) (hp : p ≤ a.length) (ht : Pure.topD a b < 9223372036854775807) {e2 : Int} {l2 : List ByteArray}
  (hr : Pure.rput a p (Pure.topD a b + 1) (Go.Proofs.YtnhgakmnkpjpdaaGreat.B (rowL x)) = (l2, e2)) (hz : e2 = 0) :
  Calls Tryz.prog 35 #[.agg #[va, vb], .bool false, .int .i64 (p : Int), vx] w fun e w' => ∃ va2 vb2 B2, e = .returned (.tuple #[.agg #[va2, vb2], .int .i64 0]) ∧
   LogAt w' B2 va2 vb2 (l2, b).1 (l2, b).2 ∧ (∀ k ∈ B2, k ∈ B ∨ (w.heap.size ≤ k ∧ k < w'.heap.size)) ∧ Only [] w w' := by
 obtain ⟨aA, an, ac, hva⟩ := h.sa.slice
 obtain ⟨bA, bn, bc, hvb⟩ := h.sb.slice
 subst hva
 subst hvb
 have H64 := hid (fun w2 (ho : Only [] w w2) => top_D (h.new ho))
 have H63 := hid (fun w2 (ho : Only [] w w2) => row_D (hx.kept ho (by simp)) hf)
 obtain ⟨S, hS⟩ : ∃ S, S = Go.Proofs.YtnhgakmnkpjpdaaGreat.B (rowL x) := ⟨_, rfl⟩
 have hsz : S.size ≤ 4200 := by rw [hS]; exact Pure.rowL_size x hf
 rw [← hS] at H63 hr
 clear hS
 obtain ⟨tp, htp⟩ : ∃ tp : Nat, Pure.topD a b = tp := ⟨_, rfl⟩
 rw [htp] at H64 ht hr
 have HLG := hid h
 have ew : IntKind.u64.wrap ((tp : Int) + 1) = ((tp + 1 : Nat) : Int) := by rw [IntKind.wrap_u64]; omega
 have e64 : ∀ args w, (callFunc 59 args).run Tryz.prog w = .ok (.enter 59 args) w := enters_of Tryz.func59 (by kernel_rfl) rfl
 have e63 : ∀ args w, (callFunc 49 args).run Tryz.prog w = .ok (.enter 49 args) w := enters_of Tryz.func49 (by kernel_rfl) rfl
 have e65 : ∀ args w, (callFunc 61 args).run Tryz.prog w = .ok (.enter 61 args) w := enters_of Tryz.func61 (by kernel_rfl) rfl
 have H65 := hid (fun w2 (ho : Only [] w w2) => Put5_D (h.sa.kept ho (by simp)) h.la h0 p (tp + 1) S hp (by omega) hsz)
 have HLEN := hid (rput_len (n := tp + 1) (S := S) hp)
 rw [hr] at H65 HLEN
 clear h hx htp hr hp h0 hsz
 obtain ⟨st, hst⟩ : ∃ st, st = tp + 1 := ⟨_, rfl⟩
 rw [← hst] at ew H65
 clear hst
 subst hz
 go_enter Tryz.func35, Tryz.ntmps35
 go_wp2_with fail
 have ho1 : Only [] w ((w.alloc (lgBox (.slice aA an ac) (.slice bA bn bc))).alloc nilBox) := (two_cells (Only.refl [] _)).2.2.2.2.2.2.2
 go_at_call 59
 refine (H64.out _ ho1).mono ?_
 rintro e w2 ⟨rfl, ho2⟩
 have HO2 := hid (show Only [] ((w.alloc (lgBox (.slice aA an ac) (.slice bA bn bc))).alloc nilBox) w2 from ho2)
 have hn2 := ho1.trans ho2 (fun _ h _ => h)
 clear ho2 ho1
 go_wp2_with fail
 go_at_call 49
 refine (H63.out _ hn2).mono ?_
 rintro e w3 ⟨rfl, ho3⟩
 have HO3 := hid (HO2.out.trans ho3 (fun _ h _ => h))
 have hn3 := hn2.trans ho3 (fun _ h _ => h)
 clear ho3 hn2 HO2
 go_wp2_with fail
 go_at_call 61
 refine (H65.out _ hn3).mono ?_
 rintro e w5 ⟨v5, B5, rfl, hs5, hB5, ho5⟩
 obtain ⟨cA, cn, cc, hv5⟩ := hs5.slice
 subst hv5
 have HO5 := hid (HO3.out.trans ho5 (fun _ h _ => h))
 have HS5 := hid hs5
 obtain ⟨b0, b1, bf, hres, r0, r1, rf, -⟩ := two_cells HO5.out
 have bf0 := bf 0
 have bf1 := bf 1
 have rf0 := rf 0
 have rf1 := rf 1
 have hsz3 := hn3.size
 have hs35 := ho5.size
 have HB5 : Hid (∀ k ∈ B5, (k ∈ B ∨ w.heap.size + 1 < k) ∧ k < w5.heap.size) := fun k hk => by
  have hz3 : w.heap.size + 2 ≤ w3.heap.size := by
   have := HO3.out.size
   rw [alloc_size, alloc_size] at this
   omega
  rcases hB5 k hk with e | e
  ·
   have := HLG.out.lt k e
   exact ⟨.inl e, by omega⟩
  ·
   exact ⟨.inr (by omega), e.2⟩
 have HN5 := hid (hn3.trans ho5 (fun _ h _ => h))
 clear bf rf hres ho5 hs5 hB5 hn3 HO3 H63 H64 H65
 go_wp2_with fail
 have HW := hid (wrote_two HO5.out (.slice cA cn cc) (.slice bA bn bc))
 have HSL := hid (HS5.out.kept HW.out.2.2 (fun k hk => by
  have h1 := (HB5.out k hk).1
  rw [List.mem_singleton]
  rcases h1 with e | e
  ·
   have := HLG.out.lt k e; omega
  ·
   omega))
 have HLG2 := hid (HLG.out.new HW.out.2.1)
 refine bodyPost_ret (results_ct rfl _ _ (w.heap.size + 1) 34 #[.slice cA cn cc, .slice bA bn bc] (0, 0) _ rfl HW.out.1 Tryz.underlying34 rfl (by kernel_rfl)) rfl ?_
 refine ⟨_, _, B5 ++ B, rfl, ⟨HSL.out.mono (fun k hk => List.mem_append_left _ hk), HLG2.out.sb.mono (fun k hk => List.mem_append_right _ hk), by rw [HLEN.out]; exact HLG.out.la, HLG.out.lb, fun k hk => ?_⟩, fun k hk => ?_, HW.out.2.1⟩
 ·
  rcases List.mem_append.1 hk with e | e
  ·
   exact Nat.lt_of_lt_of_le (HB5.out k e).2 HW.out.2.2.size
  ·
   exact HLG2.out.lt k e
 ·
  rcases List.mem_append.1 hk with e | e
  ·
   rcases (HB5.out k e).1 with e2 | e2
   ·
    exact .inl e2
   ·
    exact .inr ⟨by omega, Nat.lt_of_lt_of_le (HB5.out k e).2 HW.out.2.2.size⟩
  ·
   exact .inl e
set_option maxHeartbeats 8000000 in
theorem put_D_fe (h : LogAt w B va vb a b) (h0 : 0 < a.length) {BX : List Nat} {vx : Value} {x : List ByteArray} (hx : StrAt w BX vx x) (hf : Pure.fine x) (p : Nat) (hp : p ≤ a.length) (ht : Pure.topD a b < 9223372036854775807) {e2 : Int} {l2 : List ByteArray}
  (hr : Pure.rput a p (Pure.topD a b + 1) (Go.Proofs.YtnhgakmnkpjpdaaGreat.B (rowL x)) = (l2, e2)) (hz : e2 ≠ 0) :
  Calls Tryz.prog 35 #[.agg #[va, vb], .bool false, .int .i64 (p : Int), vx] w fun e w' => ∃ va2 vb2 B2, e = .returned (.tuple #[.agg #[va2, vb2], .int .i64 e2]) ∧
   LogAt w' B2 va2 vb2 (a, b).1 (a, b).2 ∧ (∀ k ∈ B2, k ∈ B ∨ (w.heap.size ≤ k ∧ k < w'.heap.size)) ∧ Only [] w w' := by
 obtain ⟨aA, an, ac, hva⟩ := h.sa.slice
 obtain ⟨bA, bn, bc, hvb⟩ := h.sb.slice
 subst hva
 subst hvb
 have H64 := hid (fun w2 (ho : Only [] w w2) => top_D (h.new ho))
 have H63 := hid (fun w2 (ho : Only [] w w2) => row_D (hx.kept ho (by simp)) hf)
 obtain ⟨S, hS⟩ : ∃ S, S = Go.Proofs.YtnhgakmnkpjpdaaGreat.B (rowL x) := ⟨_, rfl⟩
 have hsz : S.size ≤ 4200 := by rw [hS]; exact Pure.rowL_size x hf
 rw [← hS] at H63 hr
 clear hS
 obtain ⟨tp, htp⟩ : ∃ tp : Nat, Pure.topD a b = tp := ⟨_, rfl⟩
 rw [htp] at H64 ht hr
 have HLG := hid h
 have ew : IntKind.u64.wrap ((tp : Int) + 1) = ((tp + 1 : Nat) : Int) := by rw [IntKind.wrap_u64]; omega
 have e64 : ∀ args w, (callFunc 59 args).run Tryz.prog w = .ok (.enter 59 args) w := enters_of Tryz.func59 (by kernel_rfl) rfl
 have e63 : ∀ args w, (callFunc 49 args).run Tryz.prog w = .ok (.enter 49 args) w := enters_of Tryz.func49 (by kernel_rfl) rfl
 have e65 : ∀ args w, (callFunc 61 args).run Tryz.prog w = .ok (.enter 61 args) w := enters_of Tryz.func61 (by kernel_rfl) rfl
 have H65 := hid (fun w2 (ho : Only [] w w2) => Put5_D (h.sa.kept ho (by simp)) h.la h0 p (tp + 1) S hp (by omega) hsz)
 have HLEN := hid (rput_len (n := tp + 1) (S := S) hp)
 rw [hr] at H65 HLEN
 clear h hx htp hr hp h0 hsz
 obtain ⟨st, hst⟩ : ∃ st, st = tp + 1 := ⟨_, rfl⟩
 rw [← hst] at ew H65
 clear hst
 have qz : (!(e2 == 0)) = true := by simp [hz]
 go_enter Tryz.func35, Tryz.ntmps35
 go_wp2_with fail
 have ho1 : Only [] w ((w.alloc (lgBox (.slice aA an ac) (.slice bA bn bc))).alloc nilBox) := (two_cells (Only.refl [] _)).2.2.2.2.2.2.2
 go_at_call 59
 refine (H64.out _ ho1).mono ?_
 rintro e w2 ⟨rfl, ho2⟩
 have HO2 := hid (show Only [] ((w.alloc (lgBox (.slice aA an ac) (.slice bA bn bc))).alloc nilBox) w2 from ho2)
 have hn2 := ho1.trans ho2 (fun _ h _ => h)
 clear ho2 ho1
 go_wp2_with fail
 go_at_call 49
 refine (H63.out _ hn2).mono ?_
 rintro e w3 ⟨rfl, ho3⟩
 have HO3 := hid (HO2.out.trans ho3 (fun _ h _ => h))
 have hn3 := hn2.trans ho3 (fun _ h _ => h)
 clear ho3 hn2 HO2
 go_wp2_with fail
 go_at_call 61
 refine (H65.out _ hn3).mono ?_
 rintro e w5 ⟨v5, B5, rfl, hs5, hB5, ho5⟩
 obtain ⟨cA, cn, cc, hv5⟩ := hs5.slice
 subst hv5
 have HO5 := hid (HO3.out.trans ho5 (fun _ h _ => h))
 have HS5 := hid hs5
 obtain ⟨b0, b1, bf, hres, r0, r1, rf, -⟩ := two_cells HO5.out
 have bf0 := bf 0
 have bf1 := bf 1
 have rf0 := rf 0
 have rf1 := rf 1
 have hsz3 := hn3.size
 have hs35 := ho5.size
 have HB5 : Hid (∀ k ∈ B5, (k ∈ B ∨ w.heap.size + 1 < k) ∧ k < w5.heap.size) := fun k hk => by
  have hz3 : w.heap.size + 2 ≤ w3.heap.size := by
   have := HO3.out.size
   rw [alloc_size, alloc_size] at this
   omega
  rcases hB5 k hk with e | e
  ·
   have := HLG.out.lt k e
   exact ⟨.inl e, by omega⟩
  ·
   exact ⟨.inr (by omega), e.2⟩
 have HN5 := hid (hn3.trans ho5 (fun _ h _ => h))
 clear bf rf hres ho5 hs5 hB5 hn3 HO3 H63 H64 H65
 go_wp2_with fail
 have HW := hid (wrote_two HO5.out (.slice aA an ac) (.slice bA bn bc))
 have HLG2 := hid (HLG.out.new HW.out.2.1)
 refine bodyPost_ret (results_ct rfl _ _ (w.heap.size + 1) 34 #[.slice aA an ac, .slice bA bn bc] (0, 0) _ rfl HW.out.1 Tryz.underlying34 rfl (by kernel_rfl)) rfl ?_
 exact ⟨_, _, B, rfl, HLG2.out, fun k hk => .inl hk, HW.out.2.1⟩
theorem put_D (h : LogAt w B va vb a b) (ha0 : 0 < a.length) (hb0 : 0 < b.length) {BX : List Nat} {vx : Value} {x : List ByteArray} (hx : StrAt w BX vx x) (hf : Pure.fine x) (c : Bool) (p : Nat) (hp : p ≤ (Pure.halfB a b c).length) (ht : Pure.topD a b < 9223372036854775807) :
  Calls Tryz.prog 35 #[.agg #[va, vb], .bool c, .int .i64 (p : Int), vx] w fun e w' => ∃ va2 vb2 B2, e = .returned (.tuple #[.agg #[va2, vb2], .int .i64 (Pure.putD a b c p (Pure.topD a b + 1) (Go.Proofs.YtnhgakmnkpjpdaaGreat.B (rowL x))).2]) ∧
   LogAt w' B2 va2 vb2 (Pure.putD a b c p (Pure.topD a b + 1) (Go.Proofs.YtnhgakmnkpjpdaaGreat.B (rowL x))).1.1 (Pure.putD a b c p (Pure.topD a b + 1) (Go.Proofs.YtnhgakmnkpjpdaaGreat.B (rowL x))).1.2 ∧ (∀ k ∈ B2, k ∈ B ∨ (w.heap.size ≤ k ∧ k < w'.heap.size)) ∧ Only [] w w' := by
 unfold Pure.putD
 cases c with
 | true =>
  simp only [if_true]
  obtain ⟨l2, e2, hr⟩ : ∃ l2 e2, Pure.rput b p (Pure.topD a b + 1) (Go.Proofs.YtnhgakmnkpjpdaaGreat.B (rowL x)) = (l2, e2) := ⟨_, _, rfl⟩
  by_cases hz : e2 = 0
  ·
   have := put_D_t0 h hb0 hx hf p hp ht hr hz
   rw [hr, if_neg (by simp [hz])]
   exact this
  ·
   have := put_D_te h hb0 hx hf p hp ht hr hz
   rw [hr, if_pos hz]
   exact this
 | false =>
  simp only [Bool.false_eq_true, if_false]
  obtain ⟨l2, e2, hr⟩ : ∃ l2 e2, Pure.rput a p (Pure.topD a b + 1) (Go.Proofs.YtnhgakmnkpjpdaaGreat.B (rowL x)) = (l2, e2) := ⟨_, _, rfl⟩
  by_cases hz : e2 = 0
  ·
   have := put_D_f0 h ha0 hx hf p hp ht hr hz
   rw [hr, if_neg (by simp [hz])]
   exact this
  ·
   have := put_D_fe h ha0 hx hf p hp ht hr hz
   rw [hr, if_pos hz]
   exact this
end
end Go.Proofs.YtnhgakmnkpjpdaaGreat

/- The document's log: Commit, Save. -/
set_option maxRecDepth 100000
set_option linter.unusedVariables false
set_option linter.unusedSimpArgs false
namespace Go.Proofs.YtnhgakmnkpjpdaaGreat
open Go Go.RowKit Go.Proofs.YtnhgakmnkpjpdaaGreat.Q Go.Proofs.YtnhgakmnkpjpdaaGreatW.PrintWords Go.Proofs.YtnhgakmnkpjpdaaGreatW.PrintLast Go.Proofs.YtnhgakmnkpjpdaaGreatW.PrintMore
attribute [local go_sem] Oper.semAt_some max2_int min2_int max_two min_two max_three min_three max_four min_four
/-- What a commit or a save of the document's yields. -/
def GaveD (w : World) (B : List Nat) (r : (List ByteArray × List ByteArray) × Int) (e : Ending) (w' : World) : Prop :=
 ∃ va2 vb2 B2, e = .returned (.tuple #[.agg #[va2, vb2], .int .i64 r.2]) ∧ LogAt w' B2 va2 vb2 r.1.1 r.1.2 ∧ (∀ k ∈ B2, k ∈ B ∨ (w.heap.size ≤ k ∧ k < w'.heap.size)) ∧ Only [] w w'
section
variable {w : World} {B : List Nat} {va vb : Value} {a b : List ByteArray}
set_option maxHeartbeats 8000000 in
theorem commit_D_full (h : LogAt w B va vb a b) {BX : List Nat} {vx : Value} {x : List ByteArray} (hx : StrAt w BX vx x) (hf : Pure.fine x) (ht : 9223372036854775807 ≤ Pure.topD a b) :
  Calls Tryz.prog 9 #[.agg #[va, vb], vx] w (GaveD w B ((a, b), 6)) := by
 obtain ⟨aA, an, ac, hva⟩ := h.sa.slice
 obtain ⟨bA, bn, bc, hvb⟩ := h.sb.slice
 subst hva
 subst hvb
 have H45 := hid (fun w2 (ho : Only [] w w2) => may_D (h.new ho) (hx.kept ho (by simp)) hf)
 rw [if_pos ht] at H45
 have HLG := hid h
 have e45 : ∀ args w, (callFunc 32 args).run Tryz.prog w = .ok (.enter 32 args) w := enters_of Tryz.func32 (by kernel_rfl) rfl
 have HPOST : Hid (∀ w2 w3, Only [] ((w.alloc (lgBox (.slice aA an ac) (.slice bA bn bc))).alloc nilBox) w2 → w3 = ((w2.setCell ⟨w.heap.size + 1, 0, none⟩ (.slice aA an ac)).setCell ⟨w.heap.size + 1, 1, none⟩ (.slice bA bn bc)) → GaveD w B ((a, b), 6) (.returned (.tuple #[.agg #[.slice aA an ac, .slice bA bn bc], .int .i64 6])) w3) := fun w2 w3 ho hw => by
  subst hw
  have HW := wrote_two ho (.slice aA an ac) (.slice bA bn bc)
  exact ⟨_, _, B, rfl, h.new HW.2.1, fun k hk => .inl hk, HW.2.1⟩
 clear h hx ht
 obtain ⟨Post, hPost⟩ : ∃ Post, GaveD w B ((a, b), 6) = Post := ⟨_, rfl⟩
 rw [hPost] at HPOST ⊢
 clear hPost
 go_enter Tryz.func9, Tryz.ntmps9
 go_wp2_with fail
 have ho1 : Only [] w ((w.alloc (lgBox (.slice aA an ac) (.slice bA bn bc))).alloc nilBox) := (two_cells (Only.refl [] _)).2.2.2.2.2.2.2
 go_at_call 32
 refine (H45.out _ ho1).mono ?_
 rintro e w2 ⟨rfl, ho2⟩
 have HO2 := hid (show Only [] ((w.alloc (lgBox (.slice aA an ac) (.slice bA bn bc))).alloc nilBox) w2 from ho2)
 obtain ⟨b0, b1, bf, hres, r0, r1, rf, -⟩ := two_cells HO2.out
 have bf0 := bf 0
 have bf1 := bf 1
 have rf0 := rf 0
 have rf1 := rf 1
 clear bf rf hres ho2 ho1 H45
 go_wp2_with fail
 have HW := hid (wrote_two HO2.out (.slice aA an ac) (.slice bA bn bc))
 refine bodyPost_ret (results_ct rfl _ _ (w.heap.size + 1) 34 #[.slice aA an ac, .slice bA bn bc] (0, 0) _ rfl HW.out.1 Tryz.underlying34 rfl (by kernel_rfl)) rfl ?_
 exact HPOST.out w2 _ HO2.out rfl
set_option maxHeartbeats 8000000 in
theorem commit_D_put (h : LogAt w B va vb a b) (ha0 : 0 < a.length) (hb0 : 0 < b.length) {BX : List Nat} {vx : Value} {x : List ByteArray} (hx : StrAt w BX vx x) (hf : Pure.fine x) (ht : ¬ 9223372036854775807 ≤ Pure.topD a b) :
  Calls Tryz.prog 9 #[.agg #[va, vb], vx] w (GaveD w B (Pure.putD a b (Pure.secD a b) (Pure.rowT (Pure.halfD a b)).en (Pure.topD a b + 1) (Go.Proofs.YtnhgakmnkpjpdaaGreat.B (rowL x)))) := by
 obtain ⟨aA, an, ac, hva⟩ := h.sa.slice
 obtain ⟨bA, bn, bc, hvb⟩ := h.sb.slice
 subst hva
 subst hvb
 have H45 := hid (fun w2 (ho : Only [] w w2) => may_D (h.new ho) (hx.kept ho (by simp)) hf)
 rw [if_neg ht] at H45
 have H39 := hid (fun w2 (ho : Only [] w w2) => half_D (h.new ho))
 have H38 := hid (fun w2 (ho : Only [] w w2) => texts_D (w := w2) (B := B) (v := if Pure.secD a b = true then .slice bA bn bc else .slice aA an ac) (t := Pure.halfD a b) (by
  unfold Pure.halfD
  split
  ·
   exact h.sb.kept ho (by simp)
  ·
   exact h.sa.kept ho (by simp)) (Pure.halfD_len a b h.la h.lb))
 have H47 := hid (fun w2 (ho : Only [] w w2) => second_D (h.new ho))
 have hen : (Pure.rowT (Pure.halfD a b)).en ≤ (Pure.halfB a b (Pure.secD a b)).length := (Pure.rowT_ok (Pure.halfD a b)).en
 have H46 := hid (fun w2 (ho : Only [] w w2) => put_D (h.new ho) ha0 hb0 (hx.kept ho (by simp)) hf (Pure.secD a b) (Pure.rowT (Pure.halfD a b)).en hen (by omega))
 have HLG := hid h
 have e45 : ∀ args w, (callFunc 32 args).run Tryz.prog w = .ok (.enter 32 args) w := enters_of Tryz.func32 (by kernel_rfl) rfl
 have e39 : ∀ args w, (callFunc 34 args).run Tryz.prog w = .ok (.enter 34 args) w := enters_of Tryz.func34 (by kernel_rfl) rfl
 have e38 : ∀ args w, (callFunc 33 args).run Tryz.prog w = .ok (.enter 33 args) w := enters_of Tryz.func33 (by kernel_rfl) rfl
 have e47 : ∀ args w, (callFunc 36 args).run Tryz.prog w = .ok (.enter 36 args) w := enters_of Tryz.func36 (by kernel_rfl) rfl
 have e46 : ∀ args w, (callFunc 35 args).run Tryz.prog w = .ok (.enter 35 args) w := enters_of Tryz.func35 (by kernel_rfl) rfl
 generalize Pure.putD a b (Pure.secD a b) (Pure.rowT (Pure.halfD a b)).en (Pure.topD a b + 1) (Go.Proofs.YtnhgakmnkpjpdaaGreat.B (rowL x)) = r at *
 generalize (Pure.rowT (Pure.halfD a b)).first = x1 at *
 generalize (Pure.rowT (Pure.halfD a b)).en = x2 at *
 generalize (Pure.rowT (Pure.halfD a b)).texts = x3 at *
 generalize (if Pure.secD a b = true then Value.slice bA bn bc else _) = vh at *
 generalize Pure.secD a b = sc at *
 obtain ⟨⟨ra, rb⟩, re⟩ := r
 have HPOST : Hid (∀ w2 w3 x0 x1 B5, Only [] ((w.alloc (lgBox (.slice aA an ac) (.slice bA bn bc))).alloc nilBox) w2 → w3 = ((w2.setCell ⟨w.heap.size + 1, 0, none⟩ x0).setCell ⟨w.heap.size + 1, 1, none⟩ x1) → LogAt w2 B5 x0 x1 ra rb → (∀ k ∈ B5, k ∈ B ∨ w.heap.size + 1 < k) → GaveD w B ((ra, rb), re) (.returned (.tuple #[.agg #[x0, x1], .int .i64 re])) w3) := fun w2 w3 x0 x1 B5 ho hw hl hB => by
  subst hw
  have HW := wrote_two ho x0 x1
  have hl2 := hl.kept HW.2.2 (fun k hk => by
   rw [List.mem_singleton]
   rcases hB k hk with e | e
   ·
    have := h.lt k e; omega
   ·
    omega)
  refine ⟨_, _, B5, rfl, hl2, fun k hk => ?_, HW.2.1⟩
  rcases hB k hk with e | e
  ·
   exact .inl e
  ·
   exact .inr ⟨by omega, hl2.lt k hk⟩
 clear h hx ht hf
 obtain ⟨Post, hPost⟩ : ∃ Post, GaveD w B ((ra, rb), re) = Post := ⟨_, rfl⟩
 rw [hPost] at HPOST ⊢
 clear hPost
 go_enter Tryz.func9, Tryz.ntmps9
 go_wp2_with fail
 have ho1 : Only [] w ((w.alloc (lgBox (.slice aA an ac) (.slice bA bn bc))).alloc nilBox) := (two_cells (Only.refl [] _)).2.2.2.2.2.2.2
 go_at_call 32
 refine (H45.out _ ho1).mono ?_
 rintro e w2 ⟨rfl, ho2⟩
 have HO2 := hid (show Only [] ((w.alloc (lgBox (.slice aA an ac) (.slice bA bn bc))).alloc nilBox) w2 from ho2)
 have HN2 := hid (ho1.trans ho2 (fun _ h _ => h))
 obtain ⟨b0, b1, bf, hres, r0, r1, rf, -⟩ := two_cells HO2.out
 have bf0 := bf 0
 have bf1 := bf 1
 clear bf rf hres ho2 ho1 H45 r0 r1
 go_wp2_with fail
 go_at_call 34
 refine (H39.out _ HN2.out).mono ?_
 rintro e w3 ⟨rfl, ho3⟩
 have HO3 := hid (HO2.out.trans ho3 (fun _ h _ => h))
 have HN3 := hid (HN2.out.trans ho3 (fun _ h _ => h))
 clear ho3 HO2 HN2 H39
 go_wp2_with fail
 go_at_call 33
 refine (H38.out _ HN3.out).mono ?_
 rintro e w4 ⟨v4, rfl, -, -, ho4⟩
 have HO4 := hid (HO3.out.trans ho4 (fun _ h _ => h))
 have HN4 := hid (HN3.out.trans ho4 (fun _ h _ => h))
 obtain ⟨c0, c1, cf, -, -, -, -, -⟩ := two_cells HO4.out
 have cf0 := cf 0
 have cf1 := cf 1
 clear cf ho4 HO3 HN3 H38 b0 b1 bf0 bf1
 go_wp2_with fail
 go_region_law (first | (go_simp; go_at_call 36; refine (H47.out _ (HN4.out.trans (Only.drew [] _) (fun _ h _ => h))).mono ?_; rintro e w5 ⟨rfl, ho5⟩; have HO5 := hid ((HO4.out.trans (Only.drew [] _) (fun _ h _ => h)).trans ho5 (fun _ h _ => h)); have HN5 := hid ((HN4.out.trans (Only.drew [] _) (fun _ h _ => h)).trans ho5 (fun _ h _ => h)); obtain ⟨d0, d1, df, -, -, -, -, -⟩ := two_cells HO5.out; have df0 := df 0; have df1 := df 1; clear df ho5) | (go_simp; go_at_call 35; refine (H46.out _ HN5.out).mono ?_; rintro e w6 ⟨x0, x1, B6, rfl, hl6, hB6, ho6⟩; obtain ⟨pA, pn, pc, hx0⟩ := hl6.sa.slice; subst hx0; obtain ⟨qA, qn, qc, hx1⟩ := hl6.sb.slice; subst hx1; have HO6 := hid (HO5.out.trans ho6 (fun _ h _ => h)); have HL6 := hid hl6; have HB6 : Hid (∀ k ∈ B6, k ∈ B ∨ w.heap.size + 1 < k) := (fun k hk => (by have hz := HO5.out.size; rw [alloc_size, alloc_size] at hz; rcases hB6 k hk with e | e; exact .inl e; exact .inr (by omega))); obtain ⟨-, -, -, -, r0, r1, rf, -⟩ := two_cells HO6.out; have rf0 := rf 0; have rf1 := rf 1; clear rf hl6 hB6 ho6))
 all_goals go_wp2_with fail
 all_goals
  have HW := hid (wrote_two HO6.out (.slice pA pn pc) (.slice qA qn qc))
  refine bodyPost_ret (results_ct rfl _ _ (w.heap.size + 1) 34 #[.slice pA pn pc, .slice qA qn qc] (0, 0) _ rfl HW.out.1 Tryz.underlying34 rfl (by kernel_rfl)) rfl ?_
  exact HPOST.out w6 _ _ _ _ HO6.out rfl HL6.out HB6.out
set_option maxHeartbeats 8000000 in
theorem save_D_full (h : LogAt w B va vb a b) {BX : List Nat} {vx : Value} {x : List ByteArray} (hx : StrAt w BX vx x) (hf : Pure.fine x) (ht : 9223372036854775807 ≤ Pure.topD a b) :
  Calls Tryz.prog 11 #[.agg #[va, vb], vx] w (GaveD w B ((a, b), 6)) := by
 obtain ⟨aA, an, ac, hva⟩ := h.sa.slice
 obtain ⟨bA, bn, bc, hvb⟩ := h.sb.slice
 subst hva
 subst hvb
 have H45 := hid (fun w2 (ho : Only [] w w2) => may_D (h.new ho) (hx.kept ho (by simp)) hf)
 rw [if_pos ht] at H45
 have HLG := hid h
 have e45 : ∀ args w, (callFunc 32 args).run Tryz.prog w = .ok (.enter 32 args) w := enters_of Tryz.func32 (by kernel_rfl) rfl
 have HPOST : Hid (∀ w2 w3, Only [] ((w.alloc (lgBox (.slice aA an ac) (.slice bA bn bc))).alloc nilBox) w2 → w3 = ((w2.setCell ⟨w.heap.size + 1, 0, none⟩ (.slice aA an ac)).setCell ⟨w.heap.size + 1, 1, none⟩ (.slice bA bn bc)) → GaveD w B ((a, b), 6) (.returned (.tuple #[.agg #[.slice aA an ac, .slice bA bn bc], .int .i64 6])) w3) := fun w2 w3 ho hw => by
  subst hw
  have HW := wrote_two ho (.slice aA an ac) (.slice bA bn bc)
  exact ⟨_, _, B, rfl, h.new HW.2.1, fun k hk => .inl hk, HW.2.1⟩
 clear h hx ht
 obtain ⟨Post, hPost⟩ : ∃ Post, GaveD w B ((a, b), 6) = Post := ⟨_, rfl⟩
 rw [hPost] at HPOST ⊢
 clear hPost
 go_enter Tryz.func11, Tryz.ntmps11
 go_wp2_with fail
 have ho1 : Only [] w ((w.alloc (lgBox (.slice aA an ac) (.slice bA bn bc))).alloc nilBox) := (two_cells (Only.refl [] _)).2.2.2.2.2.2.2
 go_at_call 32
 refine (H45.out _ ho1).mono ?_
 rintro e w2 ⟨rfl, ho2⟩
 have HO2 := hid (show Only [] ((w.alloc (lgBox (.slice aA an ac) (.slice bA bn bc))).alloc nilBox) w2 from ho2)
 obtain ⟨b0, b1, bf, hres, r0, r1, rf, -⟩ := two_cells HO2.out
 have bf0 := bf 0
 have bf1 := bf 1
 have rf0 := rf 0
 have rf1 := rf 1
 clear bf rf hres ho2 ho1 H45
 go_wp2_with fail
 have HW := hid (wrote_two HO2.out (.slice aA an ac) (.slice bA bn bc))
 refine bodyPost_ret (results_ct rfl _ _ (w.heap.size + 1) 34 #[.slice aA an ac, .slice bA bn bc] (0, 0) _ rfl HW.out.1 Tryz.underlying34 rfl (by kernel_rfl)) rfl ?_
 exact HPOST.out w2 _ HO2.out rfl
set_option maxHeartbeats 8000000 in
theorem save_D_t (h : LogAt w B va vb a b) (ha0 : 0 < a.length) (hb0 : 0 < b.length) {BX : List Nat} {vx : Value} {x : List ByteArray} (hx : StrAt w BX vx x) (hf : Pure.fine x) (ht : ¬ 9223372036854775807 ≤ Pure.topD a b) (hsc : Pure.secD a b = true) :
  Calls Tryz.prog 11 #[.agg #[va, vb], vx] w (GaveD w B (Pure.putD a b false 0 (Pure.topD a b + 1) (Go.Proofs.YtnhgakmnkpjpdaaGreat.B (rowL x)))) := by
 obtain ⟨aA, an, ac, hva⟩ := h.sa.slice
 obtain ⟨bA, bn, bc, hvb⟩ := h.sb.slice
 subst hva
 subst hvb
 have H45 := hid (fun w2 (ho : Only [] w w2) => may_D (h.new ho) (hx.kept ho (by simp)) hf)
 rw [if_neg ht] at H45
 have H16 := hid (fun w2 (ho : Only [] w w2) => Age_D (h.new ho))
 have H47 := hid (fun w2 (ho : Only [] w w2) => second_D (h.new ho))
 have H46 := hid (fun w2 (ho : Only [] w w2) => put_D (h.new ho) ha0 hb0 (hx.kept ho (by simp)) hf false 0 (Nat.zero_le _) (by omega))
 have HLG := hid h
 rw [hsc] at H47
 have e45 : ∀ args w, (callFunc 32 args).run Tryz.prog w = .ok (.enter 32 args) w := enters_of Tryz.func32 (by kernel_rfl) rfl
 have e16 : ∀ args w, (callFunc 17 args).run Tryz.prog w = .ok (.enter 17 args) w := enters_of Tryz.func17 (by kernel_rfl) rfl
 have e47 : ∀ args w, (callFunc 36 args).run Tryz.prog w = .ok (.enter 36 args) w := enters_of Tryz.func36 (by kernel_rfl) rfl
 have e46 : ∀ args w, (callFunc 35 args).run Tryz.prog w = .ok (.enter 35 args) w := enters_of Tryz.func35 (by kernel_rfl) rfl
 generalize Pure.putD a b false 0 (Pure.topD a b + 1) (Go.Proofs.YtnhgakmnkpjpdaaGreat.B (rowL x)) = r at *
 generalize (Pure.rowT (Pure.halfD a b)).first = x1 at *
 obtain ⟨⟨ra, rb⟩, re⟩ := r
 have HPOST : Hid (∀ w2 w3 x0 x1 B5, Only [] ((w.alloc (lgBox (.slice aA an ac) (.slice bA bn bc))).alloc nilBox) w2 → w3 = ((w2.setCell ⟨w.heap.size + 1, 0, none⟩ x0).setCell ⟨w.heap.size + 1, 1, none⟩ x1) → LogAt w2 B5 x0 x1 ra rb → (∀ k ∈ B5, k ∈ B ∨ w.heap.size + 1 < k) → GaveD w B ((ra, rb), re) (.returned (.tuple #[.agg #[x0, x1], .int .i64 re])) w3) := fun w2 w3 x0 x1 B5 ho hw hl hB => by
  subst hw
  have HW := wrote_two ho x0 x1
  have hl2 := hl.kept HW.2.2 (fun k hk => by
   rw [List.mem_singleton]
   rcases hB k hk with e | e
   ·
    have := h.lt k e; omega
   ·
    omega)
  refine ⟨_, _, B5, rfl, hl2, fun k hk => ?_, HW.2.1⟩
  rcases hB k hk with e | e
  ·
   exact .inl e
  ·
   exact .inr ⟨by omega, hl2.lt k hk⟩
 clear h hx ht hf hsc
 obtain ⟨Post, hPost⟩ : ∃ Post, GaveD w B ((ra, rb), re) = Post := ⟨_, rfl⟩
 rw [hPost] at HPOST ⊢
 clear hPost
 go_enter Tryz.func11, Tryz.ntmps11
 go_wp2_with fail
 have ho1 : Only [] w ((w.alloc (lgBox (.slice aA an ac) (.slice bA bn bc))).alloc nilBox) := (two_cells (Only.refl [] _)).2.2.2.2.2.2.2
 go_at_call 32
 refine (H45.out _ ho1).mono ?_
 rintro e w2 ⟨rfl, ho2⟩
 have HO2 := hid (show Only [] ((w.alloc (lgBox (.slice aA an ac) (.slice bA bn bc))).alloc nilBox) w2 from ho2)
 have HN2 := hid (ho1.trans ho2 (fun _ h _ => h))
 obtain ⟨b0, b1, bf, hres, r0, r1, rf, -⟩ := two_cells HO2.out
 have bf0 := bf 0
 have bf1 := bf 1
 clear bf rf hres ho2 ho1 H45 r0 r1
 go_wp2_with fail
 go_region_law (first | (go_simp; go_at_call 36; refine (H47.out _ (HN2.out.trans (Only.drew [] _) (fun _ h _ => h))).mono ?_; rintro e w5 ⟨rfl, ho5⟩; have HO5 := hid ((HO2.out.trans (Only.drew [] _) (fun _ h _ => h)).trans ho5 (fun _ h _ => h)); have HN5 := hid ((HN2.out.trans (Only.drew [] _) (fun _ h _ => h)).trans ho5 (fun _ h _ => h)); obtain ⟨d0, d1, df, -, -, -, -, -⟩ := two_cells HO5.out; have df0 := df 0; have df1 := df 1; clear df ho5) | (go_simp; go_at_call 35; refine (H46.out _ HN5.out).mono ?_; rintro e w6 ⟨x0, x1, B6, rfl, hl6, hB6, ho6⟩; obtain ⟨pA, pn, pc, hx0⟩ := hl6.sa.slice; subst hx0; obtain ⟨qA, qn, qc, hx1⟩ := hl6.sb.slice; subst hx1; have HO6 := hid (HO5.out.trans ho6 (fun _ h _ => h)); have HL6 := hid hl6; have HB6 : Hid (∀ k ∈ B6, k ∈ B ∨ w.heap.size + 1 < k) := (fun k hk => (by have hz := HO5.out.size; rw [alloc_size, alloc_size] at hz; rcases hB6 k hk with e | e; exact .inl e; exact .inr (by omega))); obtain ⟨-, -, -, -, r0, r1, rf, -⟩ := two_cells HO6.out; have rf0 := rf 0; have rf1 := rf 1; clear rf hl6 hB6 ho6))
 all_goals go_wp2_with fail
 all_goals
  have HW := hid (wrote_two HO6.out (.slice pA pn pc) (.slice qA qn qc))
  refine bodyPost_ret (results_ct rfl _ _ (w.heap.size + 1) 34 #[.slice pA pn pc, .slice qA qn qc] (0, 0) _ rfl HW.out.1 Tryz.underlying34 rfl (by kernel_rfl)) rfl ?_
  exact HPOST.out w6 _ _ _ _ HO6.out rfl HL6.out HB6.out
end
end Go.Proofs.YtnhgakmnkpjpdaaGreat

/- The document's log: Save. -/
set_option maxRecDepth 100000
set_option linter.unusedVariables false
set_option linter.unusedSimpArgs false
namespace Go.Proofs.YtnhgakmnkpjpdaaGreat
open Go Go.RowKit Go.Proofs.YtnhgakmnkpjpdaaGreat.Q Go.Proofs.YtnhgakmnkpjpdaaGreatW.PrintWords Go.Proofs.YtnhgakmnkpjpdaaGreatW.PrintLast Go.Proofs.YtnhgakmnkpjpdaaGreatW.PrintMore
attribute [local go_sem] Oper.semAt_some max2_int min2_int max_two min_two max_three min_three max_four min_four
theorem wrote_old {w w2 : World} {va vb : Value} (h : Only [] ((w.alloc (lgBox va vb)).alloc nilBox) w2) (x y : Value) :
  ((w2.setCell ⟨w.heap.size + 1, 0, none⟩ x).setCell ⟨w.heap.size + 1, 1, none⟩ y).cell? ⟨w.heap.size, 0, none⟩ = some va ∧ ((w2.setCell ⟨w.heap.size + 1, 0, none⟩ x).setCell ⟨w.heap.size + 1, 1, none⟩ y).cell? ⟨w.heap.size, 1, none⟩ = some vb := by
 obtain ⟨a0, a1, -⟩ := two_cells h
 have hs : ((w2.setCell ⟨w.heap.size + 1, 0, none⟩ x).setCell ⟨w.heap.size + 1, 1, none⟩ y).heap[w.heap.size]? = w2.heap[w.heap.size]? :=
  (wrote_two h x y).2.2.block _ (by have := h.size; rw [alloc_size, alloc_size] at this; omega) (by simp)
 exact ⟨(cell_same (a := ⟨w.heap.size, 0, none⟩) hs).trans a0, (cell_same (a := ⟨w.heap.size, 1, none⟩) hs).trans a1⟩
section
variable {w : World} {B : List Nat} {va vb : Value} {a b : List ByteArray}
set_option maxHeartbeats 8000000 in
theorem save_D_z (h : LogAt w B va vb a b) (ha0 : 0 < a.length) (hb0 : 0 < b.length) {BX : List Nat} {vx : Value} {x : List ByteArray} (hx : StrAt w BX vx x) (hf : Pure.fine x) (ht : ¬ 9223372036854775807 ≤ Pure.topD a b) (hsc : Pure.secD a b = false) (hz : ¬ 0 < (Pure.rowT (Pure.halfD a b)).first) :
  Calls Tryz.prog 11 #[.agg #[va, vb], vx] w (GaveD w B (Pure.putD a b false 0 (Pure.topD a b + 1) (Go.Proofs.YtnhgakmnkpjpdaaGreat.B (rowL x)))) := by
 obtain ⟨aA, an, ac, hva⟩ := h.sa.slice
 obtain ⟨bA, bn, bc, hvb⟩ := h.sb.slice
 subst hva
 subst hvb
 have H45 := hid (fun w2 (ho : Only [] w w2) => may_D (h.new ho) (hx.kept ho (by simp)) hf)
 rw [if_neg ht] at H45
 have H16 := hid (fun w2 (ho : Only [] w w2) => Age_D (h.new ho))
 have H47 := hid (fun w2 (ho : Only [] w w2) => second_D (h.new ho))
 have H46 := hid (fun w2 (ho : Only [] w w2) => put_D (h.new ho) ha0 hb0 (hx.kept ho (by simp)) hf false 0 (Nat.zero_le _) (by omega))
 have HLG := hid h
 rw [hsc] at H47
 have e45 : ∀ args w, (callFunc 32 args).run Tryz.prog w = .ok (.enter 32 args) w := enters_of Tryz.func32 (by kernel_rfl) rfl
 have e16 : ∀ args w, (callFunc 17 args).run Tryz.prog w = .ok (.enter 17 args) w := enters_of Tryz.func17 (by kernel_rfl) rfl
 have e47 : ∀ args w, (callFunc 36 args).run Tryz.prog w = .ok (.enter 36 args) w := enters_of Tryz.func36 (by kernel_rfl) rfl
 have e46 : ∀ args w, (callFunc 35 args).run Tryz.prog w = .ok (.enter 35 args) w := enters_of Tryz.func35 (by kernel_rfl) rfl
 generalize Pure.putD a b false 0 (Pure.topD a b + 1) (Go.Proofs.YtnhgakmnkpjpdaaGreat.B (rowL x)) = r at *
 generalize (Pure.rowT (Pure.halfD a b)).first = x1 at *
 have qz : x1 = 0 := by omega
 subst qz
 obtain ⟨⟨ra, rb⟩, re⟩ := r
 have HPOST : Hid (∀ w2 w3 x0 x1 B5, Only [] ((w.alloc (lgBox (.slice aA an ac) (.slice bA bn bc))).alloc nilBox) w2 → w3 = ((w2.setCell ⟨w.heap.size + 1, 0, none⟩ x0).setCell ⟨w.heap.size + 1, 1, none⟩ x1) → LogAt w2 B5 x0 x1 ra rb → (∀ k ∈ B5, k ∈ B ∨ w.heap.size + 1 < k) → GaveD w B ((ra, rb), re) (.returned (.tuple #[.agg #[x0, x1], .int .i64 re])) w3) := fun w2 w3 x0 x1 B5 ho hw hl hB => by
  subst hw
  have HW := wrote_two ho x0 x1
  have hl2 := hl.kept HW.2.2 (fun k hk => by
   rw [List.mem_singleton]
   rcases hB k hk with e | e
   ·
    have := h.lt k e; omega
   ·
    omega)
  refine ⟨_, _, B5, rfl, hl2, fun k hk => ?_, HW.2.1⟩
  rcases hB k hk with e | e
  ·
   exact .inl e
  ·
   exact .inr ⟨by omega, hl2.lt k hk⟩
 clear h hx ht hf hsc hz
 obtain ⟨Post, hPost⟩ : ∃ Post, GaveD w B ((ra, rb), re) = Post := ⟨_, rfl⟩
 rw [hPost] at HPOST ⊢
 clear hPost
 go_enter Tryz.func11, Tryz.ntmps11
 go_wp2_with fail
 have ho1 : Only [] w ((w.alloc (lgBox (.slice aA an ac) (.slice bA bn bc))).alloc nilBox) := (two_cells (Only.refl [] _)).2.2.2.2.2.2.2
 go_at_call 32
 refine (H45.out _ ho1).mono ?_
 rintro e w2 ⟨rfl, ho2⟩
 have HO2 := hid (show Only [] ((w.alloc (lgBox (.slice aA an ac) (.slice bA bn bc))).alloc nilBox) w2 from ho2)
 have HN2 := hid (ho1.trans ho2 (fun _ h _ => h))
 obtain ⟨b0, b1, bf, hres, r0, r1, rf, -⟩ := two_cells HO2.out
 have bf0 := bf 0
 have bf1 := bf 1
 clear bf rf hres ho2 ho1 H45 r0 r1
 go_wp2_with fail
 go_region_held3 (fun W => W.cell? ⟨w.heap.size, 0, none⟩ = some (.slice aA an ac) ∧ W.cell? ⟨w.heap.size, 1, none⟩ = some (.slice bA bn bc)) (first | exact ⟨b0, b1⟩ | exact ⟨d0, d1⟩ | exact ⟨g0, g1⟩ | exact ⟨l0, l1⟩ | exact ⟨k0, k1⟩)
  (first | (go_at_call 36; refine (H47.out _ (HN2.out.trans (Only.drew [] _) (fun _ h _ => h))).mono ?_; rintro e w5 ⟨rfl, ho5⟩; have HO5 := hid ((HO2.out.trans (Only.drew [] _) (fun _ h _ => h)).trans ho5 (fun _ h _ => h)); have HN5 := hid ((HN2.out.trans (Only.drew [] _) (fun _ h _ => h)).trans ho5 (fun _ h _ => h)); obtain ⟨d0, d1, df, -, -, -, -, -⟩ := two_cells HO5.out; have df0 := df 0; have df1 := df 1; clear df ho5) | (go_at_call 17; refine (H16.out _ HN5.out).mono ?_; rintro e w7 ⟨rfl, ho7⟩; have HO7 := hid (HO5.out.trans ho7 (fun _ h _ => h)); have HN7 := hid (HN5.out.trans ho7 (fun _ h _ => h)); obtain ⟨g0, g1, gf, -, -, -, -, -⟩ := two_cells HO7.out; have gf0 := gf 0; have gf1 := gf 1; clear gf ho7) | (go_at_call 35; refine (H46.out _ HN7.out).mono ?_; rintro e w6 ⟨x0, x1, B6, rfl, hl6, hB6, ho6⟩; obtain ⟨pA, pn, pc, hx0⟩ := hl6.sa.slice; subst hx0; obtain ⟨qA, qn, qc, hx1⟩ := hl6.sb.slice; subst hx1; have HO6 := hid (HO7.out.trans ho6 (fun _ h _ => h)); have HL6 := hid hl6; have HB6 : Hid (∀ k ∈ B6, k ∈ B ∨ w.heap.size + 1 < k) := (fun k hk => (by have hz := HO7.out.size; rw [alloc_size, alloc_size] at hz; rcases hB6 k hk with e | e; exact .inl e; exact .inr (by omega))); obtain ⟨-, -, -, -, r0, r1, rf, -⟩ := two_cells HO6.out; have rf0 := rf 0; have rf1 := rf 1; obtain ⟨l0, l1, lf, -⟩ := two_cells HO6.out; obtain ⟨k0, k1⟩ := wrote_old HO6.out (.slice pA pn pc) (.slice qA qn qc); clear rf lf hl6 hB6 ho6))
 all_goals go_wp2_with fail
 all_goals
  have HW := hid (wrote_two HO6.out (.slice pA pn pc) (.slice qA qn qc))
  refine bodyPost_ret (results_ct rfl _ _ (w.heap.size + 1) 34 #[.slice pA pn pc, .slice qA qn qc] (0, 0) _ rfl HW.out.1 Tryz.underlying34 rfl (by kernel_rfl)) rfl ?_
  exact HPOST.out w6 _ _ _ _ HO6.out rfl HL6.out HB6.out
set_option maxHeartbeats 8000000 in
theorem save_D_n (h : LogAt w B va vb a b) (ha0 : 0 < a.length) (hb0 : 0 < b.length) {BX : List Nat} {vx : Value} {x : List ByteArray} (hx : StrAt w BX vx x) (hf : Pure.fine x) (ht : ¬ 9223372036854775807 ≤ Pure.topD a b) (hsc : Pure.secD a b = false) (hz : 0 < (Pure.rowT (Pure.halfD a b)).first) :
  Calls Tryz.prog 11 #[.agg #[va, vb], vx] w (GaveD w B (Pure.putD a b true 0 (Pure.topD a b + 1) (Go.Proofs.YtnhgakmnkpjpdaaGreat.B (rowL x)))) := by
 obtain ⟨aA, an, ac, hva⟩ := h.sa.slice
 obtain ⟨bA, bn, bc, hvb⟩ := h.sb.slice
 subst hva
 subst hvb
 have H45 := hid (fun w2 (ho : Only [] w w2) => may_D (h.new ho) (hx.kept ho (by simp)) hf)
 rw [if_neg ht] at H45
 have H16 := hid (fun w2 (ho : Only [] w w2) => Age_D (h.new ho))
 have H47 := hid (fun w2 (ho : Only [] w w2) => second_D (h.new ho))
 have H46 := hid (fun w2 (ho : Only [] w w2) => put_D (h.new ho) ha0 hb0 (hx.kept ho (by simp)) hf true 0 (Nat.zero_le _) (by omega))
 have HLG := hid h
 rw [hsc] at H47
 have e45 : ∀ args w, (callFunc 32 args).run Tryz.prog w = .ok (.enter 32 args) w := enters_of Tryz.func32 (by kernel_rfl) rfl
 have e16 : ∀ args w, (callFunc 17 args).run Tryz.prog w = .ok (.enter 17 args) w := enters_of Tryz.func17 (by kernel_rfl) rfl
 have e47 : ∀ args w, (callFunc 36 args).run Tryz.prog w = .ok (.enter 36 args) w := enters_of Tryz.func36 (by kernel_rfl) rfl
 have e46 : ∀ args w, (callFunc 35 args).run Tryz.prog w = .ok (.enter 35 args) w := enters_of Tryz.func35 (by kernel_rfl) rfl
 generalize Pure.putD a b true 0 (Pure.topD a b + 1) (Go.Proofs.YtnhgakmnkpjpdaaGreat.B (rowL x)) = r at *
 generalize (Pure.rowT (Pure.halfD a b)).first = x1 at *
 have qz : decide ((0 : Int) < (x1 : Int)) = true := decide_eq_true (by omega)
 have qz2 : decide (0 < x1) = true := decide_eq_true hz
 have qz3 : (0 : Int) < (x1 : Int) := by omega
 have qz4 : 0 < x1 := hz
 obtain ⟨⟨ra, rb⟩, re⟩ := r
 have HPOST : Hid (∀ w2 w3 x0 x1 B5, Only [] ((w.alloc (lgBox (.slice aA an ac) (.slice bA bn bc))).alloc nilBox) w2 → w3 = ((w2.setCell ⟨w.heap.size + 1, 0, none⟩ x0).setCell ⟨w.heap.size + 1, 1, none⟩ x1) → LogAt w2 B5 x0 x1 ra rb → (∀ k ∈ B5, k ∈ B ∨ w.heap.size + 1 < k) → GaveD w B ((ra, rb), re) (.returned (.tuple #[.agg #[x0, x1], .int .i64 re])) w3) := fun w2 w3 x0 x1 B5 ho hw hl hB => by
  subst hw
  have HW := wrote_two ho x0 x1
  have hl2 := hl.kept HW.2.2 (fun k hk => by
   rw [List.mem_singleton]
   rcases hB k hk with e | e
   ·
    have := h.lt k e; omega
   ·
    omega)
  refine ⟨_, _, B5, rfl, hl2, fun k hk => ?_, HW.2.1⟩
  rcases hB k hk with e | e
  ·
   exact .inl e
  ·
   exact .inr ⟨by omega, hl2.lt k hk⟩
 clear h hx ht hf hsc hz
 obtain ⟨Post, hPost⟩ : ∃ Post, GaveD w B ((ra, rb), re) = Post := ⟨_, rfl⟩
 rw [hPost] at HPOST ⊢
 clear hPost
 go_enter Tryz.func11, Tryz.ntmps11
 go_wp2_with fail
 have ho1 : Only [] w ((w.alloc (lgBox (.slice aA an ac) (.slice bA bn bc))).alloc nilBox) := (two_cells (Only.refl [] _)).2.2.2.2.2.2.2
 go_at_call 32
 refine (H45.out _ ho1).mono ?_
 rintro e w2 ⟨rfl, ho2⟩
 have HO2 := hid (show Only [] ((w.alloc (lgBox (.slice aA an ac) (.slice bA bn bc))).alloc nilBox) w2 from ho2)
 have HN2 := hid (ho1.trans ho2 (fun _ h _ => h))
 obtain ⟨b0, b1, bf, hres, r0, r1, rf, -⟩ := two_cells HO2.out
 have bf0 := bf 0
 have bf1 := bf 1
 clear bf rf hres ho2 ho1 H45 r0 r1
 go_wp2_with fail
 go_region_held3 (fun W => W.cell? ⟨w.heap.size, 0, none⟩ = some (.slice aA an ac) ∧ W.cell? ⟨w.heap.size, 1, none⟩ = some (.slice bA bn bc)) (first | exact ⟨b0, b1⟩ | exact ⟨d0, d1⟩ | exact ⟨g0, g1⟩ | exact ⟨l0, l1⟩ | exact ⟨k0, k1⟩)
  (first | (go_at_call 36; refine (H47.out _ (HN2.out.trans (Only.drew [] _) (fun _ h _ => h))).mono ?_; rintro e w5 ⟨rfl, ho5⟩; have HO5 := hid ((HO2.out.trans (Only.drew [] _) (fun _ h _ => h)).trans ho5 (fun _ h _ => h)); have HN5 := hid ((HN2.out.trans (Only.drew [] _) (fun _ h _ => h)).trans ho5 (fun _ h _ => h)); obtain ⟨d0, d1, df, -, -, -, -, -⟩ := two_cells HO5.out; have df0 := df 0; have df1 := df 1; clear df ho5) | (go_at_call 17; refine (H16.out _ HN5.out).mono ?_; rintro e w7 ⟨rfl, ho7⟩; have HO7 := hid (HO5.out.trans ho7 (fun _ h _ => h)); have HN7 := hid (HN5.out.trans ho7 (fun _ h _ => h)); obtain ⟨g0, g1, gf, -, -, -, -, -⟩ := two_cells HO7.out; have gf0 := gf 0; have gf1 := gf 1; clear gf ho7) | (go_at_call 35; refine (H46.out _ HN7.out).mono ?_; rintro e w6 ⟨x0, x1, B6, rfl, hl6, hB6, ho6⟩; obtain ⟨pA, pn, pc, hx0⟩ := hl6.sa.slice; subst hx0; obtain ⟨qA, qn, qc, hx1⟩ := hl6.sb.slice; subst hx1; have HO6 := hid (HO7.out.trans ho6 (fun _ h _ => h)); have HL6 := hid hl6; have HB6 : Hid (∀ k ∈ B6, k ∈ B ∨ w.heap.size + 1 < k) := (fun k hk => (by have hz := HO7.out.size; rw [alloc_size, alloc_size] at hz; rcases hB6 k hk with e | e; exact .inl e; exact .inr (by omega))); obtain ⟨-, -, -, -, r0, r1, rf, -⟩ := two_cells HO6.out; have rf0 := rf 0; have rf1 := rf 1; obtain ⟨l0, l1, lf, -⟩ := two_cells HO6.out; obtain ⟨k0, k1⟩ := wrote_old HO6.out (.slice pA pn pc) (.slice qA qn qc); clear rf lf hl6 hB6 ho6))
 all_goals go_wp2_with fail
 all_goals
  have HW := hid (wrote_two HO6.out (.slice pA pn pc) (.slice qA qn qc))
  refine bodyPost_ret (results_ct rfl _ _ (w.heap.size + 1) 34 #[.slice pA pn pc, .slice qA qn qc] (0, 0) _ rfl HW.out.1 Tryz.underlying34 rfl (by kernel_rfl)) rfl ?_
  exact HPOST.out w6 _ _ _ _ HO6.out rfl HL6.out HB6.out
theorem commit_D (h : LogAt w B va vb a b) (ha0 : 0 < a.length) (hb0 : 0 < b.length) {BX : List Nat} {vx : Value} {x : List ByteArray} (hx : StrAt w BX vx x) (hf : Pure.fine x) :
  Calls Tryz.prog 9 #[.agg #[va, vb], vx] w (GaveD w B (Pure.commitD a b x)) := by
 unfold Pure.commitD
 by_cases ht : 9223372036854775807 ≤ Pure.topD a b
 ·
  rw [if_pos ht]; exact commit_D_full h hx hf ht
 ·
  rw [if_neg ht]; exact commit_D_put h ha0 hb0 hx hf ht
theorem save_D (h : LogAt w B va vb a b) (ha0 : 0 < a.length) (hb0 : 0 < b.length) {BX : List Nat} {vx : Value} {x : List ByteArray} (hx : StrAt w BX vx x) (hf : Pure.fine x) :
  Calls Tryz.prog 11 #[.agg #[va, vb], vx] w (GaveD w B (Pure.saveD a b x)) := by
 unfold Pure.saveD
 by_cases ht : 9223372036854775807 ≤ Pure.topD a b
 ·
  rw [if_pos ht]; exact save_D_full h hx hf ht
 ·
  rw [if_neg ht]
  cases hsc : Pure.secD a b with
  | true => exact save_D_t h ha0 hb0 hx hf ht hsc
  | false =>
   by_cases hz : 0 < (Pure.rowT (Pure.halfD a b)).first
   ·
    rw [decide_eq_true hz]; exact save_D_n h ha0 hb0 hx hf ht hsc hz
   ·
    rw [decide_eq_false hz]; exact save_D_z h ha0 hb0 hx hf ht hsc hz
end
end Go.Proofs.YtnhgakmnkpjpdaaGreat
