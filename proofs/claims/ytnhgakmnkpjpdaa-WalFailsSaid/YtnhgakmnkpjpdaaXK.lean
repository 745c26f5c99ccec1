import Derived.Test.YtnhgakmnkpjpdaaXA
import Derived.Test.YtnhgakmnkpjpdaaPX
import Derived.Test.YtnhgakmnkpjpdaaXD
import Derived.Test.YtnhgakmnkpjpdaaPY
import Derived.Deep.RegionHeld3
/- Chapter 06: are a drive's halves the document's sectors? -/
set_option maxRecDepth 100000
set_option linter.unusedVariables false
set_option linter.unusedSimpArgs false
namespace Go.Proofs.Ytnhgakmnkpjpdaa
open Go Go.RowKit Go.Proofs.Ytnhgakmnkpjpdaa.Q Go.Proofs.YtnhgakmnkpjpdaaW.PrintWords Go.Proofs.YtnhgakmnkpjpdaaW.PrintLast Go.Proofs.YtnhgakmnkpjpdaaW.PrintMore
attribute [local go_sem] Oper.semAt_some max2_int min2_int max_two min_two max_three min_three max_four min_four
theorem StrAt.first {w : World} {B : List Nat} {v : Value} {t : List ByteArray} (h : StrAt w B v t) (h0 : 0 < t.length) : ∃ (ad : Addr) (c : Nat), v = .slice (some ad) t.length c ∧ ∀ j u, (strV t)[j]? = some u → w.cell? (ad.add j) = some u := by
  obtain ⟨A, c, rfl, hc, hrd, hbl⟩ := h
  obtain ⟨ad, e, hcell⟩ := hrd.2.2 h0
  subst e
  refine ⟨ad, c, rfl, fun j u hj => ?_⟩
  have hjl : j < t.length := by
    have := (List.getElem?_eq_some_iff.1 hj).1
    rwa [strV_len] at this
  rw [strV_at t hjl] at hj
  rw [← hj]
  exact hcell j hjl
theorem rowSec_at (s : DS) (fr n j : Nat) (hj : j < n) : (rowSec s fr n)[j]? = some (readS s ((fr + j : Nat) : Int)) := by
  unfold rowSec
  rw [List.getElem?_map, List.getElem?_range hj]; rfl
section
variable {w0 w : World} {l : List (Nat × DS)} {F B : List Nat} {i D : Nat} {s : DS} {va vb : Value} {n : Nat}
end
end Go.Proofs.Ytnhgakmnkpjpdaa

/- Chapter 06: head, by walking it. -/
set_option maxRecDepth 100000
set_option linter.unusedVariables false
set_option linter.unusedSimpArgs false
namespace Go.Proofs.Ytnhgakmnkpjpdaa
open Go Go.RowKit Go.Proofs.Ytnhgakmnkpjpdaa.Q Go.Proofs.YtnhgakmnkpjpdaaW.PrintWords Go.Proofs.YtnhgakmnkpjpdaaW.PrintLast Go.Proofs.YtnhgakmnkpjpdaaW.PrintMore
attribute [local go_sem] Oper.semAt_some max2_int min2_int max_two min_two max_three min_three max_four min_four
/-- A log, and transactions that were told, beside it. -/
structure Wh (w0 w : World) (l : List (Nat × DS)) (F : List Nat) (i D : Nat) (s : DS) (m : WM) (q : WS) (B : List Nat) (v : Value) (L : List (List ByteArray)) : Prop where
  wl : Wl w0 w l F i D s m q
  tv : TxV 0 w B v L
  mem : ∀ k ∈ B, k ∈ F ∧ k ∉ m.fp
section
variable {w0 w w' : World} {l l' : List (Nat × DS)} {F F' : List Nat} {i D : Nat} {s s' : DS} {m m' : WM} {q q' : WS} {B : List Nat} {v : Value} {L : List (List ByteArray)}
theorem TxV.lt {base : Nat} (h : TxV base w B v L) : ∀ k ∈ B, base ≤ k ∧ k < w.heap.size := by
  obtain ⟨A, c, vs, -, -, -, ht, -⟩ := h
  exact ht.lt
theorem TxV.zero {base : Nat} (h : TxV base w B v L) : TxV 0 w B v L := by
  obtain ⟨A, c, vs, e, h1, h2, ht, h3⟩ := h
  exact ⟨A, c, vs, e, h1, h2, ⟨ht.len, ht.each, fun k hk => ⟨Nat.zero_le _, (ht.lt k hk).2⟩⟩, h3⟩
theorem Wl.hold (h : Wl w0 w l F i D s m q) (ho : Only [] w w') (ht : TxV w.heap.size w' B v L) : Wh w0 w' l (B ++ F) i D s m q B v L :=
  ⟨h.more ho B ht.lt, ht.zero, fun k hk => ⟨List.mem_append_left _ hk, fun e => by have h1 := (h.fp_lt k e).2; have h2 := (ht.lt k hk).1; omega⟩⟩
theorem Wh.new (h : Wh w0 w l F i D s m q B v L) (ho : Only [] w w') : Wh w0 w' l F i D s m q B v L := ⟨h.wl.new ho, h.tv.new ho, h.mem⟩
theorem Wh.lit (h : Wh w0 w l F i D s m q B v L) (o : Obj) : Wh w0 (w.alloc o) l ([w.heap.size] ++ F) i D s m q B v L ∧ Far w0 ([w.heap.size] ++ F) m w.heap.size :=
  ⟨⟨(h.wl.lit o).1, h.tv.new (Only.alloc [] w o), fun k hk => ⟨List.mem_append_right _ (h.mem k hk).1, (h.mem k hk).2⟩⟩, (h.wl.lit o).2⟩
theorem Wh.went (h : Wh w0 w l F i D s m q B v L) (hw : WWent w0 w w' l F F' i D s' m m' q') : Wh w0 w' (l.set i (D, s')) F' i D s' m' q' B v L :=
  ⟨hw.wl, h.tv.same (fun k hk => hw.same k (h.mem k hk).1 (h.mem k hk).2), fun k hk => ⟨hw.sub k (h.mem k hk).1, fun e => by
    rcases hw.fresh k e with e2 | e2
    · exact (h.mem k hk).2 e2
    · exact e2 (h.mem k hk).1⟩⟩
theorem Wh.wide (h : Wh w0 w l F i D s m q B v L) (hd : Dr w0 w' l' F') (hi : l'[i]? = some (D, s)) (hs : ∀ k ∈ F, w'.heap[k]? = w.heap[k]?) (hsub : ∀ k ∈ F, k ∈ F') : Wh w0 w' l' F' i D s m q B v L :=
  ⟨h.wl.wide hd hi hs hsub, h.tv.same (fun k hk => hs k (h.mem k hk).1), fun k hk => ⟨hsub k (h.mem k hk).1, (h.mem k hk).2⟩⟩
end
theorem lit_one (W : World) (xs : List ByteArray) (hm : xs.length ≤ 4096) : ∃ B, TxV 0 ((W.alloc (.cells (strV xs).toArray 9)).alloc (.cells #[.slice (some ⟨W.heap.size, 0, none⟩) xs.length xs.length] 22)) B (.slice (some ⟨W.heap.size + 1, 0, none⟩) 1 1) [xs] := by
  have hl := (Array.getElem?_eq_some_iff.1 (heap_alloc_new W (.cells (strV xs).toArray 9))).1
  have h := lit_txs (W.alloc (.cells (strV xs).toArray 9)) _ _ _ ((Txs.none 0 _).snoc (lit_at W xs hm) (fun k hk => by rw [List.mem_singleton.1 hk]; exact ⟨Nat.zero_le _, hl⟩)) (by simp) (by simp)
  rw [alloc_size] at h
  exact ⟨_, h⟩
theorem lit_two (W : World) (xs : List ByteArray) (hm : xs.length ≤ 4096) : ∃ B, TxV 0 ((W.alloc (.cells (strV xs).toArray 9)).alloc (.cells #[.slice (some ⟨W.heap.size, 0, none⟩) xs.length xs.length, .slice none 0 0] 22)) B (.slice (some ⟨W.heap.size + 1, 0, none⟩) 2 2) [xs, []] := by
  have hl := (Array.getElem?_eq_some_iff.1 (heap_alloc_new W (.cells (strV xs).toArray 9))).1
  have h := lit_txs (W.alloc (.cells (strV xs).toArray 9)) _ _ _ (((Txs.none 0 _).snoc (lit_at W xs hm) (fun k hk => by rw [List.mem_singleton.1 hk]; exact ⟨Nat.zero_le _, hl⟩)).snoc (StrAt.nil _ 0) (fun k hk => by cases hk)) (by simp) (by simp)
  rw [alloc_size] at h
  exact ⟨_, h⟩
theorem same_true (L : List (List ByteArray)) (hl : L.length ≤ 4096) (hs : ∀ t ∈ L, t.length ≤ 4096) : quittanceref06_Same.f 9000 L L = some true := by
  obtain ⟨q, h1, h2⟩ := Pure.Same06_f 9000 L L hl hs (by decide)
  rw [h1, h2.2 rfl]
theorem ab_short : ∀ t ∈ [[tA, tB]], t.length ≤ 4096 := fun t ht => by rw [List.mem_singleton.1 ht]; decide
theorem abn_short : ∀ t ∈ [[tA, tB], []], t.length ≤ 4096 := fun t ht => by
  rcases List.mem_cons.1 ht with e | e
  · rw [e]; decide
  · rw [List.mem_singleton.1 e]; decide
theorem c_short : ∀ t ∈ [[tC]], t.length ≤ 4096 := fun t ht => by rw [List.mem_singleton.1 ht]; decide
set_option maxHeartbeats 8000000 in
theorem wal_head (w : World) : Calls Try.prog 7 #[] w fun e w' => e = .returned (.bool true) ∧ Below w.heap.size w w' := by
  have e5 : ∀ args w, (callFunc 5 args).run Try.prog w = .ok (.enter 5 args) w := enters_of Try.func5 (by kernel_rfl) rfl
  have e11 : ∀ args w, (callFunc 11 args).run Try.prog w = .ok (.enter 11 args) w := enters_of Try.func11 (by kernel_rfl) rfl
  have e20 : ∀ args w, (callFunc 20 args).run Try.prog w = .ok (.enter 20 args) w := enters_of Try.func20 (by kernel_rfl) rfl
  have e14 : ∀ args w, (callFunc 14 args).run Try.prog w = .ok (.enter 14 args) w := enters_of Try.func14 (by kernel_rfl) rfl
  have e17 : ∀ args w, (callFunc 17 args).run Try.prog w = .ok (.enter 17 args) w := enters_of Try.func17 (by kernel_rfl) rfl
  have e15 : ∀ args w, (callFunc 15 args).run Try.prog w = .ok (.enter 15 args) w := enters_of Try.func15 (by kernel_rfl) rfl
  have e26 : ∀ args w, (callFunc 26 args).run Try.prog w = .ok (.enter 26 args) w := enters_of Try.func26 (by kernel_rfl) rfl
  have e22 : ∀ args w, (callFunc 22 args).run Try.prog w = .ok (.enter 22 args) w := enters_of Try.func22 (by kernel_rfl) rfl
  have e13 : ∀ args w, (callFunc 13 args).run Try.prog w = .ok (.enter 13 args) w := enters_of Try.func13 (by kernel_rfl) rfl
  go_enter Try.func7, Try.ntmps7
  go_wp2_with fail
  go_at_call 5
  refine ((Dr.start w).make 16 (by decide) (by decide)).mono ?_
  rintro e w1 ⟨v, rfl, D, rfl, hd1, -⟩
  replace hd1 : Dr w w1 [(D, newS 16)] [] := hd1
  have hop := Wal_Open hd1 (i := 0) (D := D) (s := newS 16) rfl (by decide) (by decide)
  rw [openW_new] at hop
  have HOP := hid hop
  clear hd1 hop
  unfold ptr at HOP ⊢
  go_wp2_with fail
  go_at_call 11
  refine HOP.out.mono ?_
  rintro e w2 ⟨-, m2, F2, rfl, hw2, -, -, -⟩
  have HW2 := hid hw2
  have HL2 := hid (hw2.lit (.cells (strV [tA, tB]).toArray 9))
  clear hw2 HOP
  obtain ⟨O, hO⟩ : ∃ O, m2.O = O := ⟨_, rfl⟩
  have HO := hid hO
  rw [hO]
  clear hO
  go_wp2_with fail
  go_at_call 20
  have hcm := Wal_Commit HL2.out.1 (some ⟨w2.heap.size, 0, none⟩) 2 [tA, tB] [w2.heap.size] (lit_at w2 [tA, tB] (by decide)) (fun k hk => by rw [List.mem_singleton.1 hk]; exact HL2.out.2) fine_ab (by decide) (by decide)
  unfold ptr at hcm
  rw [HO.out] at hcm
  refine hcm.mono ?_
  rintro e w3 ⟨rfl, F3, m3, hwent⟩
  rw [show commitW (newS 16) (q0 (16 / 2)) [tA, tB] = hP1 from rfl] at hwent ⊢
  rw [head_1.1]
  have HW3 := hid hwent.wl
  have HO3 := hid (hwent.obj.1.trans HO.out)
  clear hwent hcm HL2 HW2 HO
  go_wp2_with fail
  go_at_call 14
  have htx := Wal_Txns HW3.out (by rw [head_1.2.1]; decide) (by rw [head_1.2.1]; intro t ht; rw [List.mem_singleton.1 ht]; decide)
  rw [head_1.2.1] at htx
  unfold ptr at htx
  rw [HO3.out] at htx
  refine htx.mono ?_
  rintro e w4 ⟨v1, B1, rfl, ht4, ho4⟩
  have HH4 := hid (HW3.out.hold ho4 ht4)
  clear htx ht4 ho4 HW3
  go_wp2_with fail
  go_at_call 17
  have hrm := Wal_Room HH4.out.wl
  rw [head_1.2.2.1] at hrm
  unfold ptr at hrm
  rw [HO3.out] at hrm
  refine hrm.mono ?_
  rintro e w5 ⟨rfl, ho5⟩
  have HH5 := hid (HH4.out.new ho5)
  clear hrm ho5 HH4
  go_wp2_with fail
  go_at_call 20
  have hcm := Wal_Commit HH5.out.wl none 0 [] [] (StrAt.nil w5 0) (fun k hk => by cases hk) fine_nil (by rw [head_1.2.2.2]; decide) (by rw [head_1.2.1]; decide)
  unfold ptr at hcm
  rw [HO3.out] at hcm
  refine hcm.mono ?_
  rintro e w6 ⟨rfl, F6, m6, hwent⟩
  rw [show commitW hP1.s hP1.q [] = hP2 from rfl] at hwent ⊢
  rw [head_2.1]
  have HH6 := hid (HH5.out.went hwent)
  have HO6 := hid (hwent.obj.1.trans HO3.out)
  clear hwent hcm HH5 HO3
  go_wp2_with fail
  go_at_call 26
  have hcp := HH6.out.wl.dr.copy HH6.out.wl.hi (by rw [head_2.2.2.2.2]; decide)
  unfold ptr at hcp
  refine hcp.mono ?_
  rintro e w7 ⟨vd, rfl, D', rfl, hd7, hs7⟩
  have HH7 := hid (HH6.out.wide hd7 rfl hs7 (fun k hk => hk))
  clear hcp hs7 hd7 HH6
  obtain ⟨qx, hx1, hx2, hx3, hx4⟩ := head_x
  have HX := hid (And.intro hx2 (And.intro hx3 hx4))
  have hop := Wal_Open HH7.out.wl.dr (i := 1) (D := D') (s := hP2.s) rfl (by rw [hLen2]; decide) (by rw [hLen2]; decide)
  rw [hx1] at hop
  have HOP := hid hop
  clear hop hx1 hx2 hx3 hx4
  unfold ptr at HOP ⊢
  go_wp2_with fail
  go_at_call 11
  refine HOP.out.mono ?_
  rintro e w8 ⟨ho8, m8, F8, rfl, hw8, hs8, -, -⟩
  have HX8 := hid hw8
  have HH8 := hid (HH7.out.wide hw8.dr rfl (fun k hk => ho8.block k (HH7.out.wl.dr.lt k hk) (by simp)) hs8)
  clear ho8 hw8 hs8 HOP HH7
  obtain ⟨OX, hOX⟩ : ∃ O, m8.O = O := ⟨_, rfl⟩
  have HOX := hid hOX
  rw [hOX]
  clear hOX
  go_wp2_with fail
  go_at_call 14
  have htx := Wal_Txns HX8.out (by rw [HX.out.1]; decide) (by rw [HX.out.1]; intro t ht; rcases List.mem_cons.1 ht with e | e; (rw [e]; decide); (rw [List.mem_singleton.1 e]; decide))
  rw [HX.out.1] at htx
  unfold ptr at htx
  rw [HOX.out] at htx
  refine htx.mono ?_
  rintro e w9 ⟨v9, B9, rfl, ht9, ho9⟩
  have HX9 := hid (HX8.out.new ho9)
  have HH9 := hid (HH8.out.new ho9)
  have HT9 := hid ht9
  clear htx ht9 ho9 HX8 HH8
  go_wp2_with fail
  obtain ⟨BL, hlit⟩ := lit_two w9 [tA, tB] (by decide)
  have HOL := hid ((Only.alloc [] w9 (.cells (strV [tA, tB]).toArray 9)).trans (Only.alloc [] (w9.alloc (.cells (strV [tA, tB]).toArray 9)) (.cells #[.slice (some ⟨w9.heap.size, 0, none⟩) 2 2, .slice none 0 0] 22)) (fun _ h _ => h))
  have HLIT := hid hlit
  clear hlit
  go_at_call 13
  refine (Same_D (HT9.out.new HOL.out) HLIT.out (same_true _ (by decide) abn_short)).mono ?_
  rintro e w10 ⟨rfl, ho⟩
  have HX10 := hid (HX9.out.new (HOL.out.trans ho (fun _ h _ => h)))
  have HH10 := hid (HH9.out.new (HOL.out.trans ho (fun _ h _ => h)))
  clear ho HOL HLIT HT9 HX9 HH9
  go_wp2_with fail
  go_at_call 17
  have hrm := Wal_Room HX10.out
  rw [HX.out.2.1] at hrm
  unfold ptr at hrm
  rw [HOX.out] at hrm
  refine hrm.mono ?_
  rintro e w11 ⟨rfl, ho⟩
  have HX11 := hid (HX10.out.new ho)
  have HH11 := hid (HH10.out.new ho)
  clear hrm ho HX10 HH10
  go_wp2_with fail
  go_at_call 15
  have hag := Wal_Age HX11.out
  rw [HX.out.2.2] at hag
  unfold ptr at hag
  rw [HOX.out] at hag
  refine hag.mono ?_
  rintro e w12 ⟨rfl, ho⟩
  have HH12 := hid (HH11.out.new ho)
  have HL12 := hid (HH12.out.lit (.cells (strV [tC]).toArray 9))
  clear hag ho HX11 HH11 HX HOX HH12
  go_wp2_with fail
  go_at_call 22
  have hsv := Wal_Save HL12.out.1.wl (some ⟨w12.heap.size, 0, none⟩) 1 [tC] [w12.heap.size] (lit_at w12 [tC] (by decide)) (fun k hk => by rw [List.mem_singleton.1 hk]; exact HL12.out.2) fine_c (by rw [head_2.2.2.2.2]; decide)
  unfold ptr at hsv
  rw [HO6.out] at hsv
  refine hsv.mono ?_
  rintro e w13 ⟨rfl, F13, m13, hwent⟩
  rw [show saveW hP2.s hP2.q [tC] = hP3 from rfl] at hwent ⊢
  rw [head_3.1]
  have HH13 := hid (HL12.out.1.went hwent)
  have HO13 := hid (hwent.obj.1.trans HO6.out)
  clear hwent hsv HL12 HO6
  go_wp2_with fail
  go_at_call 11
  refine (WOpen_nil _).mono ?_
  rintro e w14 ⟨rfl, ho⟩
  have HH14 := hid (HH13.out.new ho)
  clear ho HH13
  go_wp2_with fail
  obtain ⟨BL, hlit⟩ := lit_one w14 [tA, tB] (by decide)
  have HOL := hid ((Only.alloc [] w14 (.cells (strV [tA, tB]).toArray 9)).trans (Only.alloc [] (w14.alloc (.cells (strV [tA, tB]).toArray 9)) (.cells #[.slice (some ⟨w14.heap.size, 0, none⟩) 2 2] 22)) (fun _ h _ => h))
  have HLIT := hid hlit
  clear hlit
  go_at_call 13
  refine (Same_D (HH14.out.tv.new HOL.out) HLIT.out (same_true _ (by decide) ab_short)).mono ?_
  rintro e w15 ⟨rfl, ho⟩
  have HW15 := hid (HH14.out.wl.new (HOL.out.trans ho (fun _ h _ => h)))
  clear ho HOL HLIT HH14
  go_wp2_with fail
  go_at_call 14
  have htx := Wal_Txns HW15.out (by rw [head_3.2.1]; decide) (by rw [head_3.2.1]; exact c_short)
  rw [head_3.2.1] at htx
  unfold ptr at htx
  rw [HO13.out] at htx
  refine htx.mono ?_
  rintro e w16 ⟨v16, B16, rfl, ht16, ho⟩
  have HW16 := hid (HW15.out.new ho)
  have HT16 := hid ht16
  clear htx ht16 ho HW15
  go_wp2_with fail
  obtain ⟨BL, hlit⟩ := lit_one w16 [tC] (by decide)
  have HOL := hid ((Only.alloc [] w16 (.cells (strV [tC]).toArray 9)).trans (Only.alloc [] (w16.alloc (.cells (strV [tC]).toArray 9)) (.cells #[.slice (some ⟨w16.heap.size, 0, none⟩) 1 1] 22)) (fun _ h _ => h))
  have HLIT := hid hlit
  clear hlit
  go_at_call 13
  refine (Same_D (HT16.out.new HOL.out) HLIT.out (same_true _ (by decide) c_short)).mono ?_
  rintro e w17 ⟨rfl, ho⟩
  have HW17 := hid (HW16.out.new (HOL.out.trans ho (fun _ h _ => h)))
  clear ho HOL HLIT HW16 HT16
  go_wp2_with fail
  go_at_call 15
  have hag := Wal_Age HW17.out
  rw [head_3.2.2.2] at hag
  unfold ptr at hag
  rw [HO13.out] at hag
  refine hag.mono ?_
  rintro e w18 ⟨rfl, ho⟩
  have HW18 := hid (HW17.out.new ho)
  clear hag ho HW17
  go_wp2_with fail
  go_at_call 17
  have hrm := Wal_Room HW18.out
  rw [head_3.2.2.1] at hrm
  unfold ptr at hrm
  rw [HO13.out] at hrm
  refine hrm.mono ?_
  rintro e w19 ⟨rfl, ho⟩
  have HB := hid (HW18.out.new ho).base
  clear hrm ho HW18
  go_wp2_with fail
  go_ret
  exact ⟨rfl, HB.out⟩
end Go.Proofs.Ytnhgakmnkpjpdaa

/- A log, and the document's beside it: two halves in a struct of the law's own. -/
set_option maxRecDepth 100000
set_option linter.unusedVariables false
set_option linter.unusedSimpArgs false
namespace Go.Proofs.Ytnhgakmnkpjpdaa
open Go Go.RowKit Go.Proofs.Ytnhgakmnkpjpdaa.Q Go.Proofs.YtnhgakmnkpjpdaaW.PrintWords Go.Proofs.YtnhgakmnkpjpdaaW.PrintLast Go.Proofs.YtnhgakmnkpjpdaaW.PrintMore
/-- An argument's texts. -/
theorem StrAt.of_arg {w : World} {A : Option Addr} {c : Nat} {t : List ByteArray} (hc : t.length ≤ c) (hC : Kd.C Kd.string w A t.length t) : ∃ BX, StrAt w BX (.slice A t.length c) t ∧ ∀ k ∈ BX, k < w.heap.size := by
  have hr := Kd.reads_of_C (enc := Value.string) (d := ByteArray.empty) (h1 := fun _ => rfl) hC
  by_cases h0 : 0 < t.length
  · obtain ⟨ad, e, hcell⟩ := hr.2.2 h0
    subst e
    have hlt : ad.block < w.heap.size := by
      have h1 := hcell 0 h0
      by_cases c1 : ad.block < w.heap.size
      · exact c1
      · exfalso
        have hn : w.heap[(ad.add 0).block]? = none := by rw [add_block]; exact Array.getElem?_eq_none (by omega)
        unfold World.cell? at h1
        rw [hn] at h1
        cases h1
    exact ⟨[ad.block], ⟨some ad, c, rfl, hc, hr, fun _ => ⟨ad, rfl, by simp, hlt⟩⟩, fun k hk => by rw [List.mem_singleton.1 hk]; exact hlt⟩
  · exact ⟨[], ⟨A, c, rfl, hc, hr, fun h => absurd h h0⟩, fun k hk => by cases hk⟩
/-- A block that texts do not lie in. -/
theorem StrAt.off {w : World} {B : List Nat} {v : Value} {t : List ByteArray} (h : StrAt w B v t) {Q : Nat} {x y : Value} (hQ : w.heap[Q]? = some (lgBox x y)) (hx : ∀ s, x ≠ .string s) (hy : ∀ s, y ≠ .string s) : StrAt w (B.filter fun k => k != Q) v t := by
  obtain ⟨A, c, rfl, hc, hr, hb⟩ := h
  refine ⟨A, c, rfl, hc, hr, fun h0 => ?_⟩
  obtain ⟨ad, e, hin, hlt⟩ := hb h0
  refine ⟨ad, e, ?_, hlt⟩
  rw [List.mem_filter]
  refine ⟨hin, ?_⟩
  rw [bne_iff_ne]
  intro e2
  obtain ⟨ad2, e3, hcell⟩ := hr.2.2 h0
  rw [e] at e3
  cases e3
  have h1 := hcell 0 h0
  unfold World.cell? at h1
  rw [add_block, e2, hQ] at h1
  have h2 : (#[x, y] : Array Value)[(ad.add 0).off]? = some (.string (t.getD 0 ByteArray.empty)) := by
    change (if (ad.add 0).spot.isSome = true then none else (#[x, y] : Array Value)[(ad.add 0).off]?) = _ at h1
    split at h1
    · cases h1
    · exact h1
  obtain ⟨hlt2, h3⟩ := Array.getElem?_eq_some_iff.1 h2
  have h4 : (ad.add 0).off < 2 := hlt2
  rcases (show (ad.add 0).off = 0 ∨ (ad.add 0).off = 1 by omega) with h5 | h5
  · rw [h5] at h2
    exact hx _ (Option.some.inj h2)
  · rw [h5] at h2
    exact hy _ (Option.some.inj h2)
structure Lg (w0 w : World) (l : List (Nat × DS)) (F : List Nat) (i D : Nat) (s : DS) (m : WM) (q : WS) (QB : Nat) (B : List Nat) (va vb : Value) (a b : List ByteArray) : Prop where
  wl : Wl w0 w l F i D s m q
  lg : LogAt w B va vb a b
  qb : w.heap[QB]? = some (lgBox va vb)
  q0 : w0.heap.size ≤ QB
  mem : ∀ k ∈ QB :: B, k ∈ F ∧ k ∉ m.fp
  ne : QB ∉ B
section
variable {w0 w w' : World} {l l' : List (Nat × DS)} {F F' : List Nat} {i D : Nat} {s s' : DS} {m m' : WM} {q q' : WS} {QB : Nat} {B : List Nat} {va vb : Value} {a b : List ByteArray}
theorem Lg.new (h : Lg w0 w l F i D s m q QB B va vb a b) (ho : Only [] w w') : Lg w0 w' l F i D s m q QB B va vb a b :=
  ⟨h.wl.new ho, h.lg.new ho, (ho.block QB (Array.getElem?_eq_some_iff.1 h.qb).1 (by simp)).trans h.qb, h.q0, h.mem, h.ne⟩
theorem Lg.cells (h : Lg w0 w l F i D s m q QB B va vb a b) : w.cell? ⟨QB, 0, none⟩ = some va ∧ w.cell? ⟨QB, 1, none⟩ = some vb ∧ ∀ j, w.frozen? ⟨QB, j, none⟩ = false :=
  ⟨cell_of_row _ _ _ _ _ _ h.qb, cell_of_row _ _ _ _ _ _ h.qb, fun j => frozen_of_row _ _ _ _ _ h.qb⟩
theorem LogAt.same (h : LogAt w B va vb a b) (hs : ∀ k ∈ B, w'.heap[k]? = w.heap[k]?) : LogAt w' B va vb a b := ⟨h.sa.same hs, h.sb.same hs, h.la, h.lb, fun k hk => lt_same (h.lt k hk) (hs k hk)⟩
theorem Lg.went (h : Lg w0 w l F i D s m q QB B va vb a b) (hw : WWent w0 w w' l F F' i D s' m m' q') : Lg w0 w' (l.set i (D, s')) F' i D s' m' q' QB B va vb a b := by
  have hs : ∀ k ∈ QB :: B, w'.heap[k]? = w.heap[k]? := fun k hk => hw.same k (h.mem k hk).1 (h.mem k hk).2
  refine ⟨hw.wl, h.lg.same (fun k hk => hs k (List.mem_cons_of_mem _ hk)), (hs QB (List.mem_cons_self ..)).trans h.qb, h.q0, fun k hk => ⟨hw.sub k (h.mem k hk).1, fun e => ?_⟩, h.ne⟩
  rcases hw.fresh k e with e2 | e2
  · exact (h.mem k hk).2 e2
  · exact e2 (h.mem k hk).1
end
end Go.Proofs.Ytnhgakmnkpjpdaa

/- Chapter 06: WalOpens: what its loops keep. -/
set_option maxRecDepth 100000
set_option linter.unusedVariables false
set_option linter.unusedSimpArgs false
namespace Go.Proofs.Ytnhgakmnkpjpdaa
open Go Go.RowKit Go.Proofs.Ytnhgakmnkpjpdaa.Q Go.Proofs.YtnhgakmnkpjpdaaW.PrintWords Go.Proofs.YtnhgakmnkpjpdaaW.PrintLast Go.Proofs.YtnhgakmnkpjpdaaW.PrintMore
/-! The document's halves, read from the drive -/
def Half (w : World) (g : Nat) (s : DS) (fr j : Nat) : Prop := ∃ cs, w.heap[g]? = some (.cells cs 9 (0, 0)) ∧ ∀ k, k < 8 → cs[k]? = some (.string (if k < j then readS s ((fr + k : Nat) : Int) else Pure.zB))
theorem Half.same {w w' : World} {g : Nat} {s : DS} {fr j : Nat} (h : Half w g s fr j) (hs : w'.heap[g]? = w.heap[g]?) : Half w' g s fr j := by
  obtain ⟨cs, h1, h2⟩ := h
  exact ⟨cs, hs.trans h1, h2⟩
theorem Half.set {w : World} {g : Nat} {s : DS} {fr j : Nat} (h : Half w g s fr j) (hj : j < 8) : Half (w.setCell ⟨g, j, none⟩ (.string (readS s ((fr + j : Nat) : Int)))) g s fr (j + 1) := by
  obtain ⟨cs, h1, h2⟩ := h
  refine ⟨_, set_heap w g j cs 9 _ h1, fun k hk => ?_⟩
  by_cases e : k = j
  · subst e
    have := h2 k hk
    rw [Array.getElem?_setIfInBounds_self_of_lt (Array.getElem?_eq_some_iff.1 this).1, if_pos (Nat.lt_succ_self _)]
  · rw [Array.getElem?_setIfInBounds_ne (Ne.symm e), h2 k hk]
    by_cases c : k < j
    · rw [if_pos c, if_pos (by omega)]
    · rw [if_neg c, if_neg (by omega)]
theorem Half.at {w : World} {g : Nat} {s : DS} {fr : Nat} (h : Half w g s fr 8) (c : Nat) (hc : 8 ≤ c) : StrAt w [g] (.slice (some ⟨g, 0, none⟩) 8 c) (rowSec s fr 8) := by
  obtain ⟨cs, h1, h2⟩ := h
  have hl := rowSec_len s fr 8
  refine ⟨_, c, by rw [hl], by rw [hl]; exact hc, ⟨rfl, by rw [hl]; decide, fun _ => ⟨_, rfl, fun j hj => ?_⟩⟩, fun _ => ⟨_, rfl, by simp, (Array.getElem?_eq_some_iff.1 h1).1⟩⟩
  rw [hl] at hj
  rw [Addr.add_lit, Nat.zero_add, cell_of_row _ _ _ _ _ _ h1, h2 j hj, if_pos hj, List.getD_eq_getElem?_getD, rowSec_at s fr 8 j hj]
  rfl
theorem Half.cell {w : World} {g : Nat} {s : DS} {fr j : Nat} (h : Half w g s fr j) (k : Nat) (hk : k < 8) : ∃ x, w.cell? ⟨g, k, none⟩ = some x ∧ w.frozen? ⟨g, k, none⟩ = false := by
  obtain ⟨cs, h1, h2⟩ := h
  exact ⟨_, (cell_of_row _ _ _ _ _ _ h1).trans (h2 k hk), frozen_of_row _ _ _ _ _ h1⟩
structure QS (w wr : World) (D : Nat) (s : DS) (QB ga gb ca cb ja jb : Nat) : Prop where
  dr : Dr w wr [(D, s)] [QB, ga, gb]
  qb : wr.heap[QB]? = some (lgBox (.slice (some ⟨ga, 0, none⟩) 8 ca) (.slice (some ⟨gb, 0, none⟩) 8 cb))
  ha : Half wr ga s 0 ja
  hb : Half wr gb s 8 jb
  ne : QB ≠ ga ∧ QB ≠ gb ∧ ga ≠ gb
  lo : w.heap.size ≤ QB ∧ w.heap.size ≤ ga ∧ w.heap.size ≤ gb
  cap : 8 ≤ ca ∧ 8 ≤ cb
section
variable {w wr w' : World} {D : Nat} {s : DS} {QB ga gb ca cb ja jb : Nat}
theorem QS.new (h : QS w wr D s QB ga gb ca cb ja jb) (ho : Only [] wr w') : QS w w' D s QB ga gb ca cb ja jb := by
  have hs : ∀ k ∈ [QB, ga, gb], w'.heap[k]? = wr.heap[k]? := fun k hk => ho.block k (h.dr.lt k hk) (by simp)
  exact ⟨h.dr.new ho, (hs QB (by simp)).trans h.qb, h.ha.same (hs ga (by simp)), h.hb.same (hs gb (by simp)), h.ne, h.lo, h.cap⟩
theorem QS.cells (h : QS w wr D s QB ga gb ca cb ja jb) : wr.cell? ⟨QB, 0, none⟩ = some (.slice (some ⟨ga, 0, none⟩) 8 ca) ∧ wr.cell? ⟨QB, 1, none⟩ = some (.slice (some ⟨gb, 0, none⟩) 8 cb) ∧ ∀ j, wr.frozen? ⟨QB, j, none⟩ = false :=
  ⟨cell_of_row _ _ _ _ _ _ h.qb, cell_of_row _ _ _ _ _ _ h.qb, fun j => frozen_of_row _ _ _ _ _ h.qb⟩
theorem QS.log (h : QS w wr D s QB ga gb ca cb 8 8) : LogAt wr [ga, gb] (.slice (some ⟨ga, 0, none⟩) 8 ca) (.slice (some ⟨gb, 0, none⟩) 8 cb) (rowSec s 0 8) (rowSec s 8 8) :=
  ⟨(h.ha.at ca h.cap.1).mono (by simp), (h.hb.at cb h.cap.2).mono (by simp), by rw [rowSec_len]; decide, by rw [rowSec_len]; decide, fun k hk => h.dr.lt k (List.mem_cons_of_mem _ hk)⟩
end
/-- A half that New has made. -/
theorem Half.made {w : World} {base : Nat} {P : Nat → Prop} {v : Value} (s : DS) (fr : Nat) (h : Kd.R Kd.string 9 w base P v (List.replicate 8 Pure.zB)) : ∃ g c, v = .slice (some ⟨g, 0, none⟩) 8 c ∧ 8 ≤ c ∧ base ≤ g ∧ g < w.heap.size ∧ Half w g s fr 0 ∧ P g := by
  obtain ⟨hst, hlt⟩ := StrAt.of_R h
  have hbd := (Kd.R_bound h).1
  obtain ⟨h0, inner, ho, hr⟩ := h
  obtain ⟨g, cap, cur, e, -⟩ := ownsRow_slice ho (by decide)
  have hl : (List.replicate 8 Pure.zB).length = 8 := rfl
  rw [hl] at e
  subst e
  obtain ⟨-, hg1, hg2, q, hq, cells, hcells⟩ := hbd g rfl
  have hq9 : q = 9 := by
    rcases List.mem_cons.1 hq with e | e
    · exact e
    · cases e
  subst hq9
  obtain ⟨A, c, e2, hc, -, -⟩ := hst
  obtain ⟨-, -, e4⟩ := Value.slice.inj e2
  refine ⟨g, cap, rfl, by rw [e4]; exact hc, hg1, hg2, ⟨cells, hcells, fun k hk => ?_⟩, h0 g rfl⟩
  have hx : (strV (List.replicate 8 Pure.zB))[k]? = some (.string Pure.zB) := by
    unfold strV
    rw [List.getElem?_map, List.getElem?_replicate, if_pos hk]; rfl
  have hcl := StrAt.cells (StrAt.of_R ⟨h0, inner, ho, hr⟩).1 k _ hx
  rw [Addr.add_lit, Nat.zero_add, cell_of_row _ _ _ _ _ _ hcells] at hcl
  rw [if_neg (by omega)]
  exact hcl
end Go.Proofs.Ytnhgakmnkpjpdaa
