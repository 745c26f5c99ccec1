/- Package sheaf: the contract of Get, by walking it. No condition but that what is read is not too long. -/
import Derived.Test.YthbbdilcclepoaaG4
set_option linter.unusedVariables false
set_option linter.unusedSimpArgs false
namespace Go.Proofs.Ythbbdilcclepoaa
open Go Go.RowKit Go.Proofs.Ythbbdilcclepoaa.Q Go.Proofs.YthbbdilcclepoaaW.PrintWords Go.Proofs.YthbbdilcclepoaaW.PrintLast Go.Proofs.YthbbdilcclepoaaW.PrintMore
/-- What Get does with one sector. -/
def ownStep (st : Int) (all : List UInt8) (b : ByteArray) : Option (Bool × Int × List UInt8) :=
  (leaf_Get.f b).bind fun x => some (x.2.2 && x.1 == (if all = [] then x.1 else st), (if all = [] then x.1 else st), all ++ x.2.1.data.toList)
def ownAll : List ByteArray → Int → List UInt8 → Option (Bool × Int × List UInt8)
  | [], st, all => some (true, st, all)
  | b :: r, st, all => (ownStep st all b).bind fun x => if x.1 = true then ownAll r x.2.1 x.2.2 else some (false, 0, [])
def getFail : Option (Int × ByteArray × Int × Bool) := some (0, ⟨#[]⟩, 0, false)
def sheaf_Get.f (l : List ByteArray) : Option (Int × ByteArray × Int × Bool) :=
  if l = [] then getFail else (ownStep 0 [] (rdOf ByteArray.empty l 0)).bind fun x => if x.1 = true then
    (tally_TakeNum.f (B x.2.2)).bind fun t => if t.2.2 = true then if t.1 > 98304 then getFail else
      (sheaf_Many.f 30 t.1).bind fun m => if m > (l.length : Int) then getFail else if 1 ≤ m ∧ m ≤ 10000 then
        (ownAll ((l.take m.toNat).drop 1) x.2.1 x.2.2).bind fun y => if y.1 = true then
          (tally_TakeText.f (B y.2.2)).bind fun s => (sheaf_Put.f y.2.1 s.1).bind fun p => if p.2 = 0 then
            (slices_Equal_string_string.f 11000 p.1 (l.take m.toNat)).bind fun q => if q = true then some (y.2.1, s.1, m, true) else getFail
          else getFail
        else getFail
      else none
    else getFail
  else getFail
theorem leaf_Get_size {b : ByteArray} {x} (h : leaf_Get.f b = some x) : x.2.1.size ≤ 48 := by
  unfold leaf_Get.f at h
  split at h
  · obtain rfl := Option.some.inj h
    simp only [ByteArray.size_extract]
    omega
  · obtain rfl := Option.some.inj h
    decide
/-- 'string(all)'. -/
theorem wpList_string_own {P : Program} {w : World} {ops : Array Oper} {rest : List Oper} {o : Oper} {a : Act} {Q : Exit → Act → World → Prop} (hgd : o.guard = none) (src dst : TypeId) (x : Operand) (ho : o.op = .convert src dst x) (e : TypeId) (hs : P.underlying src = some (.slice e)) (he : P.underlying e = some (.int .u8)) (hd : P.underlying dst = some .string)
    (base : Nat) (l : List UInt8) (v : Value) (hx : a.eval x = v) (hown : w.ownsRow base e 1 v l.length (l.map cb))
    (h : wpList P ops Q rest (a.put o.dst (.string (B l))) w) : wpList P ops Q (o :: rest) a w := by
  subst hx
  rcases hown.2 with ⟨hv, h0⟩ | ⟨g, cap, cur, hv, hb, hgb, hn, hm, hc, htk⟩
  · refine wpList_plain hgd fun K hK => ?_
    have hl : l = [] := List.eq_nil_of_length_eq_zero h0
    subst hl
    have hrun := run_convert_bytes_nil (P := P) w src e hs he 0 0 dst hd
    unfold Oper.wp execOp
    simp only [ho, hv, Sem.run_bind, hrun, Result.andThen_ok, Sem.run_pure]
    exact hK _ _ h
  · refine wpList_convert_back hgd src dst x ho e hs he hd g 0 cap l l.length rfl hv e cur (0, 0) hgb (fun j hj => ?_) h
    have e1 := congrArg (fun z => z[j]?) htk
    simp only [Nat.mul_one, List.getElem?_take, if_pos hj, List.getElem?_map, List.getElem?_eq_getElem hj, Option.map_some] at e1
    rw [Nat.zero_add, ← Array.getElem?_toList, e1, List.getD_eq_getElem?_getD, List.getElem?_eq_getElem hj]
    rfl
/-- The stamp's box is the first result. -/
theorem run_load22 (W : World) (S : Nat) (st : Int) (h : W.heap[S]? = some (.cells #[.int .u64 st] 40 (0, 0))) : (loadVar 40 ⟨S, 0, none⟩).run Try.prog W = .ok (.int .u64 st) W := by
  have hc : W.cell? ⟨S, 0, none⟩ = some (.int .u64 st) := by simp [World.cell?, h]
  have hagg : (isAgg 40).run Try.prog W = .ok false W := by
    unfold isAgg
    rw [Sem.run_bind, run_underlying Try.underlying40 W]
    rfl
  simp [loadVar, hagg, Go.load, Sem.run, hc, Result.andThen, Sem.run_bind]
/-- The two boxes, the slice's value told. -/
structure GetV (W : World) (A S base : Nat) (l : List UInt8) (st : Int) (v : Value) : Prop where
  all : W.heap[A]? = some (.cells #[v] 54 (0, 0))
  own : W.ownsRow base 5 1 v l.length (l.map cb)
  stamp : W.heap[S]? = some (.cells #[.int .u64 st] 40 (0, 0))
theorem GetV.below {W W' : World} {A S base : Nat} {l : List UInt8} {st : Int} {v : Value} (h : GetV W A S base l st v) (b : Below W.heap.size W W') : GetV W' A S base l st v :=
  ⟨(b.block _ (Array.getElem?_eq_some_iff.1 h.all).1).trans h.all, own_move h.own (fun k hk => b.block k (own_lt h.own k hk)), (b.block _ (Array.getElem?_eq_some_iff.1 h.stamp).1).trans h.stamp⟩
theorem GetV.cells {W : World} {A S base : Nat} {l : List UInt8} {st : Int} {v : Value} (h : GetV W A S base l st v) :
    W.cell? ⟨A, 0, none⟩ = some v ∧ W.cell? ⟨S, 0, none⟩ = some (.int .u64 st) ∧ W.frozen? ⟨S, 0, none⟩ = false := by
  have h1 := h.all
  have h2 := h.stamp
  refine ⟨by simp [World.cell?, h1], by simp [World.cell?, h2], by simp [World.frozen?, h2]⟩
theorem GetAt.v {W : World} {A S base : Nat} {l : List UInt8} {st : Int} (h : GetAt W A S base l st) : ∃ Av cv, GetV W A S base l st (.slice Av l.length cv) := by
  obtain ⟨⟨v, h1, h2⟩, h3⟩ := h
  obtain ⟨Av, cv, rfl⟩ := own_form h2
  exact ⟨Av, cv, h1, h2, h3⟩
theorem GetV.at {W : World} {A S base : Nat} {l : List UInt8} {st : Int} {v : Value} (h : GetV W A S base l st v) : GetAt W A S base l st := ⟨⟨v, h.all, h.own⟩, h.stamp⟩
/-- One sector, told by 'ownStep'. -/
theorem step_calls (b : ByteArray) (ok : Bool) (st' : Int) (l' : List UInt8) (A S base : Nat) (hAS : A ≠ S) (hA : A < base) (hS : S < base) (l : List UInt8) (hl : l.length ≤ 900000) (st : Int) (w0 w : World) (hs : ownStep st l b = some (ok, st', l')) (h : GetAt w A S base l st) (hbs : base ≤ w.heap.size)
    (hw : Below w0.heap.size w0 w) (h0A : w0.heap.size ≤ A) (h0S : w0.heap.size ≤ S) :
    Calls Try.prog 46 #[.string b, .pointer (some ⟨A, 0, none⟩), .pointer (some ⟨S, 0, none⟩)] w fun e w' =>
      e = .returned (.bool ok) ∧ ∃ Av cv, GetV w' A S base l' st' (.slice Av l'.length cv) ∧ Below w0.heap.size w0 w' ∧ base ≤ w'.heap.size ∧ l'.length ≤ l.length + 48 := by
  unfold ownStep at hs
  obtain ⟨⟨n, c, is⟩, hg, hs⟩ := Option.bind_eq_some_iff.mp hs
  simp only [Option.some.injEq, Prod.mk.injEq] at hs
  obtain ⟨rfl, rfl, rfl⟩ := hs
  have hc := leaf_Get_size hg
  refine (own_calls b n c is hg A S base hAS hA hS l (by dsimp only at hc; omega) st w h hbs).mono ?_
  rintro e w' ⟨rfl, h1, h2⟩
  obtain ⟨Av, cv, h3⟩ := h1.v
  have hb := h2 w0.heap.size h0A h0S
  have hb2 := h2 0 (Nat.zero_le _) (Nat.zero_le _)
  have hcl : c.data.toList.length = c.size := Array.length_toList
  refine ⟨rfl, Av, cv, h3, hw.trans hb, Nat.le_trans hbs hb2.size, ?_⟩
  rw [List.length_append, hcl]
  dsimp only at hc
  omega
theorem TakeNum_range {b : ByteArray} {n : Int} {r : ByteArray} {is : Bool} (h : tally_TakeNum.f b = some (n, r, is)) : 0 ≤ n ∧ n < 18446744073709551616 := by
  have hs := tally_TakeNum_size h
  unfold tally_TakeNum.f at h
  rw [if_pos hs] at h
  cases ht : takeN b.data.toList with
  | none =>
    rw [ht] at h
    obtain ⟨rfl, _⟩ := Prod.mk.inj (Option.some.inj h)
    exact ⟨by decide, by decide⟩
  | some x =>
    obtain ⟨m, l⟩ := x
    rw [ht] at h
    obtain ⟨rfl, _⟩ := Prod.mk.inj (Option.some.inj h)
    have := (takeN_once ht).1
    exact ⟨by omega, by omega⟩
theorem drop_rdOf (l : List ByteArray) (i : Int) (h0 : 0 ≤ i) (h1 : i < (l.length : Int)) : l.drop i.toNat = rdOf ByteArray.empty l i :: l.drop (i.toNat + 1) := by
  have h2 : i.toNat < l.length := by omega
  rw [List.drop_eq_getElem_cons h2]
  unfold rdOf
  rw [List.getD_eq_getElem?_getD, List.getElem?_eq_getElem h2]
  rfl
theorem get_start (w : World) : GetAt ((w.alloc (.cells #[.int .u64 0] 40)).alloc (.cells #[.slice none 0 0] 54)) (w.heap.size + 1) w.heap.size (w.heap.size + 2) [] 0 :=
  ⟨⟨.slice none 0 0, by have := heap_alloc_new (w.alloc (Obj.cells #[Value.int IntKind.u64 0] 40)) (Obj.cells #[Value.slice none 0 0] 54); simpa using this, ⟨rfl, .inl ⟨rfl, rfl⟩⟩⟩, (Below.heap_alloc _ _ _ (by simp)).trans (heap_alloc_new w _)⟩
theorem start_below (w : World) : Below w.heap.size w ((w.alloc (.cells #[.int .u64 0] 40)).alloc (.cells #[.slice none 0 0] 54)) := ((Below.refl _ w).alloc (Nat.le_refl _) _).alloc (by simp) _
set_option maxRecDepth 100000 in
set_option maxHeartbeats 4000000 in
theorem sheaf_Get.calls (A0 : Option Addr) (c0 : Nat) (l0 : List ByteArray) (r1 : Int) (r2 : ByteArray) (r3 : Int) (r4 : Bool) (w : World) (hr0 : Kd.C Kd.string w A0 l0.length l0) (hc0 : l0.length ≤ c0) (h : sheaf_Get.f l0 = some (r1, r2, r3, r4)) :
    Calls Try.prog 34 #[.slice A0 l0.length c0] w fun e w' => e = .returned (.tuple #[.int .u64 r1, .string r2, .int .i64 r3, .bool r4]) ∧ Below w.heap.size w w' := by
  unfold sheaf_Get.f at h
  have HR0 := hid hr0
  have HC0 := hid hc0
  clear hr0 hc0
  by_cases hl : l0 = []
  · rw [if_pos hl] at h
    unfold getFail at h
    simp only [Option.some.injEq, Prod.mk.injEq] at h
    obtain ⟨rfl, rfl, rfl, rfl⟩ := h
    have c1 : ((l0.length : Int) == 0) = true := by rw [hl]; rfl
    clear hl HR0 HC0
    go_enter Try.func34, Try.ntmps34
    go_wp2
    refine bodyPost_ret (v := .tuple #[.int .u64 0, .string ⟨#[]⟩, .int .i64 0, .bool false]) ?_ rfl ⟨rfl, start_below w⟩
    have h0 := run_load22 _ w.heap.size 0 (get_start w).stamp
    simp [results, Try.results34, asAddr, h0]
  · rw [if_neg hl] at h
    have hlp : 0 < l0.length := List.length_pos_iff.2 hl
    have c1 : ((l0.length : Int) == 0) = false := beq_eq_false_iff_ne.2 (by omega)
    have HLP := hid hlp
    have p0 : (0 : Int) ≤ (0 : Int) := by omega
    have q0 : (0 : Int) < (l0.length : Int) := by omega
    obtain ⟨ad, e0, hx0⟩ := Kd.at_string HR0.out 0 p0 q0
    cases e0
    have qi : (0 < l0.length) = True := eq_true hlp
    (try rw [show ((0 : Int)).toNat = 0 from rfl] at hx0)
    (try rw [Addr.add_zero'] at hx0)
    have hx1 : ((w.alloc (.cells #[.int .u64 0] 40)).alloc (.cells #[.slice none 0 0] 54)).cell? ad = some (.string (rdOf ByteArray.empty l0 0)) := ((start_below w).cell (World.block_lt_of_cell? w _ hx0)).trans hx0
    replace q0 := eq_true q0
    obtain ⟨⟨ok1, st1, all1⟩, hst1, h⟩ := Option.bind_eq_some_iff.mp h
    have HST1 := hid hst1
    have HX0 := hid hx0
    clear hl hst1 hlp hx0
    cases ok1 with
    | false =>
      rw [if_neg (by simp)] at h
      unfold getFail at h
      simp only [Option.some.injEq, Prod.mk.injEq] at h
      obtain ⟨rfl, rfl, rfl, rfl⟩ := h
      go_enter Try.func34, Try.ntmps34
      go_wp2_with ((go_at_call 46; refine (step_calls (rdOf ByteArray.empty l0 0) false st1 all1 (w.heap.size + 1) w.heap.size (w.heap.size + 2) (by omega) (by omega) (by omega) [] (by simp) 0 w _ HST1.out (get_start w) (by simp) (start_below w) (by omega) (Nat.le_refl _)).mono ?_; rintro e w3 ⟨rfl, Av, cv, hg3, hb3, hz3, hl3⟩; have HGA := hid hg3; have HBW := hid hb3; have HZ3 := hid hz3; have HL3 := hid hl3; clear hg3 hb3 hz3 hl3; obtain ⟨hcA_, hcS_, hfS_⟩ := HGA.out.cells))
      refine bodyPost_ret (v := .tuple #[.int .u64 0, .string ⟨#[]⟩, .int .i64 0, .bool false]) ?_ rfl ⟨rfl, HBW.out.setCell (p := ⟨w.heap.size, 0, none⟩) (Nat.le_refl _) _⟩
      have h0 := run_load22 _ w.heap.size 0 (setCell_row _ w.heap.size 0 _ 40 (0, 0) _ HGA.out.stamp)
      simp [results, Try.results34, asAddr, h0]
    | true =>
      rw [if_pos rfl] at h
      obtain ⟨⟨tn, tr, tis⟩, htn, h⟩ := Option.bind_eq_some_iff.mp h
      have HTN := hid htn
      clear htn
      cases tis with
      | false =>
        rw [if_neg (by simp)] at h
        unfold getFail at h
        simp only [Option.some.injEq, Prod.mk.injEq] at h
        obtain ⟨rfl, rfl, rfl, rfl⟩ := h
        go_enter Try.func34, Try.ntmps34
        go_wp2_with (first
          | (go_at_call 46; refine (step_calls (rdOf ByteArray.empty l0 0) true st1 all1 (w.heap.size + 1) w.heap.size (w.heap.size + 2) (by omega) (by omega) (by omega) [] (by simp) 0 w _ HST1.out (get_start w) (by simp) (start_below w) (by omega) (Nat.le_refl _)).mono ?_; rintro e w3 ⟨rfl, Av, cv, hg3, hb3, hz3, hl3⟩; have HGA := hid hg3; have HBW := hid hb3; have HZ3 := hid hz3; have HL3 := hid hl3; clear hg3 hb3 hz3 hl3; obtain ⟨hcA_, hcS_, hfS_⟩ := HGA.out.cells)
          | (refine wpList_string_own rfl 54 9 (.tmp 27) rfl 5 Try.underlying54 Try.underlying5 Try.underlying9 (w.heap.size + 2) all1 _ rfl HGA.out.own ?_)
          | (go_at_call 48; refine (tally_TakeNum.calls (B all1) tn tr false _ HTN.out).mono ?_; rintro e w4 ⟨rfl, hd4⟩; have b4 := hd4.below; clear hd4; have n0_ := hid (GetV.below HGA.out b4); have n1_ := hid (below_step HBW.out b4); clear HGA HBW b4; have HGA := n0_; have HBW := n1_; clear n0_ n1_; obtain ⟨hcA_, hcS_, hfS_⟩ := HGA.out.cells))
        refine bodyPost_ret (v := .tuple #[.int .u64 0, .string ⟨#[]⟩, .int .i64 0, .bool false]) ?_ rfl ⟨rfl, HBW.out.setCell (p := ⟨w.heap.size, 0, none⟩) (Nat.le_refl _) _⟩
        have h0 := run_load22 _ w.heap.size 0 (setCell_row _ w.heap.size 0 _ 40 (0, 0) _ HGA.out.stamp)
        simp [results, Try.results34, asAddr, h0]
      | true =>
        rw [if_pos rfl] at h
        dsimp only at h
        by_cases hbig : tn > 98304
        · rw [if_pos hbig] at h
          unfold getFail at h
          simp only [Option.some.injEq, Prod.mk.injEq] at h
          obtain ⟨rfl, rfl, rfl, rfl⟩ := h
          have cb1 : decide ((98304 : Int) < tn) = true := decide_eq_true hbig
          clear hbig
          go_enter Try.func34, Try.ntmps34
          go_wp2_with (first
            | (go_at_call 46; refine (step_calls (rdOf ByteArray.empty l0 0) true st1 all1 (w.heap.size + 1) w.heap.size (w.heap.size + 2) (by omega) (by omega) (by omega) [] (by simp) 0 w _ HST1.out (get_start w) (by simp) (start_below w) (by omega) (Nat.le_refl _)).mono ?_; rintro e w3 ⟨rfl, Av, cv, hg3, hb3, hz3, hl3⟩; have HGA := hid hg3; have HBW := hid hb3; have HZ3 := hid hz3; have HL3 := hid hl3; clear hg3 hb3 hz3 hl3; obtain ⟨hcA_, hcS_, hfS_⟩ := HGA.out.cells)
            | (refine wpList_string_own rfl 54 9 (.tmp 27) rfl 5 Try.underlying54 Try.underlying5 Try.underlying9 (w.heap.size + 2) all1 _ rfl HGA.out.own ?_)
            | (go_at_call 48; refine (tally_TakeNum.calls (B all1) tn tr true _ HTN.out).mono ?_; rintro e w4 ⟨rfl, hd4⟩; have b4 := hd4.below; clear hd4; have n0_ := hid (GetV.below HGA.out b4); have n1_ := hid (below_step HBW.out b4); clear HGA HBW b4; have HGA := n0_; have HBW := n1_; clear n0_ n1_; obtain ⟨hcA_, hcS_, hfS_⟩ := HGA.out.cells))
          refine bodyPost_ret (v := .tuple #[.int .u64 0, .string ⟨#[]⟩, .int .i64 0, .bool false]) ?_ rfl ⟨rfl, HBW.out.setCell (p := ⟨w.heap.size, 0, none⟩) (Nat.le_refl _) _⟩
          have h0 := run_load22 _ w.heap.size 0 (setCell_row _ w.heap.size 0 _ 40 (0, 0) _ HGA.out.stamp)
          simp [results, Try.results34, asAddr, h0]
        · rw [if_neg hbig] at h
          have cb1 : decide ((98304 : Int) < tn) = false := decide_eq_false hbig
          have htn0 : 0 ≤ tn := (TakeNum_range HTN.out).1
          have hwn : wrap64 tn = tn := wrap64_in' _ (by omega) (by omega)
          have HB98 := hid hbig
          have HT0 := hid htn0
          clear hbig htn0
          obtain ⟨m, hm, h⟩ := Option.bind_eq_some_iff.mp h
          have HM := hid hm
          clear hm
          by_cases hmany : m > (l0.length : Int)
          · rw [if_pos hmany] at h
            unfold getFail at h
            simp only [Option.some.injEq, Prod.mk.injEq] at h
            obtain ⟨rfl, rfl, rfl, rfl⟩ := h
            have cb2 : decide ((l0.length : Int) < m) = true := decide_eq_true hmany
            clear hmany
            go_enter Try.func34, Try.ntmps34
            go_wp2_with (first
              | (go_at_call 46; refine (step_calls (rdOf ByteArray.empty l0 0) true st1 all1 (w.heap.size + 1) w.heap.size (w.heap.size + 2) (by omega) (by omega) (by omega) [] (by simp) 0 w _ HST1.out (get_start w) (by simp) (start_below w) (by omega) (Nat.le_refl _)).mono ?_; rintro e w3 ⟨rfl, Av, cv, hg3, hb3, hz3, hl3⟩; have HGA := hid hg3; have HBW := hid hb3; have HZ3 := hid hz3; have HL3 := hid hl3; clear hg3 hb3 hz3 hl3; obtain ⟨hcA_, hcS_, hfS_⟩ := HGA.out.cells)
              | (refine wpList_string_own rfl 54 9 (.tmp 27) rfl 5 Try.underlying54 Try.underlying5 Try.underlying9 (w.heap.size + 2) all1 _ rfl HGA.out.own ?_)
              | (go_at_call 48; refine (tally_TakeNum.calls (B all1) tn tr true _ HTN.out).mono ?_; rintro e w4 ⟨rfl, hd4⟩; have b4 := hd4.below; clear hd4; have n0_ := hid (GetV.below HGA.out b4); have n1_ := hid (below_step HBW.out b4); clear HGA HBW b4; have HGA := n0_; have HBW := n1_; clear n0_ n1_; obtain ⟨hcA_, hcS_, hfS_⟩ := HGA.out.cells)
              | (go_at_call 49; refine (sheaf_Many.calls 30 tn m _ HM.out).mono ?_; rintro e w5 ⟨rfl, b5⟩; have n0_ := hid (GetV.below HGA.out b5); have n1_ := hid (below_step HBW.out b5); clear HGA HBW b5; have HGA := n0_; have HBW := n1_; clear n0_ n1_; obtain ⟨hcA_, hcS_, hfS_⟩ := HGA.out.cells))
            refine bodyPost_ret (v := .tuple #[.int .u64 0, .string ⟨#[]⟩, .int .i64 0, .bool false]) ?_ rfl ⟨rfl, HBW.out.setCell (p := ⟨w.heap.size, 0, none⟩) (Nat.le_refl _) _⟩
            have h0 := run_load22 _ w.heap.size 0 (setCell_row _ w.heap.size 0 _ 40 (0, 0) _ HGA.out.stamp)
            simp [results, Try.results34, asAddr, h0]
          · rw [if_neg hmany] at h
            have cb2 : decide ((l0.length : Int) < m) = false := decide_eq_false hmany
            by_cases hm1 : 1 ≤ m ∧ m ≤ 10000
            · rw [if_pos hm1] at h
              obtain ⟨⟨ok2, st2, all2⟩, hst2, h⟩ := Option.bind_eq_some_iff.mp h
              obtain ⟨i9, hi9, hz9⟩ := Option.map_eq_some_iff.1 info9
              simp only [Prod.mk.injEq] at hz9
              obtain ⟨A2, hcut, hrd, hcl⟩ := print_mid_of (P := Try.prog) Value.string (⟨#[]⟩ : ByteArray) 22 9 .i64 .i64 Try.underlying22 hi9 hz9.2.1 (some ad) c0 l0 1 m (by decide) hm1.1 (by omega) HC0.out
              obtain ⟨L2, hL2⟩ : ∃ L2, L2 = (l0.take m.toNat).drop (1 : Int).toNat := ⟨_, rfl⟩
              rw [← hL2] at hcut hrd hcl
              have hlen2 : (L2.length : Int) = m - 1 := by rw [hL2, List.length_drop, List.length_take]; omega
              have HLEN2 := hid hlen2
              have HMM := hid hmany
              have HM1 := hid hm1
              have HL2 := hid hL2
              have HR2 := hid (Kd.C_of_reads (h1 := fun _ => rfl) (hrd w (Kd.reads_of_C HR0.out)))
              have HH := Aside0.mk h
              have HST2 := Aside0.mk hst2
              have e1 : (1 : Int).toNat = 1 := rfl
              clear hlen2 hmany hm1 hL2 hrd h hst2 hi9 hz9
              go_enter Try.func34, Try.ntmps34
              go_wp2_with (first
                | (go_at_call 46; refine (step_calls (rdOf ByteArray.empty l0 0) true st1 all1 (w.heap.size + 1) w.heap.size (w.heap.size + 2) (by omega) (by omega) (by omega) [] (by simp) 0 w _ HST1.out (get_start w) (by simp) (start_below w) (by omega) (Nat.le_refl _)).mono ?_; rintro e w3 ⟨rfl, Av, cv, hg3, hb3, hz3, hl3⟩; have HGA := hid hg3; have HBW := hid hb3; have HZ3 := hid hz3; have HL3 := hid hl3; clear hg3 hb3 hz3 hl3; obtain ⟨hcA_, hcS_, hfS_⟩ := HGA.out.cells)
                | (refine wpList_string_own rfl 54 9 (.tmp 27) rfl 5 Try.underlying54 Try.underlying5 Try.underlying9 (w.heap.size + 2) all1 _ rfl HGA.out.own ?_)
                | (go_at_call 48; refine (tally_TakeNum.calls (B all1) tn tr true _ HTN.out).mono ?_; rintro e w4 ⟨rfl, hd4⟩; have b4 := hd4.below; clear hd4; have n0_ := hid (GetV.below HGA.out b4); have n1_ := hid (below_step HBW.out b4); clear HGA HBW b4; have HGA := n0_; have HBW := n1_; clear n0_ n1_; obtain ⟨hcA_, hcS_, hfS_⟩ := HGA.out.cells)
                | (go_at_call 49; refine (sheaf_Many.calls 30 tn m _ HM.out).mono ?_; rintro e w5 ⟨rfl, b5⟩; have n0_ := hid (GetV.below HGA.out b5); have n1_ := hid (below_step HBW.out b5); clear HGA HBW b5; have HGA := n0_; have HBW := n1_; clear n0_ n1_; obtain ⟨hcA_, hcS_, hfS_⟩ := HGA.out.cells))
              go_loopg [3, 4, 5, 11, 54] L2.length (fun kq v3_ v4_ v5_ v11 v54 wr => ∃ (i : Int) (st : Int) (al : List UInt8), v4_ = .int .i64 m ∧ v54 = .int .i64 i ∧ Aside0 (0 ≤ i ∧ i ≤ (L2.length : Int)) ∧ Aside0 (ownAll (L2.drop i.toNat) st al = some (ok2, st2, all2)) ∧ Aside0 (∃ Av cv, GetV wr (w.heap.size + 1) w.heap.size (w.heap.size + 2) al st (.slice Av al.length cv)) ∧ Aside0 (Below w.heap.size w wr) ∧ Aside0 (al.length ≤ 48 * (i.toNat + 1)) ∧ Aside0 ((kq : Int) = (L2.length : Int) - i))
              case atStart => exact ⟨0, st1, all1, rfl, rfl, ⟨by decide, by omega⟩, ⟨by have := HST2.out; rw [show (0 : Int).toNat = 0 from rfl, List.drop_zero, HL2.out]; exact this⟩, ⟨_, _, HGA.out⟩, ⟨HBW.out⟩, ⟨by have := HL3.out; simpa using this⟩, ⟨by omega⟩⟩
              case round =>
                clear HGA HBW
                obtain ⟨i, st, al, rfl, rfl, HI, HOA, ⟨Av2, cv2, hgv⟩, HBW0, HAL, HKQ⟩ := hrel
                have HGA := hid hgv
                have HBW := hid HBW0.out
                clear hgv HBW0
                obtain ⟨hcA_, hcS_, hfS_⟩ := HGA.out.cells
                have hbase : (w.heap.size + 2) ≤ wr.heap.size := (Array.getElem?_eq_some_iff.1 HGA.out.all).1
                have HBASE := hid hbase
                clear hbase
                by_cases hi : i < (L2.length : Int)
                · have ci : decide (i < (L2.length : Int)) = true := decide_eq_true hi
                  have pi : 0 ≤ i := HI.out.1
                  obtain ⟨ad2, e2, hx2⟩ := Kd.at_string HR2.out i pi hi
                  cases e2
                  replace hx2 := (HBW.out.cell (World.block_lt_of_cell? w _ hx2)).trans hx2
                  have hdr := drop_rdOf L2 i pi hi
                  have hoa := HOA.out
                  rw [hdr, ownAll] at hoa
                  obtain ⟨⟨ok, st', al'⟩, hs, hrest⟩ := Option.bind_eq_some_iff.mp hoa
                  have hal9 : al.length ≤ 900000 := by have := HAL.out; have := HLEN2.out; have := HM1.out; omega
                  have HS := hid hs
                  have HAL9 := hid hal9
                  have HII := hid hi
                  replace pi := eq_true pi
                  have qi2 := eq_true hi
                  have hwi : wrap64 (i + 1) = i + 1 := wrap64_in' _ (by have := HI.out.1; omega) (by have := HLEN2.out; have := HM1.out; omega)
                  clear hdr hoa hs hal9 hi
                  cases ok with
                  | false =>
                    rw [if_neg (by simp)] at hrest
                    simp only [Option.some.injEq, Prod.mk.injEq] at hrest
                    obtain ⟨rfl, rfl, rfl⟩ := hrest
                    have h := HH.out
                    rw [if_neg (by simp)] at h
                    unfold getFail at h
                    simp only [Option.some.injEq, Prod.mk.injEq] at h
                    obtain ⟨rfl, rfl, rfl, rfl⟩ := h
                    clear HH
                    go_wp2_with ((go_at_call 46; refine (step_calls (rdOf ByteArray.empty L2 i) false st' al' (w.heap.size + 1) w.heap.size (w.heap.size + 2) (by omega) (by omega) (by omega) al HAL9.out st w _ HS.out HGA.out.at HBASE.out HBW.out (by omega) (Nat.le_refl _)).mono ?_; rintro e w7 ⟨rfl, Av7, cv7, hg7, hb7, hz7, hl7⟩; clear HGA HBW; have HGA := hid hg7; have HBW := hid hb7; have HLA := hid hl7; clear hg7 hb7 hz7 hl7; obtain ⟨hcA_, hcS_, hfS_⟩ := HGA.out.cells))
                    refine bodyPost_ret (v := .tuple #[.int .u64 0, .string ⟨#[]⟩, .int .i64 0, .bool false]) ?_ rfl ⟨rfl, HBW.out.setCell (p := ⟨w.heap.size, 0, none⟩) (Nat.le_refl _) _⟩
                    have h0 := run_load22 _ w.heap.size 0 (setCell_row _ w.heap.size 0 _ 40 (0, 0) _ HGA.out.stamp)
                    simp [results, Try.results34, asAddr, h0]
                  | true =>
                    rw [if_pos rfl] at hrest
                    have HREST := Aside0.mk hrest
                    clear hrest
                    go_wp2_with ((go_at_call 46; refine (step_calls (rdOf ByteArray.empty L2 i) true st' al' (w.heap.size + 1) w.heap.size (w.heap.size + 2) (by omega) (by omega) (by omega) al HAL9.out st w _ HS.out HGA.out.at HBASE.out HBW.out (by omega) (Nat.le_refl _)).mono ?_; rintro e w7 ⟨rfl, Av7, cv7, hg7, hb7, hz7, hl7⟩; clear HGA HBW; have HGA := hid hg7; have HBW := hid hb7; have HLA := hid hl7; clear hg7 hb7 hz7 hl7; obtain ⟨hcA_, hcS_, hfS_⟩ := HGA.out.cells))
                    go_roundg (gk - 1)
                    case measure => have := HII.out; have := HKQ.out; omega
                    case rel => exact ⟨i + 1, st', al', rfl, by rw [hwi], ⟨by have := HI.out; have := HII.out; omega⟩, ⟨by rw [show (i + 1).toNat = i.toNat + 1 by have := HI.out; omega]; exact HREST.out⟩, ⟨_, _, HGA.out⟩, ⟨HBW.out⟩, ⟨by have := HLA.out; have := HAL.out; have := HI.out; omega⟩, ⟨by have := HII.out; have := HKQ.out; omega⟩⟩
                · have ci : decide (i < (L2.length : Int)) = false := decide_eq_false hi
                  have hie : L2.drop i.toNat = [] := List.drop_eq_nil_of_le (by omega)
                  have hoa := HOA.out
                  rw [hie, ownAll] at hoa
                  simp only [Option.some.injEq, Prod.mk.injEq] at hoa
                  obtain ⟨rfl, rfl, rfl⟩ := hoa
                  have h := HH.out
                  rw [if_pos rfl] at h
                  obtain ⟨⟨ts, tr2, tis⟩, htt, h⟩ := Option.bind_eq_some_iff.mp h
                  obtain ⟨⟨pl, pe⟩, hpp, h⟩ := Option.bind_eq_some_iff.mp h
                  have HTT := hid htt
                  have HPP := hid hpp
                  dsimp only at h
                  clear HH hie htt hpp hi HOA
                  by_cases hpe : pe = 0
                  · rw [if_pos hpe] at h
                    obtain ⟨q, hq, h⟩ := Option.bind_eq_some_iff.mp h
                    have HQ := hid hq
                    have cpe : (pe != 0) = false := bne_eq_false_iff_eq.2 hpe
                    have cpe2 : (pe == 0) = true := beq_iff_eq.2 hpe
                    obtain ⟨i9, hi9, hz9⟩ := Option.map_eq_some_iff.1 info9
                    simp only [Prod.mk.injEq] at hz9
                    obtain ⟨hcut2, hrd2, hcl2⟩ := print_take_of (P := Try.prog) Value.string (⟨#[]⟩ : ByteArray) 22 9 .i64 Try.underlying22 hi9 hz9.2.1 (some ad) c0 l0 m (by have := HM1.out; omega) (by have := HMM.out; omega) HC0.out
                    obtain ⟨L3, hL3⟩ : ∃ L3, L3 = l0.take m.toNat := ⟨_, rfl⟩
                    rw [← hL3] at hcut2 hrd2 hcl2 HQ
                    have HR3 := hid (Kd.C_of_reads (h1 := fun _ => rfl) (hrd2 w (Kd.reads_of_C HR0.out)))
                    have HCL2 := hid hcl2
                    clear hrd2 hcl2 hL3 hi9 hz9 hq hpe
                    cases q with
                    | false =>
                      rw [if_neg (by simp)] at h
                      unfold getFail at h
                      simp only [Option.some.injEq, Prod.mk.injEq] at h
                      obtain ⟨rfl, rfl, rfl, rfl⟩ := h
                      go_wp2_with (first
                        | (refine wpList_string_own rfl 54 9 (.tmp 64) rfl 5 Try.underlying54 Try.underlying5 Try.underlying9 (w.heap.size + 2) al _ rfl HGA.out.own ?_)
                        | (go_at_call 50; refine (tally_TakeText.calls (B al) ts tr2 tis _ HTT.out).mono ?_; rintro e w8 ⟨rfl, hd8⟩; have b8 := hd8.below; clear hd8; have n0_ := hid (GetV.below HGA.out b8); have n1_ := hid (below_step HBW.out b8); clear HGA HBW b8; have HGA := n0_; have HBW := n1_; clear n0_ n1_; obtain ⟨hcA_, hcS_, hfS_⟩ := HGA.out.cells)
                        | (go_at_call 51; refine (sheaf_Put.calls st ts pl pe _ HPP.out).mono ?_; rintro e w9 ⟨v9, rfl, hR9, b9⟩; obtain ⟨Ap, cp, rfl⟩ := Kd.R_slice hR9; have HR9 := hid hR9; clear hR9; have n0_ := hid (GetV.below HGA.out b9); have n1_ := hid (below_step HBW.out b9); clear HGA HBW b9; have HGA := n0_; have HBW := n1_; clear n0_ n1_; obtain ⟨hcA_, hcS_, hfS_⟩ := HGA.out.cells)
                        | (go_at_call 52; refine (slices_Equal_string_string.calls 11000 _ _ pl _ _ L3 false _ (Kd.R_reads' HR9.out).2.2 (Kd.R_reads' HR9.out).2.1 (Kd.C_below HR3.out HBW.out) HCL2.out HQ.out).mono ?_; rintro e w10 ⟨rfl, hd10⟩; have b10 := hd10.below; clear hd10; have n0_ := hid (GetV.below HGA.out b10); have n1_ := hid (below_step HBW.out b10); clear HGA HBW b10; have HGA := n0_; have HBW := n1_; clear n0_ n1_; obtain ⟨hcA_, hcS_, hfS_⟩ := HGA.out.cells))
                      refine bodyPost_ret (v := .tuple #[.int .u64 0, .string ⟨#[]⟩, .int .i64 0, .bool false]) ?_ rfl ⟨rfl, HBW.out.setCell (p := ⟨w.heap.size, 0, none⟩) (Nat.le_refl _) _⟩
                      have h0 := run_load22 _ w.heap.size 0 (setCell_row _ w.heap.size 0 _ 40 (0, 0) _ HGA.out.stamp)
                      simp [results, Try.results34, asAddr, h0]
                    | true =>
                      rw [if_pos rfl] at h
                      simp only [Option.some.injEq, Prod.mk.injEq] at h
                      obtain ⟨rfl, rfl, rfl, rfl⟩ := h
                      go_wp2_with (first
                        | (refine wpList_string_own rfl 54 9 (.tmp 64) rfl 5 Try.underlying54 Try.underlying5 Try.underlying9 (w.heap.size + 2) al _ rfl HGA.out.own ?_)
                        | (go_at_call 50; refine (tally_TakeText.calls (B al) ts tr2 tis _ HTT.out).mono ?_; rintro e w8 ⟨rfl, hd8⟩; have b8 := hd8.below; clear hd8; have n0_ := hid (GetV.below HGA.out b8); have n1_ := hid (below_step HBW.out b8); clear HGA HBW b8; have HGA := n0_; have HBW := n1_; clear n0_ n1_; obtain ⟨hcA_, hcS_, hfS_⟩ := HGA.out.cells)
                        | (go_at_call 51; refine (sheaf_Put.calls st ts pl pe _ HPP.out).mono ?_; rintro e w9 ⟨v9, rfl, hR9, b9⟩; obtain ⟨Ap, cp, rfl⟩ := Kd.R_slice hR9; have HR9 := hid hR9; clear hR9; have n0_ := hid (GetV.below HGA.out b9); have n1_ := hid (below_step HBW.out b9); clear HGA HBW b9; have HGA := n0_; have HBW := n1_; clear n0_ n1_; obtain ⟨hcA_, hcS_, hfS_⟩ := HGA.out.cells)
                        | (go_at_call 52; refine (slices_Equal_string_string.calls 11000 _ _ pl _ _ L3 true _ (Kd.R_reads' HR9.out).2.2 (Kd.R_reads' HR9.out).2.1 (Kd.C_below HR3.out HBW.out) HCL2.out HQ.out).mono ?_; rintro e w10 ⟨rfl, hd10⟩; have b10 := hd10.below; clear hd10; have n0_ := hid (GetV.below HGA.out b10); have n1_ := hid (below_step HBW.out b10); clear HGA HBW b10; have HGA := n0_; have HBW := n1_; clear n0_ n1_; obtain ⟨hcA_, hcS_, hfS_⟩ := HGA.out.cells))
                      first
                        | refine bodyPost_ret (v := .tuple #[.int .u64 st, .string ts, .int .i64 m, .bool true]) ?_ rfl ⟨rfl, HBW.out⟩
                        | refine bodyPost_ret (v := .tuple #[.int .u64 st, .string ts, .int .i64 m, .bool true]) ?_ rfl ⟨rfl, HBW.out.setCell (p := ⟨w.heap.size, 0, none⟩) (Nat.le_refl _) _⟩
                      have h0 := run_load22 _ w.heap.size st (setCell_row _ w.heap.size 0 _ 40 (0, 0) _ HGA.out.stamp)
                      simp [results, Try.results34, asAddr, h0]
                  · rw [if_neg hpe] at h
                    unfold getFail at h
                    simp only [Option.some.injEq, Prod.mk.injEq] at h
                    obtain ⟨rfl, rfl, rfl, rfl⟩ := h
                    have cpe : (pe != 0) = true := bne_iff_ne.2 hpe
                    have cpe2 : (pe == 0) = false := beq_eq_false_iff_ne.2 hpe
                    clear hpe
                    go_wp2_with (first
                      | (refine wpList_string_own rfl 54 9 (.tmp 64) rfl 5 Try.underlying54 Try.underlying5 Try.underlying9 (w.heap.size + 2) al _ rfl HGA.out.own ?_)
                      | (go_at_call 50; refine (tally_TakeText.calls (B al) ts tr2 tis _ HTT.out).mono ?_; rintro e w8 ⟨rfl, hd8⟩; have b8 := hd8.below; clear hd8; have n0_ := hid (GetV.below HGA.out b8); have n1_ := hid (below_step HBW.out b8); clear HGA HBW b8; have HGA := n0_; have HBW := n1_; clear n0_ n1_; obtain ⟨hcA_, hcS_, hfS_⟩ := HGA.out.cells)
                      | (go_at_call 51; refine (sheaf_Put.calls st ts pl pe _ HPP.out).mono ?_; rintro e w9 ⟨v9, rfl, hR9, b9⟩; obtain ⟨Ap, cp, rfl⟩ := Kd.R_slice hR9; have HR9 := hid hR9; clear hR9; have n0_ := hid (GetV.below HGA.out b9); have n1_ := hid (below_step HBW.out b9); clear HGA HBW b9; have HGA := n0_; have HBW := n1_; clear n0_ n1_; obtain ⟨hcA_, hcS_, hfS_⟩ := HGA.out.cells))
                    refine bodyPost_ret (v := .tuple #[.int .u64 0, .string ⟨#[]⟩, .int .i64 0, .bool false]) ?_ rfl ⟨rfl, HBW.out.setCell (p := ⟨w.heap.size, 0, none⟩) (Nat.le_refl _) _⟩
                    have h0 := run_load22 _ w.heap.size 0 (setCell_row _ w.heap.size 0 _ 40 (0, 0) _ HGA.out.stamp)
                    simp [results, Try.results34, asAddr, h0]
            · rw [if_neg hm1] at h; cases h
end Go.Proofs.Ythbbdilcclepoaa
