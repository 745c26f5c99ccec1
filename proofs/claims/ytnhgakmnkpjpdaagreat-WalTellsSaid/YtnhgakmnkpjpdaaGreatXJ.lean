import Derived.Test.YtnhgakmnkpjpdaaGreatX7
import Derived.Test.YtnhgakmnkpjpdaaGreatPZ
import Derived.Test.YtnhgakmnkpjpdaaGreatD8
import Derived.KernelRfl
import Derived.Test.YtnhgakmnkpjpdaaGreatDA
import Derived.Test.YtnhgakmnkpjpdaaGreatXA
import Derived.Test.YtnhgakmnkpjpdaaGreatQ7
/- A log beside others: more drives, more blocks; a slice that was written out; no drive. -/
set_option maxRecDepth 100000
set_option linter.unusedVariables false
set_option linter.unusedSimpArgs false
namespace Go.Proofs.YtnhgakmnkpjpdaaGreat
open Go Go.RowKit Go.Proofs.YtnhgakmnkpjpdaaGreat.Q Go.Proofs.YtnhgakmnkpjpdaaGreatW.PrintWords Go.Proofs.YtnhgakmnkpjpdaaGreatW.PrintLast Go.Proofs.YtnhgakmnkpjpdaaGreatW.PrintMore
attribute [local go_sem] Oper.semAt_some max2_int min2_int max_two min_two max_three min_three max_four min_four
theorem drawn_only {w w' : World} (h : Drawn0 w w') (fp : List Nat) : Only fp w w' := by
  obtain ⟨m, e⟩ := h; rw [e]; exact Only.drewN _ _ _
section
variable {w0 w w' : World} {l l' : List (Nat × DS)} {F F' : List Nat} {i D : Nat} {s : DS} {m : WM} {q : WS}
theorem Wl.wide (h : Wl w0 w l F i D s m q) (hd : Dr w0 w' l' F') (hi : l'[i]? = some (D, s)) (hs : ∀ k ∈ F, w'.heap[k]? = w.heap[k]?) (hsub : ∀ k ∈ F, k ∈ F') : Wl w0 w' l' F' i D s m q :=
  ⟨fun b => ⟨hd, hi, (h.rw b).row.same (fun k hk => hs k ((h.rw b).fp k hk)), fun k hk => hsub k ((h.rw b).fp k hk)⟩, h.ob.same (fun k hk => hs k (h.fpO k (by rw [← own_fp q m]; exact hk))), h.tx.same (fun k hk => hs k (h.fpB k hk)),
    fun k hk => hsub k (h.fpO k hk), fun k hk => hsub k (h.fpB k hk), h.d0, h.d1, h.d2⟩
theorem Wl.dr (h : Wl w0 w l F i D s m q) : Dr w0 w l F := (h.rw false).dr
theorem Wl.hi (h : Wl w0 w l F i D s m q) : l[i]? = some (D, s) := (h.rw false).hi
theorem Wl.fp_lt (h : Wl w0 w l F i D s m q) : ∀ k ∈ m.fp, w0.heap.size ≤ k ∧ k < w.heap.size := fun k hk => by
  rcases List.mem_append.1 hk with e | e
  · exact h.own_lt k e
  · rcases List.mem_append.1 e with e | e
    · exact (h.rw false).row.fp_lt k e
    · exact (h.rw true).row.fp_lt k e
theorem Wl.lit (h : Wl w0 w l F i D s m q) (o : Obj) : Wl w0 (w.alloc o) l ([w.heap.size] ++ F) i D s m q ∧ Far w0 ([w.heap.size] ++ F) m w.heap.size := by
  have hl := (Array.getElem?_eq_some_iff.1 (heap_alloc_new w o)).1
  refine ⟨h.more (Only.alloc [] w o) [w.heap.size] (fun k hk => by rw [List.mem_singleton.1 hk]; exact ⟨Nat.le_refl _, hl⟩), .inr ⟨by simp, fun e => ?_⟩⟩
  have := (h.fp_lt _ e).2
  omega
end
/-- A slice that was written out. -/
theorem lit_own (W : World) (xs : List ByteArray) (hm : xs.length ≤ 4096) : (W.alloc (.cells (strV xs).toArray 9)).ownsRow W.heap.size 9 1 (.slice (some ⟨W.heap.size, 0, none⟩) xs.length xs.length) xs.length (strV xs) := by
  refine ⟨by rw [strV_len, Nat.mul_one], .inr ⟨W.heap.size, xs.length, _, rfl, Nat.le_refl _, heap_alloc_new W _, Nat.le_refl _, by unfold maxLen; omega, by rw [List.size_toArray, strV_len, Nat.mul_one], ?_⟩⟩
  rw [List.toList_toArray, List.take_of_length_le (by rw [strV_len]; omega)]
theorem lit_at (W : World) (xs : List ByteArray) (hm : xs.length ≤ 4096) : StrAt (W.alloc (.cells (strV xs).toArray 9)) [W.heap.size] (.slice (some ⟨W.heap.size, 0, none⟩) xs.length xs.length) xs := StrAt.of_own (lit_own W xs hm)
theorem lit_txs (W : World) (vs : List Value) (B : List Nat) (L : List (List ByteArray)) (ht : Txs 0 W B vs L) (h0 : 0 < L.length) (hm : L.length ≤ 4096) :
    TxV 0 (W.alloc (.cells vs.toArray 32)) (W.heap.size :: B) (.slice (some ⟨W.heap.size, 0, none⟩) L.length L.length) L := by
  have hl := (Array.getElem?_eq_some_iff.1 (heap_alloc_new W (.cells vs.toArray 32))).1
  have ht2 := ht.kept (Only.alloc [] W (.cells vs.toArray 32)) (by simp)
  refine ⟨_, _, vs, rfl, Nat.le_refl _, by omega, ⟨ht2.len, fun j u t hu htt => (ht2.each j u t hu htt).mono (fun k hk => List.mem_cons_of_mem _ hk), fun k hk => ⟨Nat.zero_le _, ?_⟩⟩, fun _ => ⟨_, rfl, List.mem_cons_self .., fun j u hj => ?_⟩⟩
  · rcases List.mem_cons.1 hk with e | e
    · rw [e]; exact hl
    · exact (ht2.lt k e).2
  · have hadd : (⟨W.heap.size, 0, none⟩ : Addr).add j = ⟨W.heap.size, j, none⟩ := by rw [Addr.add_lit, Nat.zero_add]
    rw [hadd, cell_of_row _ _ _ _ _ _ (heap_alloc_new W _)]
    simpa using hj
theorem Same_D {w : World} {b1 b2 : Nat} {B1 B2 : List Nat} {v1 v2 : Value} {L1 L2 : List (List ByteArray)} (h1 : TxV b1 w B1 v1 L1) (h2 : TxV b2 w B2 v2 L2) {r : Bool} {k : Nat} (hr : quittanceref06_Same.f k L1 L2 = some r) :
    Calls Tryz.prog 14 #[v1, v2] w fun e w' => e = .returned (.bool r) ∧ Only [] w w' := by
  obtain ⟨A1, c1, rfl, hc1, hC1⟩ := h1.C
  obtain ⟨A2, c2, rfl, hc2, hC2⟩ := h2.C
  refine (quittanceref06_Same.calls k A1 c1 L1 A2 c2 L2 r w hC1 hc1 hC2 hc2 hr).mono ?_
  rintro e w2 ⟨rfl, hd⟩
  exact ⟨rfl, drawn_only hd []⟩
/-! No drive -/
theorem ROpen_nil (w : World) (a b : Int) : Calls Tryz.prog 25 #[.pointer none, .int .i64 a, .int .i64 b] w fun e w' => e = .returned (.tuple #[.pointer none, .int .i64 1]) ∧ w' = w := by
  go_enter Tryz.func25, Tryz.ntmps25
  go_wp2_with fail
  go_step3
  go_wp2_with (go_at_call 24; refine (Size_nil _).mono ?_; rintro e w' ⟨rfl, rfl⟩)
  try rw [Exit.noGoto_ret]
  go_ret2
  exact ⟨rfl, rfl⟩
set_option maxHeartbeats 2000000 in
theorem WOpen_nil (w : World) : Calls Tryz.prog 5 #[.pointer none] w fun e w' => e = .returned (.tuple #[.pointer none, .int .i64 1]) ∧ Only [] w w' := by
  have eq1 : (0 : Int).tdiv 2 = 0 := by decide
  have eq3 : IntKind.i64.wrap (0 : Int) = 0 := by decide
  have eq5 : IntKind.i64.wrap ((0 : Int) * 0) = 0 := by decide
  have e32 : ∀ args w, (callFunc 24 args).run Tryz.prog w = .ok (.enter 24 args) w := enters_of Tryz.func24 (by kernel_rfl) rfl
  have e33 : ∀ args w, (callFunc 25 args).run Tryz.prog w = .ok (.enter 25 args) w := enters_of Tryz.func25 (by kernel_rfl) rfl
  go_enter Tryz.func5, Tryz.ntmps5
  go_wp2_with (go_at_call 24; refine (Size_nil _).mono ?_; rintro e w' ⟨rfl, hw⟩; have hw2 := hw.symm; clear hw; subst hw2)
  go_loopg [20] 2 (fun kx s20 wr => s20 = .int .i64 0 ∧ 2 ≤ kx + 2 ∧ Hid (Only [] w wr))
  case atStart => exact ⟨rfl, by omega, Only.alloc _ _ _⟩
  case round =>
    obtain ⟨rfl, hk, HR⟩ := hrel
    have q1 : decide ((0 : Int) < 2) = true := by decide
    go_wp2_with fail
    go_at_call 25
    refine (ROpen_nil _ _ _).mono ?_
    rintro e w2 ⟨rfl, h2⟩
    have h3 := h2.symm
    clear h2
    subst h3
    go_wp2_with fail
    try rw [Exit.noGoto_ret]
    go_ret2
    exact ⟨rfl, HR.out⟩
end Go.Proofs.YtnhgakmnkpjpdaaGreat

/- Chapter 06: head's states, plain. -/
set_option maxRecDepth 100000
set_option linter.unusedVariables false
set_option linter.unusedSimpArgs false
namespace Go.Proofs.YtnhgakmnkpjpdaaGreat
open Go Go.RowKit Go.Proofs.YtnhgakmnkpjpdaaGreat.Q Go.Proofs.YtnhgakmnkpjpdaaGreat.Pure Go.Proofs.YtnhgakmnkpjpdaaGreatW.PrintWords Go.Proofs.YtnhgakmnkpjpdaaGreatW.PrintLast Go.Proofs.YtnhgakmnkpjpdaaGreatW.PrintMore
theorem getP_zeros (n : Nat) : getP (List.replicate n zB) = none := by
  cases hg : getP (List.replicate n zB) with
  | none => rfl
  | some p =>
    obtain ⟨b, r, hb, hh⟩ := getP_hd (n := p.1) (S := p.2) hg
    have h0 := (getP_some (n := p.1) (S := p.2) hg).1
    have hm : b ∈ List.replicate n zB := by rw [hb]; simp
    rw [List.eq_of_mem_replicate hm] at hh
    have hz : hd zB = 0 := by kernel_rfl
    omega
theorem rowT_zeros (n : Nat) : rowT (List.replicate n zB) = st0 := by
  show openL _ st0 = _
  exact openL_none (st := st0) (by show getP ((List.replicate n zB).drop 0) = none; rw [List.drop_zero]; exact getP_zeros n)
theorem topL_zeros (n : Nat) : topL (List.replicate n zB) 0 = 0 := by
  have hz : hd zB = 0 := by kernel_rfl
  refine Nat.le_antisymm (topL_le _ 0 0 (Nat.le_refl _) (fun b hb => by rw [List.eq_of_mem_replicate hb, hz]; exact Nat.le_refl _)) (Nat.zero_le _)
theorem rowSec_new (N fr mn : Nat) (h : fr + mn ≤ N) : rowSec (newS N) fr mn = List.replicate mn zB := by
  rw [rowSec_eq _ _ _ (by show _ ≤ (List.replicate N z64).length; rw [List.length_replicate]; exact h)]
  show (((List.replicate N z64).drop fr).take mn).map B = _
  rw [List.drop_replicate, List.take_replicate, List.map_replicate, Nat.min_eq_left (by omega)]
  rfl
theorem openRS_new (N fr mn : Nat) (h : fr + mn ≤ N) : openRS (newS N) fr mn = ⟨fr, mn, [], 0, 0, 0, false⟩ := by
  unfold openRS
  rw [rowSec_new N fr mn h, rowT_zeros, topL_zeros]
  rfl
/-- A blank log. -/
def q0 (n : Nat) : WS := ⟨fun b => cond b ⟨n, n, [], 0, 0, 0, false⟩ ⟨0, n, [], 0, 0, 0, false⟩, false, [], false⟩
theorem openW_new (N : Nat) : openW (newS N) = some (q0 (N / 2)) := by
  have hl : (newS N).now.length = N := List.length_replicate ..
  have hh : openH (newS N) = (q0 (N / 2)).h := by
    funext b
    unfold openH
    rw [hl, openRS_new N _ _ (by omega), openRS_new N _ _ (by omega)]
    cases b <;> rfl
  unfold openW
  rw [hh]
  rfl
theorem fit_agree {s : DS} {q q' : WS} {n : Nat} (h : LFit s q n) (h' : LFit s q' n) : q'.log = q.log ∧ q'.txns = q.txns ∧ ∀ b, (q'.h b).first = (q.h b).first ∧ (q'.h b).en = (q.h b).en ∧ (q'.h b).mn = (q.h b).mn := by
  refine ⟨h'.log.trans h.log.symm, Option.some.inj (h'.txns.symm.trans h.txns), fun b => ⟨(h'.fsec b).trans (h.fsec b).symm, (h'.esec b).trans (h.esec b).symm, ?_⟩⟩
  cases b
  · exact h'.f0.2.trans h.f0.2.symm
  · exact h'.f1.2.trans h.f1.2.symm
theorem openW_some {s : DS} {q : WS} {n : Nat} (h : LFit s q n) (hn : s.now.length / 2 = n) : ∃ q', openW s = some q' ∧ LFit s q' n := by
  have h2 := openW_fit h.fuse
  rw [hn] at h2
  cases ho : openW s with
  | none =>
    rw [ho] at h2
    have h3 : txD (halfD (rowSec s 0 n) (rowSec s n n)) = none := h2
    rw [h.txns] at h3
    cases h3
  | some q' => rw [ho] at h2; exact ⟨q', rfl, h2⟩
def tA : ByteArray := ⟨#[97]⟩
def tB : ByteArray := ⟨#[98]⟩
def tC : ByteArray := ⟨#[99]⟩
def hP1 : PW := commitW (newS 16) (q0 8) [tA, tB]
def hP2 : PW := commitW hP1.s hP1.q []
def hP3 : PW := saveW hP2.s hP2.q [tC]
theorem fine_ab : fine [tA, tB] := ⟨by decide, fun s hs => by
  rcases List.mem_cons.1 hs with e | e
  · rw [e]; decide
  · rw [List.mem_singleton.1 e]; decide⟩
theorem fine_c : fine [tC] := ⟨by decide, fun s hs => by rw [List.mem_singleton.1 hs]; decide⟩
theorem fine_nil : fine [] := ⟨by decide, fun s hs => by cases hs⟩
theorem hFit0 : LFit (newS 16) (q0 8) 8 := by
  have h := openW_fit (s := newS 16) rfl
  rw [openW_new] at h
  exact h
theorem hFit1 : LFit hP1.s hP1.q 8 := (commitW_told hFit0 _ fine_ab).fit
theorem hFit2 : LFit hP2.s hP2.q 8 := (commitW_told hFit1 _ fine_nil).fit
theorem hLen2 : hP2.s.now.length = 16 := ((commitW_told hFit1 _ fine_nil).len.trans (commitW_told hFit0 _ fine_ab).len).trans (List.length_replicate ..)
theorem head_1 : hP1.e = 0 ∧ hP1.q.txns = [[tA, tB]] ∧ (hP1.q.h hP1.q.log).mn - (hP1.q.h hP1.q.log).en = 7 ∧ hP1.s.opn.length = 0 := ⟨by kernel_rfl, by kernel_rfl, by kernel_rfl, by kernel_rfl⟩
theorem head_2 : hP2.e = 0 ∧ hP2.q.txns = [[tA, tB], []] ∧ (hP2.q.h hP2.q.log).mn - (hP2.q.h hP2.q.log).en = 6 ∧ (hP2.q.h hP2.q.log).first = 1 ∧ hP2.s.opn.length = 0 := ⟨by kernel_rfl, by kernel_rfl, by kernel_rfl, by kernel_rfl, by kernel_rfl⟩
theorem head_3 : hP3.e = 0 ∧ hP3.q.txns = [[tC]] ∧ (hP3.q.h hP3.q.log).mn - (hP3.q.h hP3.q.log).en = 7 ∧ (hP3.q.h hP3.q.log).first = 3 := ⟨by kernel_rfl, by kernel_rfl, by kernel_rfl, by kernel_rfl⟩
theorem head_x : ∃ qx, openW hP2.s = some qx ∧ qx.txns = [[tA, tB], []] ∧ (qx.h qx.log).mn - (qx.h qx.log).en = 6 ∧ (qx.h qx.log).first = 1 := by
  obtain ⟨qx, h1, h2⟩ := openW_some hFit2 (by rw [hLen2])
  obtain ⟨a1, a2, a3⟩ := fit_agree hFit2 h2
  obtain ⟨b1, b2, b3⟩ := a3 hP2.q.log
  refine ⟨qx, h1, by rw [a2, head_2.2.1], ?_, ?_⟩
  · rw [a1, b3, b2]; exact head_2.2.2.1
  · rw [a1, b1]; exact head_2.2.2.2.1
end Go.Proofs.YtnhgakmnkpjpdaaGreat

/- Chapter 06, WalTells: Pending; what a transaction costs. -/
set_option maxRecDepth 100000
set_option linter.unusedVariables false
set_option linter.unusedSimpArgs false
namespace Go.Proofs.YtnhgakmnkpjpdaaGreat.Pure
open Go Go.RowKit Go.Proofs.YtnhgakmnkpjpdaaGreat.Q Go.Proofs.YtnhgakmnkpjpdaaGreat Go.Proofs.YtnhgakmnkpjpdaaGreatW.PrintWords Go.Proofs.YtnhgakmnkpjpdaaGreatW.PrintLast Go.Proofs.YtnhgakmnkpjpdaaGreatW.PrintMore
theorem rmany_l0 (n : Nat) (hn : n ≤ 1000000) (d : Nat) : ∀ (k j : Nat), j + d = manyN n → d < k → quittanceref04_Many.l0 k (n : Int) (j : Int) = some ((manyN n : Nat) : Int) := by
  have hl := tnum_length_le' n (by omega)
  induction d with
  | zero =>
    intro k j h hk
    obtain ⟨k, rfl⟩ : ∃ m, k = m + 1 := ⟨k - 1, by omega⟩
    have h' : n + (tnum n).length ≤ 48 * j := by unfold manyN at h; omega
    have h2 : j ≤ 1000000 := by unfold manyN at h; omega
    rw [quittanceref04_Many.l0, u64w _ (by omega) (by omega), RNum_f _ (by omega), Option.bind_some, B_size, wrap64_in' (48 * (j : Int)) (by omega) (by omega), wrap64_in' (((tnum n).length : Int) + (n : Int)) (by omega) (by omega), if_neg (by omega), show manyN n = j by omega]
  | succ d ih =>
    intro k j h hk
    obtain ⟨k, rfl⟩ : ∃ m, k = m + 1 := ⟨k - 1, by omega⟩
    have h' : 48 * j < n + (tnum n).length := by unfold manyN at h; omega
    rw [quittanceref04_Many.l0, u64w _ (by omega) (by omega), RNum_f _ (by omega), Option.bind_some, B_size, wrap64_in' (48 * (j : Int)) (by omega) (by omega), wrap64_in' (((tnum n).length : Int) + (n : Int)) (by omega) (by omega), if_pos (by omega),
      show wrap64 ((j : Int) + 1) = ((j + 1 : Nat) : Int) by rw [wrap64_in' _ (by omega) (by omega)]; omega, ih k (j + 1) (by omega) (by omega)]
theorem RMany_f (k n : Nat) (hn : n ≤ 1000000) (hk : 30000 ≤ k) : quittanceref04_Many.f k (n : Int) = some ((manyN n : Nat) : Int) := by
  have hl := tnum_length_le' n (by omega)
  obtain ⟨k, rfl⟩ : ∃ m, k = m + 1 := ⟨k - 1, by omega⟩
  unfold quittanceref04_Many.f
  rw [if_neg (by omega), quittanceref04_Many.j0]
  exact rmany_l0 n hn (manyN n) k 0 (by omega) (by unfold manyN; omega)
theorem Cost_f (x : List ByteArray) (hx : fine x) : wal_Cost.f 40000 x = some ((manyN (rowL x).length : Nat) : Int) := by
  have hl := rowL_fine x hx
  unfold wal_Cost.f
  rw [Row_f x hx, Option.bind_some, B_size, Many_f 40000 _ (by omega) (by omega), Option.bind_some]
theorem RCost_f (x : List ByteArray) (hx : fine x) : quittanceref06_Cost.f 40000 x = some ((manyN (rowL x).length : Nat) : Int) := by
  have hl := rowL_fine x hx
  have h1 := hx.1
  unfold quittanceref06_Cost.f
  rw [RRow_f 40000 x hx (by omega), Option.bind_some, B_size, RMany_f 40000 _ (by omega) (by omega), Option.bind_some]
end Go.Proofs.YtnhgakmnkpjpdaaGreat.Pure
namespace Go.Proofs.YtnhgakmnkpjpdaaGreat
open Go Go.RowKit Go.Proofs.YtnhgakmnkpjpdaaGreat.Q Go.Proofs.YtnhgakmnkpjpdaaGreatW.PrintWords Go.Proofs.YtnhgakmnkpjpdaaGreatW.PrintLast Go.Proofs.YtnhgakmnkpjpdaaGreatW.PrintMore
attribute [local go_sem] Oper.semAt_some max2_int min2_int max_two min_two max_three min_three max_four min_four
theorem Pending_calls {base : Nat} {w : World} {d : DV} {s : DS} (h : Drv base w d s) :
    Calls Tryz.prog 22 #[ptr d.D] w fun e w' => e = .returned (.int .i64 s.opn.length) ∧ w' = w := by
  obtain ⟨A, c, hv⟩ := own_cases h.opn
  obtain ⟨-, -, h0, -, -, -, f0, -⟩ := h.cells
  have HD := hid h
  rw [hv] at h0
  unfold ptr
  clear h hv
  go_enter Tryz.func22, Tryz.ntmps22
  go_wp2_with (go_at_call 50; refine (none_calls HD.out).mono ?_; rintro e w' ⟨rfl, rfl⟩)
  go_ret
  exact ⟨rfl, rfl⟩
theorem Dr.pending {w0 w : World} {l : List (Nat × DS)} {F : List Nat} {i D : Nat} {s : DS} (h : Dr w0 w l F) (hi : l[i]? = some (D, s)) : Calls Tryz.prog 22 #[ptr D] w fun e w' => e = .returned (.int .i64 s.opn.length) ∧ w' = w := by
  obtain ⟨d, e, hd⟩ := h.at hi
  rw [← e]; exact Pending_calls hd
theorem Cost_W {w : World} {BX : List Nat} {v : Value} {x : List ByteArray} (h : StrAt w BX v x) (hf : Pure.fine x) : Calls Tryz.prog 20 #[v] w fun e w' => e = .returned (.int .i64 ((Pure.manyN (rowL x).length : Nat) : Int)) ∧ Only [] w w' := by
  obtain ⟨A1, c1, rfl, h1, C1⟩ := h.C
  refine (wal_Cost.calls 40000 A1 c1 x _ w C1 h1 (Pure.Cost_f x hf)).mono ?_
  rintro e w2 ⟨rfl, hb⟩
  exact ⟨rfl, Only.of_below hb⟩
theorem Cost_D {w : World} {BX : List Nat} {v : Value} {x : List ByteArray} (h : StrAt w BX v x) (hf : Pure.fine x) : Calls Tryz.prog 21 #[v] w fun e w' => e = .returned (.int .i64 ((Pure.manyN (rowL x).length : Nat) : Int)) ∧ Only [] w w' := by
  obtain ⟨A1, c1, rfl, h1, C1⟩ := h.C
  refine (quittanceref06_Cost.calls 40000 A1 c1 x _ w C1 h1 (Pure.RCost_f x hf)).mono ?_
  rintro e w2 ⟨rfl, hb⟩
  exact ⟨rfl, Only.of_below hb⟩
end Go.Proofs.YtnhgakmnkpjpdaaGreat
