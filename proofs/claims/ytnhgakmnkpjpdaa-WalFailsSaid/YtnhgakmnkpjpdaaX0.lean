import Derived.Test.YtnhgakmnkpjpdaaRT
import Derived.Test.YtnhgakmnkpjpdaaR9
import Derived.Test.YtnhgakmnkpjpdaaPT
import Derived.Test.YtnhgakmnkpjpdaaH3
import Derived.Test.YtnhgakmnkpjpdaaH4
/- A log in memory: a struct on a drive with two rows, and transactions; the calls that only look: none, half, Age, Room. -/
set_option maxRecDepth 100000
set_option linter.unusedVariables false
set_option linter.unusedSimpArgs false
namespace Go.Proofs.Ytnhgakmnkpjpdaa
open Go Go.RowKit Go.Proofs.YtnhgakmnkpjpdaaW.PrintWords Go.Proofs.YtnhgakmnkpjpdaaW.PrintLast Go.Proofs.YtnhgakmnkpjpdaaW.PrintMore
attribute [local go_sem] Oper.semAt_some max2_int min2_int max_two min_two max_three min_three max_four min_four
/-- Texts that a slice leads to; its block is one of B. -/
def StrAt (w : World) (B : List Nat) (u : Value) (t : List ByteArray) : Prop :=
  ∃ A c, u = .slice A t.length c ∧ t.length ≤ c ∧ ReadsOf Value.string ByteArray.empty w A t.length t ∧ (0 < t.length → ∃ ad : Addr, A = some ad ∧ ad.block ∈ B ∧ ad.block < w.heap.size)
theorem cell_same {w W : World} {a : Addr} (h : W.heap[a.block]? = w.heap[a.block]?) : W.cell? a = w.cell? a := by
  unfold World.cell?
  rw [h]
theorem add_block (a : Addr) (i : Nat) : (a.add i).block = a.block := by unfold Addr.add; split <;> rfl
theorem StrAt.kept {w W : World} {B fp : List Nat} {u : Value} {t : List ByteArray} (h : StrAt w B u t) (ho : Only fp w W) (hd : ∀ k ∈ B, k ∉ fp) : StrAt W B u t := by
  obtain ⟨A, c, rfl, hc, hr, hb⟩ := h
  refine ⟨A, c, rfl, hc, ⟨hr.1, hr.2.1, fun h0 => ?_⟩, fun h0 => ?_⟩
  · obtain ⟨ad, e, hcell⟩ := hr.2.2 h0
    obtain ⟨ad2, e2, hin, hlt⟩ := hb h0
    rw [e] at e2
    cases e2
    refine ⟨ad, e, fun j hj => ?_⟩
    have hs : W.heap[(ad.add j).block]? = w.heap[(ad.add j).block]? := by rw [add_block]; exact ho.block _ hlt (hd _ hin)
    rw [cell_same hs]
    exact hcell j hj
  · obtain ⟨ad2, e2, hin, hlt⟩ := hb h0
    exact ⟨ad2, e2, hin, Nat.lt_of_lt_of_le hlt ho.size⟩
theorem StrAt.mono {w : World} {B B' : List Nat} {u : Value} {t : List ByteArray} (h : StrAt w B u t) (hB : ∀ k ∈ B, k ∈ B') : StrAt w B' u t := by
  obtain ⟨A, c, rfl, hc, hr, hb⟩ := h
  refine ⟨A, c, rfl, hc, hr, fun h0 => ?_⟩
  obtain ⟨ad, e, hin, hlt⟩ := hb h0
  exact ⟨ad, e, hB _ hin, hlt⟩
theorem StrAt.C {w : World} {B : List Nat} {u : Value} {t : List ByteArray} (h : StrAt w B u t) : ∃ A c, u = .slice A t.length c ∧ t.length ≤ c ∧ Kd.C Kd.string w A t.length t := by
  obtain ⟨A, c, rfl, hc, hr, hb⟩ := h
  exact ⟨A, c, rfl, hc, Kd.C_of_reads (h1 := fun _ => rfl) hr⟩
theorem StrAt.of_C {w : World} {A : Option Addr} {c : Nat} {t : List ByteArray} (hc : t.length ≤ c) (hC : Kd.C Kd.string w A t.length t) (hl : ∀ k ∈ (Value.slice A t.length c).ownBlock.toList, k < w.heap.size) : StrAt w (Value.slice A t.length c).ownBlock.toList (.slice A t.length c) t := by
  have hr := Kd.reads_of_C (enc := Value.string) (d := ByteArray.empty) (h1 := fun _ => rfl) hC
  refine ⟨A, c, rfl, hc, hr, fun h0 => ?_⟩
  obtain ⟨ad, e, -⟩ := hr.2.2 h0
  subst e
  exact ⟨ad, rfl, by simp [Value.ownBlock], hl _ (by simp [Value.ownBlock])⟩
theorem StrAt.of_own {w : World} {base : Nat} {v : Value} {t : List ByteArray} (h : w.ownsRow base 9 1 v t.length (strV t)) : StrAt w v.ownBlock.toList v t := by
  obtain ⟨A, c, rfl, hc, hC⟩ := own_C_str h
  exact StrAt.of_C hc hC (fun k hk => (ownsRow_lt h hk).2)
theorem StrAt.of_Kc {w : World} {base : Nat} {ok : Nat → Prop} {v : Value} {t : List ByteArray} (h : Kc.R Kd.string 9 w base ok v t) : StrAt w v.ownBlock.toList v t := by
  obtain ⟨⟨A, c, rfl, hc, hC⟩, h2, h3⟩ := h
  exact StrAt.of_C hc hC (fun k hk => h2 k (by simpa using hk))
theorem StrAt.nil (w : World) (c : Nat) : StrAt w [] (.slice none 0 c) [] := ⟨none, c, rfl, Nat.zero_le _, ⟨rfl, Nat.zero_le _, fun h => absurd h (Nat.lt_irrefl 0)⟩, fun h => absurd h (Nat.lt_irrefl 0)⟩
/-- Transactions: each is a slice of texts, in blocks of B. -/
structure Txs (base : Nat) (w : World) (B : List Nat) (vs : List Value) (L : List (List ByteArray)) : Prop where
  len : vs.length = L.length
  each : ∀ (j : Nat) (u : Value) (t : List ByteArray), vs[j]? = some u → L[j]? = some t → StrAt w B u t
  lt : ∀ k ∈ B, base ≤ k ∧ k < w.heap.size
theorem Txs.kept {base : Nat} {w W : World} {B fp : List Nat} {vs : List Value} {L : List (List ByteArray)} (h : Txs base w B vs L) (ho : Only fp w W) (hd : ∀ k ∈ B, k ∉ fp) : Txs base W B vs L :=
  ⟨h.len, fun j u t hu ht => (h.each j u t hu ht).kept ho hd, fun k hk => ⟨(h.lt k hk).1, Nat.lt_of_lt_of_le (h.lt k hk).2 ho.size⟩⟩
theorem Txs.none (base : Nat) (w : World) : Txs base w [] [] [] := ⟨rfl, fun j u t h => by simp at h, fun k hk => by simp at hk⟩
theorem Txs.snoc {base : Nat} {w : World} {B : List Nat} {vs : List Value} {L : List (List ByteArray)} (h : Txs base w B vs L) {u : Value} {t : List ByteArray} {B' : List Nat} (hu : StrAt w B' u t) (hB : ∀ k ∈ B', base ≤ k ∧ k < w.heap.size) : Txs base w (B' ++ B) (vs ++ [u]) (L ++ [t]) := by
  refine ⟨by simp [h.len], fun j x y hx hy => ?_, fun k hk => (List.mem_append.1 hk).elim (hB k) (h.lt k)⟩
  by_cases c : j < vs.length
  · rw [List.getElem?_append_left c] at hx
    rw [List.getElem?_append_left (by rw [← h.len]; exact c)] at hy
    exact (h.each j x y hx hy).mono (fun k hk => List.mem_append_right _ hk)
  · rw [List.getElem?_append_right (by omega)] at hx
    rw [List.getElem?_append_right (by rw [← h.len]; omega), ← h.len] at hy
    have e : j - vs.length = 0 := by
      by_cases c2 : j - vs.length = 0
      · exact c2
      · rw [List.getElem?_eq_none (by simp; omega)] at hx; cases hx
    rw [e] at hx hy
    simp only [List.getElem?_cons_zero, Option.some.injEq] at hx hy
    subst hx; subst hy
    exact hu.mono (fun k hk => List.mem_append_left _ hk)
/-- A log's state: its rows, which of them is the log, the transactions, whether it is down. -/
structure WS where
  h : Bool → RS
  log : Bool
  txns : List (List ByteArray)
  down : Bool
def bN (b : Bool) : Nat := if b then 1 else 0
def WS.cs (q : WS) (D : Nat) (R : Bool → Nat) (xv : Value) : Array Value := #[ptr D, ptr (R false), ptr (R true), .int .i64 (bN q.log : Int), xv, .bool q.down]
def WS.rows (q : WS) (xv : Value) (vs : List Value) : List RowV := [⟨xv, 22, 1, q.txns.length, vs⟩]
/-- Where a log lies. -/
structure WM where
  O : Nat
  R : Bool → Nat
  v : Bool → Value
  xv : Value
  vs : List Value
  B : List Nat
def WM.own (m : WM) : List Nat := m.O :: m.xv.ownBlock.toList
structure Wl (w0 w : World) (l : List (Nat × DS)) (F : List Nat) (i D : Nat) (s : DS) (m : WM) (q : WS) : Prop where
  rw : ∀ b, Rw w0 w l F i D s (m.R b) (m.v b) (q.h b)
  ob : Ob w0.heap.size w m.O 78 (q.cs D m.R m.xv) (q.rows m.xv m.vs)
  tx : Txs w0.heap.size w m.B m.vs q.txns
  fpO : ∀ k ∈ m.own, k ∈ F
  fpB : ∀ k ∈ m.B, k ∈ F
  d0 : ∀ b, ∀ k ∈ rwFp (m.R b) (m.v b), k ∉ m.own ∧ k ∉ m.B
  d1 : ∀ k ∈ rwFp (m.R false) (m.v false), k ∉ rwFp (m.R true) (m.v true)
  d2 : ∀ k ∈ m.own, k ∉ m.B
theorem own_fp (q : WS) (m : WM) : obFp m.O (q.rows m.xv m.vs) = m.own := by simp [obFp, WS.rows, RowV.fp, WM.own]
section
variable {w0 w w' : World} {l : List (Nat × DS)} {F : List Nat} {i D : Nat} {s : DS} {m : WM} {q : WS}
theorem Wl.new (h : Wl w0 w l F i D s m q) (ho : Only [] w w') : Wl w0 w' l F i D s m q :=
  ⟨fun b => (h.rw b).new ho, h.ob.new ho, h.tx.kept ho (by simp), h.fpO, h.fpB, h.d0, h.d1, h.d2⟩
theorem Wl.cells (h : Wl w0 w l F i D s m q) :
    w.cell? ⟨m.O, 0, none⟩ = some (ptr D) ∧ w.cell? ⟨m.O, 1, none⟩ = some (ptr (m.R false)) ∧ w.cell? ⟨m.O, 2, none⟩ = some (ptr (m.R true)) ∧ w.cell? ⟨m.O, 3, none⟩ = some (.int .i64 (bN q.log : Int)) ∧
    w.cell? ⟨m.O, 4, none⟩ = some m.xv ∧ w.cell? ⟨m.O, 5, none⟩ = some (.bool q.down) ∧ ∀ j, w.frozen? ⟨m.O, j, none⟩ = false :=
  ⟨h.ob.cell 0, h.ob.cell 1, h.ob.cell 2, h.ob.cell 3, h.ob.cell 4, h.ob.cell 5, h.ob.free⟩
theorem Wal_none (h : Wl w0 w l F i D s m q) : Calls Try.prog 42 #[ptr m.O] w fun e w' => e = .returned (.bool false) ∧ w' = w := by
  obtain ⟨h0, -, -, -, -, -, f⟩ := h.cells
  have f0 := f 0
  unfold ptr at *
  clear h f
  generalize m.O = O at *
  go_enter Try.func42, Try.ntmps42
  go_wp2
  go_ret
  exact ⟨rfl, rfl⟩
theorem Wal_half (h : Wl w0 w l F i D s m q) : Calls Try.prog 35 #[ptr m.O] w fun e w' => e = .returned (ptr (m.R q.log)) ∧ ∃ n, w' = w.drewN n := by
  obtain ⟨-, h1, h2, h3, -, -, f⟩ := h.cells
  have f1 := f 1
  have f2 := f 2
  have f3 := f 3
  unfold ptr at *
  clear h f
  generalize m.O = O at *
  cases hq : q.log with
  | false =>
    rw [hq] at h3
    have h3b : w.cell? ⟨O, 3, none⟩ = some (.int .i64 0) := h3
    clear h3 hq
    generalize m.R false = R0 at *
    go_enter Try.func35, Try.ntmps35
    go_wp2_with fail
    go_quiet (fail)
    go_wp2
    go_ret
    exact ⟨rfl, _, rfl⟩
  | true =>
    rw [hq] at h3
    have h3b : w.cell? ⟨O, 3, none⟩ = some (.int .i64 1) := h3
    clear h3 hq
    generalize m.R true = R0 at *
    go_enter Try.func35, Try.ntmps35
    go_wp2_with fail
    go_quiet (fail)
    go_wp2
    go_ret
    exact ⟨rfl, _, rfl⟩
theorem Wal_Age (h : Wl w0 w l F i D s m q) : Calls Try.prog 15 #[ptr m.O] w fun e w' => e = .returned (.int .u64 ((q.h q.log).first : Int)) ∧ Only [] w w' := by
  have HN := hid (Wal_none h)
  have HH := hid (Wal_half h)
  have HF := hid (fun n => Row_First ((h.new (Only.drewN [] w n)).rw q.log).row)
  have e42 : ∀ args w, (callFunc 42 args).run Try.prog w = .ok (.enter 42 args) w := enters_of Try.func42 (by kernel_rfl) rfl
  clear h
  unfold ptr at *
  generalize m.O = O at *
  generalize m.R q.log = R at *
  generalize (q.h q.log).first = x at *
  go_enter Try.func15, Try.ntmps15
  go_wp2_with (first | (go_at_call 42; refine HN.out.mono ?_; rintro e w1 ⟨rfl, h1⟩; have h2 := h1.symm; clear h1; subst h2) | (go_at_call 35; refine HH.out.mono ?_; rintro e w1 ⟨rfl, n, rfl⟩) | (go_at_call 34; refine (HF.out n).mono ?_; rintro e w1 ⟨rfl, h1⟩; have h2 := h1.symm; clear h1; subst h2))
  go_ret
  exact ⟨rfl, Only.drewN _ _ _⟩
theorem Wal_Room (h : Wl w0 w l F i D s m q) : Calls Try.prog 17 #[ptr m.O] w fun e w' => e = .returned (.int .i64 (((q.h q.log).mn - (q.h q.log).en : Nat) : Int)) ∧ Only [] w w' := by
  have HN := hid (Wal_none h)
  have HH := hid (Wal_half h)
  have HF := hid (fun n => Row_Room ((h.new (Only.drewN [] w n)).rw q.log).row)
  clear h
  unfold ptr at *
  generalize m.O = O at *
  generalize m.R q.log = R at *
  generalize ((q.h q.log).mn - (q.h q.log).en : Nat) = x at *
  go_enter Try.func17, Try.ntmps17
  go_wp2_with (first | (go_at_call 42; refine HN.out.mono ?_; rintro e w1 ⟨rfl, h1⟩; have h2 := h1.symm; clear h1; subst h2) | (go_at_call 35; refine HH.out.mono ?_; rintro e w1 ⟨rfl, n, rfl⟩) | (go_at_call 44; refine (HF.out n).mono ?_; rintro e w1 ⟨rfl, ho⟩))
  go_ret
  exact ⟨rfl, (Only.drewN [] _ _).trans ho (fun _ h _ => h)⟩
end
end Go.Proofs.Ytnhgakmnkpjpdaa

/- A log: pieces that may be written; a slice of texts is cloned; Txns. -/
set_option maxRecDepth 100000
set_option linter.unusedVariables false
set_option linter.unusedSimpArgs false
namespace Go.Proofs.Ytnhgakmnkpjpdaa
open Go Go.RowKit Go.Proofs.YtnhgakmnkpjpdaaW.PrintWords Go.Proofs.YtnhgakmnkpjpdaaW.PrintLast Go.Proofs.YtnhgakmnkpjpdaaW.PrintMore
attribute [local go_sem] Oper.semAt_some max2_int min2_int max_two min_two max_three min_three max_four min_four
theorem strV_at (t : List ByteArray) {j : Nat} (hj : j < t.length) : (strV t)[j]? = some (.string (t.getD j ByteArray.empty)) := by
  unfold strV
  rw [List.getElem?_map, List.getElem?_eq_getElem hj, List.getD_eq_getElem?_getD, List.getElem?_eq_getElem hj]
  rfl
theorem strV_one (t : List ByteArray) : ∀ u ∈ strV t, u.oneCell' = true := by
  intro u hu
  obtain ⟨x, -, rfl⟩ := List.mem_map.1 hu
  rfl
set_option maxHeartbeats 2000000 in
theorem Clone_str {w : World} {B : List Nat} {u : Value} {t : List ByteArray} (h : StrAt w B u t) (hn : t.length ≤ 4096) :
    Calls Try.prog 43 #[u] w fun e w' => ∃ v', e = .returned v' ∧ w'.ownsRow w.heap.size 9 1 v' t.length (strV t) ∧ Only [] w w' := by
  obtain ⟨A, c, rfl, hc, hr, hb⟩ := h
  have hq := eql22 w A t.length c
  cases A with
  | none =>
    have h0 : t.length = 0 := by
      by_cases c0 : t.length = 0
      · exact c0
      · obtain ⟨ad, e, _⟩ := hb (by omega)
        cases e
    have ht : t = [] := List.eq_nil_of_length_eq_zero h0
    subst ht
    have hq0 := eql22 w none 0 c
    clear hr hb hq
    show Calls Try.prog 43 #[.slice none 0 c] w _
    go_enter Try.func43, Try.ntmps43
    go_wp2
    go_ret
    exact ⟨_, rfl, World.ownsRow_nil _ _ _ _, Only.refl _ _⟩
  | some ad =>
    obtain ⟨ti, hti, htz, hts, htb⟩ := info_three Q.info9
    have HCE := hid (fun j u (hj : (strV t)[j]? = some u) => (show (w.alloc (.cells #[] 9)).cell? (ad.add j) = some u by
      have hjl : j < t.length := by
        have := (List.getElem?_eq_some_iff.1 hj).1
        rwa [strV_len] at this
      obtain ⟨ad2, e2, hcell⟩ := hr.2.2 (by omega)
      cases e2
      rw [strV_at t hjl] at hj
      rw [← hj]
      obtain ⟨ad3, e3, _, hlt⟩ := hb (by omega)
      cases e3
      have hs : (w.alloc (.cells #[] 9)).heap[(ad.add j).block]? = w.heap[(ad.add j).block]? := by rw [add_block]; exact (Only.alloc [] w _).block _ hlt (by simp)
      rw [cell_same hs]
      exact hcell j hjl))
    have HX := hid (strV_one t)
    have HL := hid (show (strV t).length = t.length * 1 by rw [strV_len]; omega)
    have hln : t.length ≤ 4096 := hn
    clear hr hb hc
    generalize strV t = xs at *
    generalize t.length = n at *
    go_enter Try.func43, Try.ntmps43
    go_wp2_with (at_builtin; refine wpList_append_own _ rfl _ _ 22 rfl w.heap.size 9 ti _ 1 16 Try.underlying22 hti htz hts htb rfl (by decide) _ _ _ rfl (World.ownsRow_made w #[] 0 (Nat.le_refl _) (Nat.zero_le _) (by simp)) ad n c xs rfl ?qc1 ?qc2 ?qc3 ?qc4 ?qc5 ?qc6 ?_)
    case qc1 => exact HL.out
    case qc2 => exact HCE.out
    case qc3 => exact HX.out
    case qc4 => rw [Nat.zero_add]; unfold maxLen; omega
    case qc5 => omega
    case qc6 => simp
    intro v' w1 hown hgrow hnil
    go_wp2
    go_ret
    exact ⟨v', rfl, by simpa using hown, (Only.alloc [] w _).trans (Only.of_grown (fp := [w.heap.size]) hgrow (fun k hk => by simp [Value.ownBlock] at hk; simp [hk])) (fun k hk hl => by rw [List.mem_singleton.1 hk] at hl; omega)⟩
/-! Pieces that may be written -/
theorem long_calls (s : ByteArray) (w : World) (h : s.size ≤ 60000) : Calls Try.prog 67 #[.string s] w fun e w' => e = .returned (.bool false) ∧ w' = w := by
  have q : decide ((60000 : Int) < (s.size : Int)) = false := decide_eq_false (by omega)
  go_enter Try.func67, Try.ntmps67
  go_wp2
  go_ret
  exact ⟨rfl, rfl⟩
set_option maxHeartbeats 2000000 in
theorem Idx_calls (A : Option Addr) (c : Nat) (l : List ByteArray) (w : World) (hC : Kd.C Kd.string w A l.length l) (hl : ∀ s ∈ l, s.size ≤ 60000) :
    Calls Try.prog 84 #[.slice A l.length c, .func (.func 67) #[] #[]] w fun e w' => e = .returned (.int .i64 (-1)) ∧ w' = w := by
  have HC := hid hC
  have HL := hid hl
  have hm := Kd.C_max hC
  have e67 : ∀ args w, (callFunc 67 args).run Try.prog w = .ok (.enter 67 args) w := enters_of Try.func67 (by kernel_rfl) rfl
  obtain ⟨n, hn⟩ : ∃ n, n = l.length := ⟨_, rfl⟩
  have HN := hid hn
  rw [← hn] at hm HC ⊢
  clear hC hl hn
  go_enter Try.func84, Try.ntmps84
  go_wp2_with fail
  go_loopg [8] n (fun kx s8 wr => ∃ (i : Nat), s8 = .int .i64 i ∧ i ≤ n ∧ n - i ≤ kx ∧ wr = w)
  case atStart => exact ⟨0, rfl, by omega, by omega, rfl⟩
  case round =>
    obtain ⟨i, rfl, hin, hk, hwr⟩ := hrel
    have hwr2 := hwr.symm
    clear hwr
    subst hwr2
    by_cases hlt : i < n
    · have q1 : decide ((i : Int) < (n : Int)) = true := decide_eq_true (by omega)
      have q2 : (i : Int) < (n : Int) := by omega
      have q3 : (0 : Int) ≤ (i : Int) := by omega
      obtain ⟨ad, hA, hcell⟩ := Kd.at_string HC.out (i : Int) q3 q2
      subst hA
      have hcl := long_calls (rdOf ByteArray.empty l (i : Int)) w (by
        show (l.getD (i : Int).toNat ByteArray.empty).size ≤ 60000
        rw [Int.toNat_natCast, List.getD_eq_getElem?_getD, List.getElem?_eq_getElem (by rw [← HN.out]; exact hlt)]
        exact HL.out _ (List.getElem_mem _))
      rw [Int.toNat_natCast] at hcell
      generalize rdOf ByteArray.empty l (i : Int) = s at hcell hcl
      have ei : ((i : Int)).toNat = i := by omega
      go_wp2_with fail
      go_at_call 67
      refine hcl.mono ?_
      rintro e w3 ⟨rfl, h3⟩
      have h4 := h3.symm
      clear h3 hcl
      subst h4
      go_wp2_with fail
      go_roundg (n - (i + 1))
      case measure => omega
      case rel => exact ⟨i + 1, by go_num, hlt, Nat.le_refl _, rfl⟩
    · have q1 : decide ((i : Int) < (n : Int)) = false := decide_eq_false (by omega)
      go_wp2_with fail
      go_ret
      exact ⟨rfl, rfl⟩
theorem Cont_calls (A : Option Addr) (c : Nat) (l : List ByteArray) (w : World) (hC : Kd.C Kd.string w A l.length l) (hl : ∀ s ∈ l, s.size ≤ 60000) :
    Calls Try.prog 66 #[.slice A l.length c, .func (.func 67) #[] #[]] w fun e w' => e = .returned (.bool false) ∧ w' = w := by
  have hi := Idx_calls A c l w hC hl
  have e84 : ∀ args w, (callFunc 84 args).run Try.prog w = .ok (.enter 84 args) w := enters_of Try.func84 (by kernel_rfl) rfl
  clear hC hl
  generalize l.length = n at *
  go_enter Try.func66, Try.ntmps66
  go_wp2_with fail
  go_at_call 84
  refine hi.mono ?_
  rintro e w3 ⟨rfl, h3⟩
  have h4 := h3.symm
  clear h3 hi
  subst h4
  go_wp2_with fail
  go_ret
  exact ⟨rfl, rfl⟩
section
variable {w0 w : World} {l : List (Nat × DS)} {F : List Nat} {i D : Nat} {s : DS} {m : WM} {q : WS}
set_option maxHeartbeats 2000000 in
theorem Wal_may (h : Wl w0 w l F i D s m q) (A : Option Addr) (c : Nat) (x : List ByteArray) (hC : Kd.C Kd.string w A x.length x) (hc : x.length ≤ c) (hx : Pure.fine x) :
    Calls Try.prog 48 #[ptr m.O, .slice A x.length c] w fun e w' => e = .returned (.int .i64 (if q.down then 30 else 0)) ∧ Only [] w w' := by
  have HN := hid (Wal_none h)
  obtain ⟨-, -, -, -, -, h5, f⟩ := h.cells
  have f5 := f 5
  have hco := Cont_calls A c x w hC (fun s hs => by have := hx.2 s hs; omega)
  have hrw := tally_Row.calls A c x _ w hC hc (Pure.Row_f x hx)
  have hsz : (B (rowL x)).size ≤ 4110 := by rw [B_size]; exact Pure.rowL_fine x hx
  generalize B (rowL x) = S at hrw hsz
  have q9 : decide ((98304 : Int) < (S.size : Int)) = false := decide_eq_false (by omega)
  have e66 : ∀ args w, (callFunc 66 args).run Try.prog w = .ok (.enter 66 args) w := enters_of Try.func66 (by kernel_rfl) rfl
  have e68 : ∀ args w, (callFunc 68 args).run Try.prog w = .ok (.enter 68 args) w := enters_of Try.func68 (by kernel_rfl) rfl
  clear h f hC hc hx
  unfold ptr at *
  generalize m.O = O at *
  generalize x.length = n at *
  cases hd : q.down with
  | true =>
    rw [hd] at h5
    simp only [if_true]
    clear hd hco hrw
    go_enter Try.func48, Try.ntmps48
    go_wp2_with (go_at_call 42; refine HN.out.mono ?_; rintro e w1 ⟨rfl, h1⟩; have h2 := h1.symm; clear h1; subst h2)
    go_ret
    exact ⟨rfl, Only.refl _ _⟩
  | false =>
    rw [hd] at h5
    rw [if_neg (by decide)]
    clear hd
    go_enter Try.func48, Try.ntmps48
    go_wp2_with fail
    go_at_call 42
    refine HN.out.mono ?_
    rintro e w1 ⟨rfl, h1⟩
    have h2 := h1.symm
    clear h1 HN
    subst h2
    go_wp2_with fail
    go_at_call 66
    refine hco.mono ?_
    rintro e w1 ⟨rfl, h1⟩
    have h2 := h1.symm
    clear h1 hco
    subst h2
    go_wp2_with fail
    go_at_call 68
    refine hrw.mono ?_
    rintro e w1 ⟨rfl, hb⟩
    have HB := hid hb
    clear hrw hb
    go_wp2_with fail
    go_ret
    exact ⟨rfl, Only.of_below HB.out⟩
end
end Go.Proofs.Ytnhgakmnkpjpdaa

/- A log: its transactions are told. -/
set_option maxRecDepth 100000
set_option linter.unusedVariables false
set_option linter.unusedSimpArgs false
namespace Go.Proofs.Ytnhgakmnkpjpdaa
open Go Go.RowKit Go.Proofs.YtnhgakmnkpjpdaaW.PrintWords Go.Proofs.YtnhgakmnkpjpdaaW.PrintLast Go.Proofs.YtnhgakmnkpjpdaaW.PrintMore
attribute [local go_sem] Oper.semAt_some max2_int min2_int max_two min_two max_three min_three max_four min_four
/-- A slice of transactions, in blocks of B. -/
def TxV (base : Nat) (w : World) (B : List Nat) (v : Value) (L : List (List ByteArray)) : Prop :=
  ∃ A c vs, v = .slice A L.length c ∧ L.length ≤ c ∧ L.length ≤ 9223372036854775807 ∧ Txs base w B vs L ∧ (0 < L.length → ∃ ad : Addr, A = some ad ∧ ad.block ∈ B ∧ ∀ j u, vs[j]? = some u → w.cell? (ad.add j) = some u)
theorem TxV.kept {base : Nat} {w W : World} {B fp : List Nat} {v : Value} {L : List (List ByteArray)} (h : TxV base w B v L) (ho : Only fp w W) (hd : ∀ k ∈ B, k ∉ fp) : TxV base W B v L := by
  obtain ⟨A, c, vs, rfl, hc, hm, ht, ha⟩ := h
  refine ⟨A, c, vs, rfl, hc, hm, ht.kept ho hd, fun h0 => ?_⟩
  obtain ⟨ad, e, hin, hcell⟩ := ha h0
  refine ⟨ad, e, hin, fun j u hj => ?_⟩
  have hs : W.heap[(ad.add j).block]? = w.heap[(ad.add j).block]? := by rw [add_block]; exact ho.block _ (ht.lt _ hin).2 (hd _ hin)
  rw [cell_same hs]
  exact hcell j u hj
theorem TxV.new {base : Nat} {w W : World} {B : List Nat} {v : Value} {L : List (List ByteArray)} (h : TxV base w B v L) (ho : Only [] w W) : TxV base W B v L := h.kept ho (by simp)
theorem TxV.C {base : Nat} {w : World} {B : List Nat} {v : Value} {L : List (List ByteArray)} (h : TxV base w B v L) : ∃ A c, v = .slice A L.length c ∧ L.length ≤ c ∧ Kd.C (Kd.slice 9 Kd.string) w A L.length L := by
  obtain ⟨A, c, vs, rfl, hc, hm, ht, ha⟩ := h
  refine ⟨A, c, rfl, hc, rfl, hm, fun h0 => ?_⟩
  obtain ⟨ad, e, hin, hcell⟩ := ha h0
  refine ⟨ad, e, fun j p hj => ?_⟩
  have hjl : j < L.length := (List.getElem?_eq_some_iff.1 hj).1
  obtain ⟨x, hv⟩ : ∃ x, vs[j]? = some x := ⟨vs[j]'(by rw [ht.len]; exact hjl), List.getElem?_eq_getElem _⟩
  obtain ⟨A2, c2, e2, hc2, hC2⟩ := (ht.each j _ p hv hj).C
  refine ⟨[x], rfl, ⟨A2, c2, by rw [e2], hc2, hC2⟩, fun i u hi => ?_⟩
  cases i with
  | zero =>
    have hi2 : x = u := by simpa using hi
    show w.cell? (ad.add (j * 1 + 0)) = some u
    rw [Nat.mul_one, Nat.add_zero, ← hi2]
    exact hcell j _ hv
  | succ i => simp at hi
theorem TxV.of_own {base : Nat} {w : World} {B : List Nat} {v : Value} {vs : List Value} {L : List (List ByteArray)} (h : w.ownsRow base 22 1 v L.length vs) (ht : Txs base w B vs L) {A : Option Addr} {c c2 : Nat} (hv : v = .slice A L.length c) (hc2 : L.length ≤ c2) (hm : L.length ≤ 9223372036854775807) : TxV base w (v.ownBlock.toList ++ B) (.slice A L.length c2) L := by
  refine ⟨A, c2, vs, rfl, hc2, hm, ⟨ht.len, fun j u t hu htt => (ht.each j u t hu htt).mono (fun k hk => List.mem_append_right _ hk), fun k hk => (List.mem_append.1 hk).elim (fun e => ownsRow_lt h e) (ht.lt k)⟩, fun h0 => ?_⟩
  obtain ⟨g, cap, cur, e, -⟩ := ownsRow_slice h h0
  rw [hv] at e
  cases e
  refine ⟨⟨g, 0, none⟩, rfl, by rw [hv]; simp [Value.ownBlock], fun j u hj => ?_⟩
  have hb : v.ownBlock = some g := by rw [hv]; rfl
  exact World.ownsRow.cells h hb j u hj
section
variable {w0 w : World} {l : List (Nat × DS)} {F : List Nat} {i D : Nat} {s : DS} {m : WM} {q : WS}
set_option maxHeartbeats 4000000 in
theorem Wal_Txns (h : Wl w0 w l F i D s m q) (hq : q.txns.length ≤ 4096) (hq2 : ∀ t ∈ q.txns, t.length ≤ 4096) :
    Calls Try.prog 14 #[ptr m.O] w fun e w' => ∃ v B, e = .returned v ∧ TxV w.heap.size w' B v q.txns ∧ Only [] w w' := by
  have HN := hid (Wal_none h)
  obtain ⟨-, -, -, -, h4, -, f⟩ := h.cells
  have f4 := f 4
  have hown : w.ownsRow w0.heap.size 22 1 m.xv q.txns.length m.vs := h.ob.own ⟨m.xv, 22, 1, q.txns.length, m.vs⟩ (by simp [WS.rows])
  have HTX := hid h.tx
  have HQ2 := hid hq2
  obtain ⟨ti, hti, htz, hts, htb⟩ := info_three Q.info22
  have HTI := hid (And.intro hti (And.intro htz (And.intro hts htb)))
  clear h f hti htz hts htb hq2
  unfold ptr at *
  generalize m.O = O at *
  generalize m.xv = xv at *
  generalize m.vs = vs at *
  generalize m.B = B0 at *
  generalize q.txns = L at *
  obtain ⟨A, c, rfl⟩ : ∃ A c, xv = .slice A L.length c := by
    rcases hown.2 with ⟨h1, h2⟩ | ⟨g, cap, cur, hv, -⟩
    · exact ⟨none, 0, by rw [h1, h2]⟩
    · exact ⟨_, cap, hv⟩
  have HOWN := hid hown
  obtain ⟨n, hn⟩ : ∃ n, n = L.length := ⟨_, rfl⟩
  have HLN := hid hn
  rw [← hn] at HOWN hq h4
  clear hown hn
  have e43 : ∀ args w, (callFunc 43 args).run Try.prog w = .ok (.enter 43 args) w := enters_of Try.func43 (by kernel_rfl) rfl
  go_enter Try.func14, Try.ntmps14
  go_wp2_with (go_at_call 42; refine HN.out.mono ?_; rintro e w1 ⟨rfl, h1⟩; have h2 := h1.symm; clear h1; subst h2)
  go_loopg [13, 3] n (fun kx s13 s3 wr => ∃ (i : Nat) (ov : Value) (us : List Value) (B : List Nat), s13 = .int .i64 i ∧ s3 = ov ∧ i ≤ n ∧ n - i ≤ kx ∧ Hid (wr.ownsRow w.heap.size 22 1 ov i us) ∧ Hid (Txs w.heap.size wr B us (L.take i)) ∧ Hid (∀ k ∈ B, k ∉ ov.ownBlock.toList) ∧ Hid (Only [] w wr))
  case atStart => exact ⟨0, _, [], [], rfl, rfl, by omega, by omega, World.ownsRow_nil _ _ _ _, Txs.none _ _, (show ∀ k ∈ ([] : List Nat), _ from fun k hk => by simp at hk), Only.refl _ _⟩
  case round =>
    obtain ⟨i, ov, us, B, rfl, hov, hin, hk, HOW, HT, HND, HO⟩ := hrel
    have hov2 := hov.symm
    clear hov
    subst hov2
    obtain ⟨oA, oc, rfl⟩ : ∃ oA oc, ov = .slice oA i oc := by
      rcases HOW.out.2 with ⟨h1, h2⟩ | ⟨g, cap, cur, hv, -⟩
      · exact ⟨none, 0, by rw [h1, h2]⟩
      · exact ⟨_, cap, hv⟩
    by_cases hlt : i < n
    · have q1 : decide ((i : Int) < (n : Int)) = true := decide_eq_true (by omega)
      have q2 : (i : Int) < (n : Int) := by omega
      have q3 : ((i : Int)).toNat = i := by omega
      obtain ⟨g, cap, cur, hA, -⟩ := ownsRow_slice HOWN.out (by omega)
      cases hA
      obtain ⟨x, hx⟩ : ∃ x, vs[i]? = some x := ⟨vs[i]'(by rw [HTX.out.len, ← HLN.out]; exact hlt), List.getElem?_eq_getElem _⟩
      obtain ⟨t, ht⟩ : ∃ t, L[i]? = some t := ⟨L[i]'(by rw [← HLN.out]; exact hlt), List.getElem?_eq_getElem _⟩
      have hcell := World.ownsRow.cells HOWN.out (g := g) rfl i x hx
      have hgl := (World.ownsRow.lt HOWN.out g rfl).2
      rw [Addr.add_lit, Nat.zero_add] at hcell
      have hs0 : wr.heap[g]? = w.heap[g]? := HO.out.block g hgl (by simp)
      have hcw : wr.cell? ⟨g, i, none⟩ = some x := by rw [cell_same (a := ⟨g, i, none⟩) hs0]; exact hcell
      have hst := (HTX.out.each i x t hx ht).kept HO.out (by simp)
      have hcl := Clone_str hst (HQ2.out t (List.mem_of_getElem? ht))
      have HTT := hid ht
      clear hx ht hcell hgl hs0 hst
      go_wp2_with fail
      go_at_call 43
      refine hcl.mono ?_
      rintro e w2 ⟨v2, rfl, hown2, o2⟩
      obtain ⟨A5, c5, e5⟩ : ∃ A5 c5, v2 = .slice A5 t.length c5 := by
        obtain ⟨A5, c5, e5, -⟩ := StrAt.of_own hown2
        exact ⟨A5, c5, e5⟩
      subst e5
      have HS2 := hid (StrAt.of_own hown2)
      have HL2 := hid (fun k hk => ownsRow_lt hown2 (k := k) hk)
      have HO2 := hid (HO.out.trans o2 (fun _ h _ => h))
      have HOW2 := hid (ownsRow_kept HOW.out o2 (by simp))
      have HT2 := hid (HT.out.kept o2 (by simp))
      have hsz1 := HO.out.size
      have HOB := hid (fun k (hk : (Value.slice oA i oc).ownBlock = some k) => (World.ownsRow.lt HOW.out k hk).2)
      clear hcl hown2 o2 HOW HT HO hcw
      go_wp2_with (at_builtin; refine wpList_append_lies _ rfl _ _ 44 rfl w.heap.size 22 ti _ 1 24 Try.underlying44 HTI.out.1 HTI.out.2.1 HTI.out.2.2.1 HTI.out.2.2.2 rfl (by decide) (.slice oA i oc) i us rfl (World.ownsRow.alloc HOW2.out _) ⟨w2.heap.size, 0, none⟩ 1 1 [.slice A5 t.length c5] rfl ?qc1 ?qc2 ?qc3 (by decide) ?qc4 ?qc5 ?qc6 (w2.heap.size + 1) (by simp) ?_)
      case qc1 => rfl
      case qc2 =>
        intro j u hj
        rw [Addr.add_lit, Nat.zero_add, cell_of_row _ _ _ _ _ _ (heap_alloc_new w2 _)]
        show ([Value.slice A5 t.length c5].toArray)[j]? = _
        rw [List.getElem?_toArray]; exact hj
      case qc3 =>
        intro u hu
        rw [List.mem_singleton] at hu
        rw [hu]; rfl
      case qc4 => unfold maxLen; omega
      case qc5 => omega
      case qc6 => have := HO2.out.size; simp; omega
      intro g3 cap3 w3 hown3 hgrow hat hgl3
      have ho3 : Only (Value.slice oA i oc).ownBlock.toList w2 w3 := (Only.alloc _ w2 _).trans (Only.of_grown hgrow (fun k hk => by rw [hk]; simp)) (fun _ h _ => h)
      have hdj : ∀ k ∈ (Value.slice A5 t.length c5).ownBlock.toList ++ B, k ∉ (Value.slice oA i oc).ownBlock.toList ∧ k ≠ g3 := fun k hk => by
        rcases List.mem_append.1 hk with e | e
        · have h7 := HL2.out k e
          have h8 : k ∉ (Value.slice oA i oc).ownBlock.toList := fun e2 => by
            have h6 := HOB.out k (by simpa using e2)
            omega
          refine ⟨h8, fun e3 => ?_⟩
          rcases hat with e4 | e4
          · exact h8 (by rw [e4, e3]; simp)
          · omega
        · have h8 := HND.out k e
          refine ⟨h8, fun e3 => ?_⟩
          have h7 := (HT2.out.lt k e).2
          rcases hat with e4 | e4
          · exact h8 (by rw [e4, e3]; simp)
          · omega
      have hT3 := (HT2.out.snoc HS2.out (fun k hk => ⟨by have h7 := (HL2.out k hk).1; omega, (HL2.out k hk).2⟩)).kept ho3 (fun k hk => (hdj k hk).1)
      have e9 : L.take i ++ [t] = L.take (i + 1) := by
        obtain ⟨hil, e8⟩ := List.getElem?_eq_some_iff.1 HTT.out
        rw [← e8]; exact List.take_append_getElem hil
      rw [e9] at hT3
      have HT3 := hid hT3
      have HOW3 := hid hown3
      have HND3 : Hid (∀ k ∈ (Value.slice A5 t.length c5).ownBlock.toList ++ B, k ∉ (Value.slice (some ⟨g3, 0, none⟩) (i + 1) cap3).ownBlock.toList) := fun k hk e => (hdj k hk).2 (by simpa [Value.ownBlock] using e)
      have HO3 := hid (HO2.out.on ho3 (fun k hk => (World.ownsRow.lt HOW2.out k (by simpa using hk)).1))
      clear hown3 hgrow hat hgl3 ho3 hdj hT3 e9 HT2 HOW2 HS2 HL2 HO2 HTT HND
      go_wp2_with fail
      go_roundg (n - (i + 1))
      case measure => omega
      case rel => exact ⟨i + 1, _, _, _, by go_num, rfl, hlt, Nat.le_refl _, HOW3, HT3, HND3, HO3⟩
    · have q1 : decide ((i : Int) < (n : Int)) = false := decide_eq_false (by omega)
      have hin2 : i = n := by omega
      subst hin2
      have hoc : i ≤ oc := by
        rcases HOW.out.2 with ⟨-, h2⟩ | ⟨g, cap, cur, hv, -, -, h4, -⟩
        · omega
        · cases hv; exact h4
      have HF : Hid (TxV w.heap.size wr ((Value.slice oA i oc).ownBlock.toList ++ B) (.slice oA i i) L) := by
        have h9 := HT.out
        rw [HLN.out, List.take_length] at h9
        have h8 := HOW.out
        rw [HLN.out] at h8
        have h7 := TxV.of_own h8 h9 (A := oA) (c := oc) (c2 := L.length) rfl (Nat.le_refl _) (by rw [← HLN.out]; omega)
        show TxV _ _ _ _ _
        rw [HLN.out]
        exact h7
      have p1 : ((i : Int) ≤ (oc : Int)) = True := eq_true (by omega)
      have p2 : (i ≤ oc) = True := eq_true hoc
      have p3 : ((0 : Int) ≤ (i : Int)) = True := eq_true (by omega)
      clear HT HND
      cases oA with
      | none =>
        go_wp2
        go_ret
        exact ⟨_, _, rfl, HF.out, HO.out⟩
      | some ad =>
        go_wp2
        go_ret
        exact ⟨_, _, rfl, HF.out, HO.out⟩
end
end Go.Proofs.Ytnhgakmnkpjpdaa

/- A log: what its rows' and its drive's calls leave of it. -/
set_option maxRecDepth 100000
set_option linter.unusedVariables false
set_option linter.unusedSimpArgs false
namespace Go.Proofs.Ytnhgakmnkpjpdaa
open Go Go.RowKit Go.Proofs.YtnhgakmnkpjpdaaW.PrintWords Go.Proofs.YtnhgakmnkpjpdaaW.PrintLast Go.Proofs.YtnhgakmnkpjpdaaW.PrintMore
attribute [local go_sem] Oper.semAt_some max2_int min2_int max_two min_two max_three min_three max_four min_four
def upd2 {α : Type} (f : Bool → α) (b : Bool) (x : α) : Bool → α := fun c => if c = b then x else f c
theorem upd2_same {α : Type} (f : Bool → α) (b : Bool) (x : α) : upd2 f b x b = x := if_pos rfl
theorem upd2_ne {α : Type} (f : Bool → α) {b c : Bool} (x : α) (h : c ≠ b) : upd2 f b x c = f c := if_neg h
theorem lt_same {w W : World} {k : Nat} (h : k < w.heap.size) (hs : W.heap[k]? = w.heap[k]?) : k < W.heap.size := by
  rw [Array.getElem?_eq_getElem h] at hs
  exact (Array.getElem?_eq_some_iff.1 hs).1
theorem StrAt.same {w W : World} {B : List Nat} {u : Value} {t : List ByteArray} (h : StrAt w B u t) (hs : ∀ k ∈ B, W.heap[k]? = w.heap[k]?) : StrAt W B u t := by
  obtain ⟨A, c, rfl, hc, hr, hb⟩ := h
  refine ⟨A, c, rfl, hc, ⟨hr.1, hr.2.1, fun h0 => ?_⟩, fun h0 => ?_⟩
  · obtain ⟨ad, e, hcell⟩ := hr.2.2 h0
    obtain ⟨ad2, e2, hin, hlt⟩ := hb h0
    rw [e] at e2
    cases e2
    refine ⟨ad, e, fun j hj => ?_⟩
    have hs2 : W.heap[(ad.add j).block]? = w.heap[(ad.add j).block]? := by rw [add_block]; exact hs _ hin
    rw [cell_same hs2]
    exact hcell j hj
  · obtain ⟨ad2, e2, hin, hlt⟩ := hb h0
    exact ⟨ad2, e2, hin, lt_same hlt (hs _ hin)⟩
theorem Txs.same {base : Nat} {w W : World} {B : List Nat} {vs : List Value} {L : List (List ByteArray)} (h : Txs base w B vs L) (hs : ∀ k ∈ B, W.heap[k]? = w.heap[k]?) : Txs base W B vs L :=
  ⟨h.len, fun j u t hu ht => (h.each j u t hu ht).same hs, fun k hk => ⟨(h.lt k hk).1, lt_same (h.lt k hk).2 (hs k hk)⟩⟩
theorem TxV.same {base : Nat} {w W : World} {B : List Nat} {v : Value} {L : List (List ByteArray)} (h : TxV base w B v L) (hs : ∀ k ∈ B, W.heap[k]? = w.heap[k]?) : TxV base W B v L := by
  obtain ⟨A, c, vs, rfl, hc, hm, ht, ha⟩ := h
  refine ⟨A, c, vs, rfl, hc, hm, ht.same hs, fun h0 => ?_⟩
  obtain ⟨ad, e, hin, hcell⟩ := ha h0
  refine ⟨ad, e, hin, fun j u hj => ?_⟩
  have hs2 : W.heap[(ad.add j).block]? = w.heap[(ad.add j).block]? := by rw [add_block]; exact hs _ hin
  rw [cell_same hs2]
  exact hcell j u hj
section
variable {w0 w w' : World} {l : List (Nat × DS)} {F : List Nat} {i D : Nat} {s s' : DS} {m : WM} {q : WS}
/-- A row of a log has gone on. -/
theorem Wl.went (h : Wl w0 w l F i D s m q) {b : Bool} {tv' : Value} {r' : RS} (hw : Went w0 w w' l F i D s' (m.R b) (m.v b) tv' r') :
    Wl w0 w' (l.set i (D, s')) (tv'.ownBlock.toList ++ F) i D s' { m with v := upd2 m.v b tv' } { q with h := upd2 q.h b r' } := by
  have hnew : ∀ k ∈ rwFp (m.R b) tv', k ∈ rwFp (m.R b) (m.v b) ∨ k ∉ F := fun k hk => by
    rcases List.mem_cons.1 hk with e | e
    · subst e; exact .inl (by simp [rwFp])
    · exact hw.fresh k e
  have hother : ∀ c, c ≠ b → ∀ k ∈ rwFp (m.R c) (m.v c), k ∉ rwFp (m.R b) (m.v b) := fun c hc k hk e => by
    cases b <;> cases c
    · exact hc rfl
    · exact h.d1 k e hk
    · exact h.d1 k hk e
    · exact hc rfl
  refine ⟨fun c => ?_, ?_, ?_, fun k hk => List.mem_append_right _ (h.fpO k hk), fun k hk => List.mem_append_right _ (h.fpB k hk), fun c k hk => ?_, fun k hk e => ?_, h.d2⟩
  · by_cases hc : c = b
    · subst hc
      show Rw w0 w' _ _ i D s' (m.R c) (upd2 m.v c tv' c) (upd2 q.h c r' c)
      rw [upd2_same, upd2_same]
      exact hw.rw
    · show Rw w0 w' _ _ i D s' (m.R c) (upd2 m.v b tv' c) (upd2 q.h b r' c)
      rw [upd2_ne _ _ hc, upd2_ne _ _ hc]
      exact ⟨hw.rw.dr, hw.rw.hi, (h.rw c).row.same (fun k hk => hw.same k ((h.rw c).fp k hk) (hother c hc k hk)), fun k hk => List.mem_append_right _ ((h.rw c).fp k hk)⟩
  · refine Ob.same h.ob (fun k hk => ?_)
    have hk2 : k ∈ obFp m.O (q.rows m.xv m.vs) := hk
    rw [own_fp q m] at hk2
    exact hw.same k (h.fpO k hk2) (fun e => ((h.d0 b k e).1 hk2))
  · exact h.tx.same (fun k hk => hw.same k (h.fpB k hk) (fun e => ((h.d0 b k e).2 hk)))
  · by_cases hc : c = b
    · subst hc
      have hk2 : k ∈ rwFp (m.R c) tv' := by
        have hk3 : k ∈ rwFp (m.R c) (upd2 m.v c tv' c) := hk
        rwa [upd2_same] at hk3
      rcases hnew k hk2 with e | e
      · exact h.d0 c k e
      · exact ⟨fun e2 => e (h.fpO k e2), fun e2 => e (h.fpB k e2)⟩
    · have hk2 : k ∈ rwFp (m.R c) (m.v c) := by
        have hk3 : k ∈ rwFp (m.R c) (upd2 m.v b tv' c) := hk
        rwa [upd2_ne _ _ hc] at hk3
      exact h.d0 c k hk2
  · have hk3 : k ∈ rwFp (m.R false) (upd2 m.v b tv' false) := hk
    have e3 : k ∈ rwFp (m.R true) (upd2 m.v b tv' true) := e
    cases b with
    | false =>
      rw [upd2_same] at hk3
      rw [upd2_ne _ _ (by decide)] at e3
      rcases hnew k hk3 with e4 | e4
      · exact h.d1 k e4 e3
      · exact e4 ((h.rw true).fp k e3)
    | true =>
      rw [upd2_ne _ _ (by decide)] at hk3
      rw [upd2_same] at e3
      rcases hnew k e3 with e4 | e4
      · exact h.d1 k hk3 e4
      · exact e4 ((h.rw false).fp k hk3)
/-- Its drive has gone on. -/
theorem Wl.drive (h : Wl w0 w l F i D s m q) (hd : Dr w0 w' (l.set i (D, s')) F) (hs : Same F w w') : Wl w0 w' (l.set i (D, s')) F i D s' m q :=
  ⟨fun c => (h.rw c).went hd hs, h.ob.same (fun k hk => hs k (h.fpO k (by rw [← own_fp q m]; exact hk))), h.tx.same (fun k hk => hs k (h.fpB k hk)), h.fpO, h.fpB, h.d0, h.d1, h.d2⟩
/-- One of its own numbers is stored to. -/
theorem Wl.set (h : Wl w0 w l F i D s m q) (j : Nat) (x : Value) {q' : WS} (hc : q'.cs D m.R m.xv = (q.cs D m.R m.xv).setIfInBounds j x) (hh : q'.h = q.h) (ht : q'.txns = q.txns) :
    Wl w0 (w.setCell ⟨m.O, j, none⟩ x) l F i D s m q' := by
  have h2 := h.ob.set j x
  rw [← hc] at h2
  have ho := h2.2
  have hO : m.O ∈ m.own := by simp [WM.own]
  have hd : Dr w0 (w.setCell ⟨m.O, j, none⟩ x) l F := (h.rw false).dr.grow [m.O] F ho (fun k hk => by rw [List.mem_singleton] at hk; rw [hk]; exact ⟨h.fpO m.O hO, h.ob.hO⟩) (fun k hk => .inl hk)
  refine ⟨fun c => ⟨hd, (h.rw c).hi, ?_, (h.rw c).fp⟩, ?_, ?_, h.fpO, h.fpB, h.d0, h.d1, h.d2⟩
  · rw [hh]
    exact (h.rw c).row.kept ho (fun k hk e => by rw [List.mem_singleton] at e; subst e; exact (h.d0 c _ hk).1 hO)
  · have e : q'.rows m.xv m.vs = q.rows m.xv m.vs := by unfold WS.rows; rw [ht]
    rw [e]; exact h2.1
  · rw [ht]
    exact h.tx.kept ho (fun k hk e => by rw [List.mem_singleton] at e; subst e; exact h.d2 _ hO hk)
end
end Go.Proofs.Ytnhgakmnkpjpdaa
