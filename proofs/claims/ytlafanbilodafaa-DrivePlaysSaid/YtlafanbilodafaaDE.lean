/- Chapter 03: DriveSure. -/
import Derived.Test.YtlafanbilodafaaDD
import Derived.StillTailTactics
import Derived.Deep.AppendLies
import Derived.Deep.QuietTactic
import Derived.BigQuiet
set_option linter.unusedVariables false
set_option linter.unusedSimpArgs false
namespace Go.Proofs.Ytlafanbilodafaa
open Go Go.RowKit Go.Proofs.Ytlafanbilodafaa.Q Go.Proofs.YtlafanbilodafaaW.PrintWords Go.Proofs.YtlafanbilodafaaW.PrintLast Go.Proofs.YtlafanbilodafaaW.PrintMore
attribute [local go_sem] Oper.semAt_some max2_int min2_int max_two min_two max_three min_three max_four min_four
def boxC (keep torn at_ : Int) : Obj := .cells #[.int .u64 keep, .int .i64 torn, .int .i64 at_] 33 (0, 0)
def c38 (x : S38) : List Value := [.int .u8 x.f0, .int .i64 x.f1, .string x.f2, .int .u64 x.f3.f0, .int .i64 x.f3.f1, .int .i64 x.f3.f2]
def c38s (l : List S38) : List Value := l.flatMap c38
/-- The cells of one act, in a later world. -/
theorem act_cells {w wr : World} {A : Option Addr} {l : List S38} (h : Kd.C k38 w A l.length l) (hb : Below w.heap.size w wr) (i : Int) (h0 : 0 ≤ i) (h1 : i < (l.length : Int)) : ∃ ad, A = some ad ∧ wr.cell? (ad.add (i.toNat * 6)) = some (.int .u8 (rd_T38 l i).f0) ∧ wr.cell? ⟨(ad.add (i.toNat * 6)).block, (ad.add (i.toNat * 6)).off + 1, none⟩ = some (.int .i64 (rd_T38 l i).f1) ∧
    wr.cell? ⟨(ad.add (i.toNat * 6)).block, (ad.add (i.toNat * 6)).off + 2, none⟩ = some (.string (rd_T38 l i).f2) ∧ wr.cell? ⟨(ad.add (i.toNat * 6)).block, (ad.add (i.toNat * 6)).off + 3, none⟩ = some (.int .u64 (rd_T38 l i).f3.f0) ∧
    wr.cell? ⟨(ad.add (i.toNat * 6)).block, (ad.add (i.toNat * 6)).off + 4, none⟩ = some (.int .i64 (rd_T38 l i).f3.f1) ∧ wr.cell? ⟨(ad.add (i.toNat * 6)).block, (ad.add (i.toNat * 6)).off + 5, none⟩ = some (.int .i64 (rd_T38 l i).f3.f2) :=
  at_T38 (Kd.C_below h hb) i h0 h1
/-- Behind some writes: the drives, the failure, the open writes' own row. -/
structure OpenAt (w wr : World) (D CA TO : Nat) (s2 s : DS) (ops : List S38) (v : Value) (keep torn at_ : Int) : Prop where
  dr : Dr w wr [(D, s2), (CA, s2), (TO, s)] (w.heap.size :: v.ownBlock.toList)
  box : wr.heap[w.heap.size]? = some (boxC keep torn at_)
  own : wr.ownsRow (w.heap.size + 1) 38 6 v ops.length (c38s ops)
theorem ownsRow_same {w w' : World} {base : Nat} {e : TypeId} {size : Nat} {v : Value} {n : Nat} {xs : List Value} {F : List Nat} (h : w.ownsRow base e size v n xs) (hs : Same F w w') (hF : ∀ k, k ∈ v.ownBlock.toList → k ∈ F) : w'.ownsRow base e size v n xs := by
  refine ⟨h.1, ?_⟩
  rcases h.2 with hn | ⟨g, cap, cur, rfl, hb, hgg, rest⟩
  · exact .inl hn
  · refine .inr ⟨g, cap, cur, rfl, hb, ?_, rest⟩
    rw [hs g (hF g (by simp [Value.ownBlock]))]
    exact hgg
theorem info38 : (Try.prog.info? 38).map (fun i => (i.zero, i.size, i.bytes)) = some (some (.agg #[.int .u8 0, .int .i64 0, .string ⟨#[]⟩, .int .u64 0, .int .i64 0, .int .i64 0]), 6, 56) := by kernel_rfl
theorem c38_one (x : S38) : ∀ u ∈ c38 x, u.oneCell' = true := by
  intro u hu
  simp only [c38, List.mem_cons, List.not_mem_nil, or_false] at hu
  rcases hu with rfl | rfl | rfl | rfl | rfl | rfl <;> rfl
theorem c38s_len (l : List S38) : (c38s l).length = l.length * 6 := flat_length c38 6 l (fun _ _ => rfl)
/-- The open writes' row, as 'wrote' reads it. -/
theorem ops_read {w : World} {base : Nat} {ops : List S38} {v : Value} (h : w.ownsRow base 38 6 v ops.length (c38s ops)) : ∃ A c, v = .slice A ops.length c ∧ ops.length ≤ c ∧ Kd.C k38 w A ops.length ops := by
  rcases h.2 with ⟨rfl, h0⟩ | ⟨g, cap, cur, rfl, hb, hg, hc, hm, hs, hx⟩
  · have : ops = [] := List.eq_nil_of_length_eq_zero h0
    subst this
    exact ⟨none, 0, rfl, Nat.le_refl _, rfl, Nat.zero_le _, fun h => absurd h (by simp)⟩
  · refine ⟨some ⟨g, 0, none⟩, cap, rfl, hc, rfl, by unfold maxLen at hm; omega, fun _ => ⟨⟨g, 0, none⟩, rfl, fun j x hj => ⟨c38 x, rfl, k38_mk w x, fun i u hi => ?_⟩⟩⟩
    have hj' : j < ops.length := (List.getElem?_eq_some_iff.1 hj).1
    have hi' : i < 6 := (List.getElem?_eq_some_iff.1 hi).1
    have hlt : j * 6 + i < ops.length * 6 := by have : (j + 1) * 6 ≤ ops.length * 6 := Nat.mul_le_mul_right _ hj'; omega
    show w.cell? ((⟨g, 0, none⟩ : Addr).add (j * 6 + i)) = some u
    rw [Addr.add_mid, Nat.zero_add, cell_of_row w _ _ _ _ _ hg, own_at hx (by rw [hs]; exact Nat.mul_le_mul_right _ hc) _ hlt]
    unfold c38s
    rw [flat_at c38 6 ops (fun _ _ => rfl) j i x hj hi', hi]
/-- One more open write in its row. -/
theorem Dr.opened {w w3 w4 : World} {D CA TO : Nat} {s2 s : DS} {ops : List S38} {X : S38} {v : Value} {keep torn at_ : Int} {ob : Obj} (hd : Dr w w3 [(D, s2), (CA, s2), (TO, s)] (w.heap.size :: v.ownBlock.toList)) (hb : w3.heap[w.heap.size]? = some (boxC keep torn at_))
    (hw : w3.ownsRow (w.heap.size + 1) 38 6 v ops.length (c38s ops)) (h3 : w.heap.size + 1 ≤ w3.heap.size) {g cap : Nat} (hown : w4.ownsRow (w.heap.size + 1) 38 6 (.slice (some ⟨g, 0, none⟩) (ops.length + 1) cap) (ops.length + 1) (c38s ops ++ c38 X))
    (hg : (w3.alloc ob).grownBy w4 v.ownBlock) (hat : v.ownBlock = some g ∨ g = w3.heap.size + 1) (hl : g < w4.heap.size) : OpenAt w w4 D CA TO s2 s (ops ++ [X]) (.slice (some ⟨g, 0, none⟩) (ops.length + 1) cap) keep torn at_ := by
  have ho : Only v.ownBlock.toList w3 w4 := ((Only.alloc [] w3 ob).mono (by simp)).trans (Only.of_grown hg (fun k hk => by rw [hk]; simp)) (fun _ h _ => h)
  have hvb : ∀ k, k ∈ v.ownBlock.toList → w.heap.size + 1 ≤ k := fun k hk => (ownsRow_lt hw hk).1
  refine ⟨hd.grow v.ownBlock.toList _ ho (fun k hk => ⟨by simp [hk], by have := hvb k hk; omega⟩) (fun k hk => ?_), ?_, ?_⟩
  · rcases List.mem_cons.1 hk with rfl | hk
    · exact .inl (by simp)
    · have e : k = g := by simpa [Value.ownBlock, eq_comm] using hk
      subst e
      rcases hat with h | h
      · exact .inl (by rw [h]; simp)
      · exact .inr ⟨by omega, hl⟩
  · exact (ho.block _ (by omega) (fun hk => by have := hvb _ hk; omega)).trans hb
  · have e1 : (ops ++ [X]).length = ops.length + 1 := by simp
    have e2 : c38s (ops ++ [X]) = c38s ops ++ c38 X := by unfold c38s; simp
    rw [e1, e2]
    exact hown
/-- What the last loop looks at. -/
structure LookAt (w wr : World) (ds : List (Nat × DS)) (ops : List S38) (v : Value) (keep torn at_ : Int) : Prop where
  dr : Dr w wr ds (w.heap.size :: v.ownBlock.toList)
  box : wr.heap[w.heap.size]? = some (boxC keep torn at_)
  own : wr.ownsRow (w.heap.size + 1) 38 6 v ops.length (c38s ops)
theorem LookAt.drawn {w wr : World} {ds : List (Nat × DS)} {ops : List S38} {v : Value} {keep torn at_ : Int} (h : LookAt w wr ds ops v keep torn at_) (n : Nat) : LookAt w (wr.drewN n) ds ops v keep torn at_ :=
  ⟨h.dr.new ⟨rfl, rfl, rfl, Nat.le_refl _, fun _ _ _ => rfl⟩, h.box, h.own⟩
theorem LookAt.reads {w wr : World} {ds : List (Nat × DS)} {ops : List S38} {A : Option Addr} {c : Nat} {keep torn at_ : Int} (h : LookAt w wr ds ops (.slice A ops.length c) keep torn at_) : Kd.C k38 wr A ops.length ops := by
  obtain ⟨A', c', e, -, hC⟩ := ops_read h.own
  injection e with e1 e2 e3
  rw [e1]
  exact hC
theorem LookAt.wrote {w wr : World} {ds : List (Nat × DS)} {ops : List S38} {A : Option Addr} {c : Nat} {keep torn at_ : Int} (h : LookAt w wr ds ops (.slice A ops.length c) keep torn at_) (hc : ops.length ≤ c) (hl : ops.length ≤ maxLen) {n a b : Int} (ha : 0 ≤ a) (hb : 0 ≤ b ∧ b < 256) (hw : wroteB ops n a b = true) (j : Nat) :
    Calls Try.prog 15 #[.slice A ops.length c, .int .i64 n, .int .i64 a, .int .u8 b] (wr.drewN j) fun e w' => e = .returned (.bool true) ∧ w' = wr.drewN j :=
  (wrote_calls _ A c ops (h.drawn j).reads hc hl n a b ha hb).mono fun e w' ⟨h1, h2⟩ => ⟨by rw [h1, hw], h2.symm⟩
theorem readS_B {s : DS} {n : Int} (h : 0 ≤ n ∧ n < (s.now.length : Int)) : readS s n = B (s.now.getD n.toNat []) := by unfold readS; rw [if_pos h]
/-- What the law says, of a drive's sectors. -/
structure Told (s2 s4 s : DS) (ops : List S38) (keep torn : Int) : Prop where
  len2 : s2.now.length = 8
  len4 : s4.now.length = 8
  len : s.now.length = 8
  size2 : ∀ n : Int, 0 ≤ n → n < 8 → (readS s2 n).size = 64
  size4 : ∀ n : Int, 0 ≤ n → n < 8 → (readS s4 n).size = 64
  byte : ∀ n k : Int, 0 ≤ n → n < 8 → 0 ≤ k → k < 64 → bt (readS s4 n) k ≠ bt (readS s2 n) k → wroteB ops n k (bt (readS s4 n) k) = true
  all : ∀ n : Int, 0 ≤ n → n < 8 → keep = 18446744073709551615 → torn < 0 → readS s4 n = readS s n
theorem TornIs.told {s2 s s4 : DS} {ops : List S38} {i : Nat} {keep torn : Int} (h : TornIs s2 s ops i) (hc : Calm s2) (hk : 0 ≤ keep ∧ keep < 18446744073709551616) (at_ : Int) (h4 : s4 = crashS s keep torn at_) (h64 : ∀ y ∈ s2.now, y.length = 64) : Told s2 s4 s ops keep torn := by
  have hw : ∀ x ∈ s.opn, x.1 < s.sure.length ∧ x.2.length = 64 := fun x hx => by
    rw [h.opn] at hx
    obtain ⟨y, hy, rfl⟩ := List.mem_map.1 hx
    have := h.ok y hy
    rw [h.sure, hc.sure, hc.now]
    exact ⟨by show y.f1.toNat < 8; omega, padS_length _⟩
  have hs64 : ∀ y ∈ s.sure, y.length = 64 := by rw [h.sure, hc.sure]; exact h64
  have hlen : s.sure.length = 8 := by rw [h.sure, hc.sure, hc.now]
  have hS : s4.now = sureAt keep torn at_ s.sure s.opn s.opn.length := by rw [h4]; rfl
  have h8 : s4.now.length = 8 := by rw [hS, sureAt_len, hlen]
  have hS64 : ∀ y ∈ s4.now, y.length = 64 := by rw [hS]; exact sureAt_64 hs64 hw _ (Nat.le_refl _)
  refine ⟨hc.now, h8, h.n8, fun n h0 h1 => ?_, fun n h0 h1 => ?_, fun n k h0 h1 k0 k1 hne => ?_, fun n h0 h1 e1 e2 => ?_⟩
  · rw [readS_B (by rw [hc.now]; omega), B_size]; exact getD_64 h64 (by rw [hc.now]; omega)
  · rw [readS_B (by rw [h8]; omega), B_size]; exact getD_64 hS64 (by rw [h8]; omega)
  · rw [readS_B (by rw [h8]; omega)] at hne ⊢
    rw [readS_B (by rw [hc.now]; omega)] at hne
    rw [bt_B, bt_B] at hne
    rw [bt_B]
    have hb := sureAt_byte keep torn at_ s.sure s.opn hs64 hw n.toNat k.toNat (by omega) s.opn.length (Nat.le_refl _)
    rw [← hS, h.sure, hc.sure] at hb
    rcases hb with hb | ⟨x, hx, hxn, hb⟩
    · exact absurd (by rw [hb]) hne
    · rw [h.opn] at hx
      obtain ⟨y, hy, rfl⟩ := List.mem_map.1 hx
      have hok := h.ok y hy
      unfold wroteB
      rw [List.any_eq_true]
      refine ⟨y, hy, ?_⟩
      unfold wroteP
      have e1 : y.f1 = n := by
        have : y.f1.toNat = n.toNat := hxn
        omega
      have e2 := padS_byte y.f2 hok.2.2 k.toNat (by omega)
      rw [Int.toNat_of_nonneg k0] at e2
      rw [hb, ← e2, e1]
      simp [wrO]
  · rw [readS_B (by rw [h8]; omega), readS_B (by rw [h.n8]; omega)]
    congr 2
    rw [hS, sureAt_all keep torn at_ e1 e2 s.sure s.opn hs64 hw s.opn.length (Nat.le_refl _), List.take_length, h.now, h.opn, h.sure, hc.sure]
set_option maxRecDepth 100000 in
set_option maxHeartbeats 2000000 in
theorem DriveSure_calls (w : World) (A : Option Addr) (c : Nat) (l : List S38) (hr : Kd.C k38 w A l.length l) (hc : l.length ≤ c) (hl : l.length ≤ maxLen) (A1 : Option Addr) (c1 : Nat) (m : List S38) (hr1 : Kd.C k38 w A1 m.length m) (hc1 : m.length ≤ c1) (hl1 : m.length ≤ maxLen)
    (keep torn at_ : Int) (hk : 0 ≤ keep ∧ keep < 18446744073709551616) :
    Calls Try.prog 4 #[.slice A l.length c, .slice A1 m.length c1, .agg #[.int .u64 keep, .int .i64 torn, .int .i64 at_]] w fun e w' => e = .returned (.bool true) ∧ Below w.heap.size w w' := by
  have HR := hid hr
  have HR1 := hid hr1
  have HK := hid hk
  have HC1 := hid hc1
  have HL1 := hid hl1
  unfold maxLen at hl hl1
  obtain ⟨W, hW⟩ : ∃ W, W = w.alloc (.cells #[.int .u64 keep, .int .i64 torn, .int .i64 at_] 33) := ⟨_, rfl⟩
  have hd0 : Dr w W [] [w.heap.size] := (Dr.start w).grow [] [w.heap.size] (by rw [hW]; exact Only.alloc [] w _) (by simp) (fun k hk => .inr (by rw [hW]; simp at hk ⊢; omega))
  have hb0 : W.heap[w.heap.size]? = some (boxC keep torn at_) := by rw [hW]; exact heap_alloc_new w _
  have HW := hid hW
  have HB0 := hid hb0
  clear hr hr1 hk hc1 hb0
  go_enter Try.func4, Try.ntmps4
  go_wp2_with fail
  rw [← HW.out]
  go_at_call 6
  refine (hd0.make 8 (by decide) (by decide)).mono ?_
  rintro e w1 ⟨v, rfl, D, rfl, hd1, sm⟩
  replace hd1 : Dr w w1 [(D, newS 8)] [w.heap.size] := hd1
  have HB1 := hid ((sm _ (by simp)).trans HB0.out)
  clear sm hd0 hW HB0 HW
  unfold ptr
  by_cases c0 : (l.length : Int) ≤ 20 ∧ (m.length : Int) ≤ 20
  · have d1 : decide (20 < (l.length : Int)) = false := decide_eq_false (by omega)
    have d2 : decide (20 < (m.length : Int)) = false := decide_eq_false (by omega)
    have HL20 := hid c0
    have HS1 := hid (show ∃ s, Dr w w1 [(D, s)] [w.heap.size] ∧ Free s 0 from ⟨_, hd1, rfl, Nat.le_refl 0, rfl⟩)
    clear c0 hd1
    go_wp2_with fail
    clear d1 d2
    go_loopw [9] (fun q wr => ∃ i : Int, q = .int .i64 i ∧ Aside0 (0 ≤ i ∧ i ≤ (l.length : Int)) ∧ Aside0 (∃ s, Dr w wr [(D, s)] [w.heap.size] ∧ Free s i.toNat) ∧ Aside0 (wr.heap[w.heap.size]? = some (boxC keep torn at_))) (fun q _ => l.length - (intOf q).toNat)
    case atStart => exact ⟨0, rfl, ⟨⟨by decide, by omega⟩⟩, ⟨HS1.out⟩, ⟨HB1.out⟩⟩
    case round =>
      obtain ⟨i, rfl, HI, HS, HB⟩ := hrel
      obtain ⟨s, hd, hf⟩ := HS.out
      have p0 : 0 ≤ i := HI.out.1
      clear HS HS1 HB1
      by_cases c1 : i < (l.length : Int)
      · obtain ⟨ad, rfl, x0, x1, x2, x3, x4, x5⟩ := act_cells HR.out hd.below i p0 c1
        obtain ⟨X, hX⟩ : ∃ X, X = rd_T38 l i := ⟨_, rfl⟩
        rw [← hX] at x0 x1 x2 x3 x4 x5
        have d1 : decide (i < (l.length : Int)) = true := decide_eq_true c1
        have q0 := eq_true p0
        have q1 := eq_true c1
        have C1 := hid c1
        have hlk : i ≤ 20 := by have := HL20.out.1; omega
        have HD := hid (hd.new (Only.drew [] _))
        have HM := hid (show s.opn.length < 1000000 by have := hf.opn; omega)
        have HF := hid hf
        clear hX c1 hd hf x0 x3 x4 x5
        go_wp2_with fail
        go_still_tail 11, (by kernel_rfl)
        change wpList _ _ _ _ _ wr.drew
        have hbx : Hid (wr.drew.heap[w.heap.size]? = some (boxC keep torn at_)) := HB.out
        go_wp2_with fail
        go_at_call 9
        refine (HD.out.write (i := 0) rfl HM.out X.f1 X.f2).mono ?_
        rintro e w3 ⟨rfl, hd3, sm⟩
        replace hd3 : Dr w w3 [(D, (writeR s X.f1 X.f2).1)] [w.heap.size] := hd3
        have HB3 := hid ((sm _ (by simp)).trans hbx.out)
        clear sm
        go_wp2_with fail
        go_roundw
        case rel => exact ⟨i + 1, by go_num, ⟨⟨by omega, by have := C1.out; omega⟩⟩, ⟨⟨_, hd3, by rw [show (i + 1).toNat = i.toNat + 1 by omega]; exact HF.out.write _ _⟩⟩, ⟨HB3.out⟩⟩
        case measure => simp [intOf]; have := C1.out; omega
      · have d1 : decide (i < (l.length : Int)) = false := decide_eq_false c1
        obtain ⟨he, hcm⟩ := hf.sync
        obtain ⟨s2, hs2⟩ : ∃ s2, s2 = (syncR s).1 := ⟨_, rfl⟩
        have HE := hid he
        have HS2 := hid hs2
        rw [← hs2] at hcm
        have HCM := hid hcm
        have HD := hid hd
        clear c1 hf he hs2 hcm hd
        go_wp2_with fail
        go_at_call 8
        refine (HD.out.sync (i := 0) rfl).mono ?_
        rintro e w3 ⟨rfl, hd3, sm⟩
        rw [HE.out]
        rw [← HS2.out] at hd3
        replace hd3 : Dr w w3 [(D, s2)] [w.heap.size] := hd3
        have HB3 := hid ((sm _ (by simp)).trans HB.out)
        clear sm HB
        go_wp2_with fail
        go_at_call 12
        refine (hd3.pending (i := 0) rfl).mono ?_
        rintro e w4 ⟨rfl, rfl⟩
        rw [HCM.out.opn]
        have hn0 : (((([] : List (Nat × List UInt8)).length : Nat)) : Int) = 0 := rfl
        rw [hn0]
        clear hn0
        have HMS := hid (show s2.opn.length < 1000000 by rw [HCM.out.opn]; decide)
        go_wp2_with fail
        go_at_call 13
        refine (hd3.copy (i := 0) rfl HMS.out).mono ?_
        rintro e w5 ⟨v, rfl, CA, rfl, hd5, sm⟩
        replace hd5 : Dr w w5 [(D, s2), (CA, s2)] [w.heap.size] := hd5
        have HB5 := hid ((sm _ (by simp)).trans HB3.out)
        clear sm hd3 HB3
        unfold ptr
        have b0 : w5.cell? ⟨w.heap.size, 0, none⟩ = some (.int .u64 keep) := (cell_of_row w5 _ _ _ _ _ HB5.out).trans rfl
        have b1 : w5.cell? ⟨w.heap.size, 1, none⟩ = some (.int .i64 torn) := (cell_of_row w5 _ _ _ _ _ HB5.out).trans rfl
        have b2 : w5.cell? ⟨w.heap.size, 2, none⟩ = some (.int .i64 at_) := (cell_of_row w5 _ _ _ _ _ HB5.out).trans rfl
        go_wp2_with fail
        go_at_call 10
        refine (hd5.crash (i := 1) rfl HMS.out keep torn at_ HK.out).mono ?_
        rintro e w6 ⟨rfl, hd6, sm⟩
        rw [HCM.out.crash] at hd6
        replace hd6 : Dr w w6 [(D, s2), (CA, s2)] [w.heap.size] := hd6
        have HB6 := hid ((sm _ (by simp)).trans HB5.out)
        clear sm hd5 HB5 b0 b1 b2
        go_wp2_with fail
        go_at_call 13
        refine (hd6.copy (i := 0) rfl HMS.out).mono ?_
        rintro e w7 ⟨v, rfl, TO, rfl, hd7, sm⟩
        replace hd7 : Dr w w7 [(D, s2), (CA, s2), (TO, s2)] [w.heap.size] := hd7
        have HB7 := hid ((sm _ (by simp)).trans HB6.out)
        clear sm hd6 HB6
        unfold ptr
        go_wp2_with fail
        have HO7 := hid (show OpenAt w w7 D CA TO s2 s2 [] (.slice none 0 0) keep torn at_ from ⟨hd7, HB7.out, World.ownsRow_nil _ _ _ _⟩)
        clear hd7 HB7
        clear d1
        go_loopw [12, 13] (fun v' q wr => ∃ (v : Value) (i : Int) (s : DS) (ops : List S38), v = v' ∧ q = .int .i64 i ∧ Aside0 (0 ≤ i ∧ i ≤ (m.length : Int)) ∧ Aside0 (TornIs s2 s ops i.toNat) ∧ Aside0 (OpenAt w wr D CA TO s2 s ops v keep torn at_)) (fun _ q _ => m.length - (intOf q).toNat)
        case atStart => exact ⟨.slice none 0 0, 0, s2, [], rfl, rfl, ⟨⟨by decide, by omega⟩⟩, ⟨HCM.out.torn⟩, ⟨HO7.out⟩⟩
        case round =>
          obtain ⟨v, i, s, ops, rfl, rfl, HI, HT, HO⟩ := hrel
          clear HO7
          have p0 : 0 ≤ i := HI.out.1
          by_cases c1 : i < (m.length : Int)
          · obtain ⟨ad, rfl, x0, x1, x2, x3, x4, x5⟩ := act_cells HR1.out HO.out.dr.below i p0 c1
            obtain ⟨X, hX⟩ : ∃ X, X = rd_T38 m i := ⟨_, rfl⟩
            rw [← hX] at x0 x1 x2 x3 x4 x5
            have HX := hid hX
            have d1 : decide (i < (m.length : Int)) = true := decide_eq_true c1
            have q0 := eq_true p0
            have q1 := eq_true c1
            have C1 := hid c1
            have hlk : i ≤ 20 := by have := HL20.out.2; omega
            have HD := hid (HO.out.dr.new (Only.drew [] _))
            have HM := hid (show s.opn.length < 1000000 by have := HT.out.len; rw [HT.out.opn, List.length_map]; omega)
            clear hX c1 x0 x3 x4 x5
            rcases HT.out.write X with ⟨he, ht⟩ | ⟨he, ht⟩
            · have HE := hid he
              have HT3 := hid ht
              clear he ht
              go_wp2_with fail
              go_still_tail 11, (by kernel_rfl)
              change wpList _ _ _ _ _ wr.drew
              go_wp2_with fail
              go_at_call 9
              refine (HD.out.write (i := 2) rfl HM.out X.f1 X.f2).mono ?_
              rintro e w3 ⟨rfl, hd3, sm⟩
              rw [HE.out]
              replace hd3 : Dr w w3 [(D, s2), (CA, s2), (TO, (writeR s X.f1 X.f2).1)] (w.heap.size :: v.ownBlock.toList) := hd3
              have HB3 := hid ((sm _ (by simp)).trans (show wr.drew.heap[w.heap.size]? = _ from HO.out.box))
              have HOW := hid (ownsRow_same (show wr.drew.ownsRow _ _ _ _ _ _ from HO.out.own) sm (fun k hk => by simp [hk]))
              have HD3 := hid hd3
              obtain ⟨ad', e', x0, x1', x2', x3, x4, x5⟩ := act_cells HR1.out hd3.below i p0 C1.out
              cases e'
              rw [← HX.out] at x0 x1' x2' x3 x4 x5
              obtain ⟨ti, hti, htz, hts, htb⟩ := info_three info38
              have HTI := hid (And.intro hti (And.intro htz (And.intro hts htb)))
              have HW3 := hid (show w.heap.size + 1 ≤ w3.heap.size from hd3.lt _ (by simp))
              have HOL := hid (show ops.length ≤ 20 by have := HT.out.len; omega)
              clear sm hd3 HO HD x1 x2 hti htz hts htb
              go_wp2_with (at_builtin; refine wpList_append_lies _ rfl (.tmp 98) (.tmp 103) 36 rfl (w.heap.size + 1) 38 ti _ 6 56 Try.underlying36 HTI.out.1 HTI.out.2.1 HTI.out.2.2.1 HTI.out.2.2.2 rfl (by decide) v ops.length (c38s ops) rfl (HOW.out.alloc _) ⟨w3.heap.size, 0, none⟩ 1 1 (c38 X) rfl rfl (World.news_of_block (heap_alloc_new w3 _)) (c38_one X) (by decide) (by have := HOL.out; unfold maxLen; omega) (by have := HOL.out; omega) (by have := HW3.out; simp; omega) (w3.heap.size + 1) (by simp) ?_; intro g cap w4 hown hgrow hat hgl; have HO4 := hid (HD3.out.opened HB3.out HOW.out HW3.out hown hgrow hat hgl); clear hown hgrow hat hgl)
              go_roundw
              case rel => exact ⟨_, i + 1, _, ops ++ [X], rfl, by go_num, ⟨⟨by omega, by have := C1.out; omega⟩⟩, ⟨by rw [show (i + 1).toNat = i.toNat + 1 by omega]; exact HT3.out⟩, ⟨HO4.out⟩⟩
              case measure => simp [intOf]; have := C1.out; omega
            · obtain ⟨r, hr⟩ : ∃ r, r = (writeR s X.f1 X.f2).2 := ⟨_, rfl⟩
              rw [← hr] at he
              have e5 : (r == 0) = false := by simpa using he
              have HRR := hid hr
              have HT3 := hid ht
              clear he ht hr
              go_wp2_with fail
              go_still_tail 11, (by kernel_rfl)
              change wpList _ _ _ _ _ wr.drew
              go_wp2_with fail
              go_at_call 9
              refine (HD.out.write (i := 2) rfl HM.out X.f1 X.f2).mono ?_
              rintro e w3 ⟨rfl, hd3, sm⟩
              rw [← HRR.out]
              replace hd3 : Dr w w3 [(D, s2), (CA, s2), (TO, (writeR s X.f1 X.f2).1)] (w.heap.size :: v.ownBlock.toList) := hd3
              have HB3 := hid ((sm _ (by simp)).trans (show wr.drew.heap[w.heap.size]? = _ from HO.out.box))
              have HOW := hid (ownsRow_same (show wr.drew.ownsRow _ _ _ _ _ _ from HO.out.own) sm (fun k hk => by simp [hk]))
              clear sm HO HD x1 x2
              go_wp2_with fail
              go_roundw
              case rel => exact ⟨_, i + 1, _, ops, rfl, by go_num, ⟨⟨by omega, by have := C1.out; omega⟩⟩, ⟨by rw [show (i + 1).toNat = i.toNat + 1 by omega]; exact HT3.out⟩, ⟨⟨hd3, HB3.out, HOW.out⟩⟩⟩
              case measure => simp [intOf]; have := C1.out; omega
          · have d1 : decide (i < (m.length : Int)) = false := decide_eq_false c1
            have HMO := hid (show s.opn.length < 1000000 by have := HT.out.len; have := HL20.out.2; have := HI.out.2; rw [HT.out.opn, List.length_map]; omega)
            obtain ⟨Ao, co, rfl, hco, hCo⟩ := ops_read HO.out.own
            have HCO := hid hCo
            have HOL := hid (show ops.length ≤ maxLen by have := HT.out.len; have := HI.out.2; have := HL20.out.2; unfold maxLen; omega)
            clear c1 hCo
            go_wp2_with fail
            go_at_call 13
            refine (HO.out.dr.copy (i := 2) rfl HMO.out).mono ?_
            rintro e w8 ⟨v, rfl, SE, rfl, hd8, sm⟩
            replace hd8 : Dr w w8 [(D, s2), (CA, s2), (TO, s), (SE, s)] (w.heap.size :: (Value.slice Ao ops.length co).ownBlock.toList) := hd8
            have HB8 := hid ((sm _ (by simp)).trans HO.out.box)
            have HW8 := hid (ownsRow_same HO.out.own sm (fun k hk => by simp [hk]))
            clear sm HO
            unfold ptr
            have b0 : w8.cell? ⟨w.heap.size, 0, none⟩ = some (.int .u64 keep) := (cell_of_row w8 _ _ _ _ _ HB8.out).trans rfl
            have b1 : w8.cell? ⟨w.heap.size, 1, none⟩ = some (.int .i64 torn) := (cell_of_row w8 _ _ _ _ _ HB8.out).trans rfl
            have b2 : w8.cell? ⟨w.heap.size, 2, none⟩ = some (.int .i64 at_) := (cell_of_row w8 _ _ _ _ _ HB8.out).trans rfl
            go_wp2_with fail
            go_at_call 10
            refine (hd8.crash (i := 2) rfl HMO.out keep torn at_ HK.out).mono ?_
            rintro e w9 ⟨rfl, hd9, sm⟩
            obtain ⟨s4, hs4⟩ : ∃ s4, s4 = crashS s keep torn at_ := ⟨_, rfl⟩
            rw [← hs4] at hd9
            have HS4 := hid hs4
            replace hd9 : Dr w w9 [(D, s2), (CA, s2), (TO, s4), (SE, s)] (w.heap.size :: (Value.slice Ao ops.length co).ownBlock.toList) := hd9
            have HB9 := hid ((sm _ (by simp)).trans HB8.out)
            have HW9 := hid (ownsRow_same HW8.out sm (fun k hk => by simp [hk]))
            clear sm hd8 HB8 HW8 b0 b1 b2 hs4
            go_wp2_with fail
            have HO9 := hid (show LookAt w w9 [(D, s2), (CA, s2), (TO, s4), (SE, s)] ops (.slice Ao ops.length co) keep torn at_ from ⟨hd9, HB9.out, HW9.out⟩)
            have HEND := hid (HT.out.told HCM.out HK.out at_ HS4.out (by obtain ⟨dv, -, hdv⟩ := hd9.at (i := 0) rfl; exact hdv.secN))
            clear hd9 HB9 HW9 HT d1
            go_loopw [15] (fun q wr => ∃ (i : Int), q = .int .i64 i ∧ Aside0 (0 ≤ i ∧ i ≤ 8) ∧ Aside0 (LookAt w wr [(D, s2), (CA, s2), (TO, s4), (SE, s)] ops (.slice Ao ops.length co) keep torn at_)) (fun q _ => 8 - (intOf q).toNat)
            case atStart => exact ⟨0, rfl, ⟨⟨by decide, by decide⟩⟩, ⟨HO9.out⟩⟩
            case round =>
              obtain ⟨n, rfl, HN, HLK⟩ := hrel
              clear HO9
              have p0 : 0 ≤ n := HN.out.1
              by_cases c1 : n < 8
              · have HLL := hid HLK.out
                have d1 : decide (n < 8) = true := decide_eq_true c1
                have z2 := HEND.out.size2 n p0 c1
                have z4 := HEND.out.size4 n p0 c1
                have HBY := hid (fun k => HEND.out.byte n k p0 c1)
                have HAL := hid (HEND.out.all n p0 c1)
                have HE2 := hid (show hasE s2.now.length n = 0 by unfold hasE; rw [HEND.out.len2, if_pos (by omega)])
                have HE4 := hid (show hasE s4.now.length n = 0 by unfold hasE; rw [HEND.out.len4, if_pos (by omega)])
                have HES := hid (show hasE s.now.length n = 0 by unfold hasE; rw [HEND.out.len, if_pos (by omega)])
                obtain ⟨R2, hR2⟩ : ∃ R, R = readS s2 n := ⟨_, rfl⟩
                obtain ⟨R4, hR4⟩ : ∃ R, R = readS s4 n := ⟨_, rfl⟩
                obtain ⟨RS, hRS⟩ : ∃ R, R = readS s n := ⟨_, rfl⟩
                rw [← hR2] at z2 HBY
                rw [← hR4] at z4 HBY HAL
                rw [← hRS] at HAL
                have t2 : ((R4.size : Int) != 64) = false := by rw [z4]; rfl
                have t3 : ((R2.size : Int) != 64) = false := by rw [z2]; rfl
                have HR2 := hid hR2
                have HR4 := hid hR4
                have HRS := hid hRS
                have Z4 := hid z4
                have Z2 := hid z2
                have C1 := hid c1
                clear hR2 hR4 hRS z2 z4 c1 HLK
                go_wp2_with fail
                go_at_call 14
                refine (HLL.out.dr.read (i := 0) rfl n).mono ?_
                rintro e w10 ⟨rfl, rfl⟩
                rw [HE2.out, ← HR2.out]
                go_wp2_with fail
                go_at_call 14
                refine (HLL.out.dr.read (i := 1) rfl n).mono ?_
                rintro e w11 ⟨rfl, rfl⟩
                rw [HE2.out, ← HR2.out]
                go_wp2_with fail
                go_at_call 14
                refine (HLL.out.dr.read (i := 2) rfl n).mono ?_
                rintro e w12 ⟨rfl, rfl⟩
                rw [HE4.out, ← HR4.out]
                go_wp2_with fail
                clear t2 t3
                obtain ⟨wo, rfl⟩ : ∃ wo : World, wo = w12 := ⟨_, rfl⟩
                go_loopw [22] (fun q wr => ∃ (k : Int), q = .int .i64 k ∧ Aside0 (0 ≤ k ∧ k ≤ 64) ∧ Aside0 (LookAt w wr [(D, s2), (CA, s2), (TO, s4), (SE, s)] ops (.slice Ao ops.length co) keep torn at_)) (fun q _ => 64 - (intOf q).toNat)
                case atStart => exact ⟨0, rfl, ⟨⟨by decide, by decide⟩⟩, ⟨HLL.out⟩⟩
                case round =>
                  obtain ⟨k, rfl, HKK, HLK⟩ := hrel
                  clear HLL
                  have k0 : 0 ≤ k := HKK.out.1
                  by_cases c2 : k < 64
                  · have d2 : decide (k < (R4.size : Int)) = true := decide_eq_true (by rw [Z4.out]; exact c2)
                    have q0 := eq_true k0
                    have q4 : (k < (R4.size : Int)) = True := eq_true (by rw [Z4.out]; exact c2)
                    have q2 : (k < (R2.size : Int)) = True := eq_true (by rw [Z2.out]; exact c2)
                    have hs4 := bt_at R4 k
                    have hs2 := bt_at R2 k
                    have hbr := bt_range R4 k
                    have HBR := hid (show 0 ≤ bt R4 k ∧ bt R4 k < 256 by omega)
                    have kb : k ≤ 64 := by omega
                    have C2 := hid c2
                    have HLL := hid HLK.out
                    by_cases cb : bt R4 k = bt R2 k
                    · have e1 : (bt R4 k != bt R2 k) = false := by simpa using cb
                      clear cb c2 hbr HLK
                      go_wp2_with fail
                      go_quiet (fail)
                      go_wp2_with fail
                      go_roundw
                      case rel => exact ⟨k + 1, by go_num, ⟨⟨by omega, by have := C2.out; omega⟩⟩, ⟨HLL.out.drawn _⟩⟩
                      case measure => simp [intOf]; have := C2.out; omega
                    · have e1 : (bt R4 k != bt R2 k) = true := by simpa using cb
                      have HW := hid (HBY.out k k0 c2 cb)
                      clear cb c2 hbr HLK
                      go_wp2_with fail
                      go_quiet ((go_at_call 15; exact Calls.quiet_of_same (HLL.out.wrote hco HOL.out k0 HBR.out HW.out _)))
                      go_wp2_with fail
                      go_roundw
                      case rel => exact ⟨k + 1, by go_num, ⟨⟨by omega, by have := C2.out; omega⟩⟩, ⟨HLL.out.drawn _⟩⟩
                      case measure => simp [intOf]; have := C2.out; omega
                  · have d2 : decide (k < (R4.size : Int)) = false := decide_eq_false (by rw [Z4.out]; omega)
                    have HLL := hid HLK.out
                    have b0 : wr.cell? ⟨w.heap.size, 0, none⟩ = some (.int .u64 keep) := (cell_of_row wr _ _ _ _ _ HLL.out.box).trans rfl
                    have b1 : wr.cell? ⟨w.heap.size, 1, none⟩ = some (.int .i64 torn) := (cell_of_row wr _ _ _ _ _ HLL.out.box).trans rfl
                    have nb : n ≤ 8 := by have := C1.out; omega
                    clear c2 HLK
                    by_cases ck : keep = 18446744073709551615
                    · have e1 : (keep == 18446744073709551615) = true := by rw [ck]; rfl
                      by_cases ct : torn < 0
                      · have e2 : decide (torn < 0) = true := decide_eq_true ct
                        have HEQ := hid (HAL.out ck ct)
                        clear ck ct
                        go_wp2_with fail
                        go_at_call 14
                        refine (HLL.out.dr.read (i := 3) rfl n).mono ?_
                        rintro e w13 ⟨rfl, rfl⟩
                        rw [HES.out, ← HRS.out, ← HEQ.out]
                        go_wp2_with fail
                        go_roundw
                        case rel => exact ⟨n + 1, by go_num, ⟨⟨by omega, by have := C1.out; omega⟩⟩, ⟨HLL.out⟩⟩
                        case measure => simp [intOf]; have := C1.out; omega
                      · have e2 : decide (torn < 0) = false := decide_eq_false ct
                        clear ck ct
                        go_wp2_with fail
                        go_roundw
                        case rel => exact ⟨n + 1, by go_num, ⟨⟨by omega, by have := C1.out; omega⟩⟩, ⟨HLL.out⟩⟩
                        case measure => simp [intOf]; have := C1.out; omega
                    · have e1 : (keep == 18446744073709551615) = false := by rw [beq_eq_false_iff_ne]; exact ck
                      clear ck
                      go_wp2_with fail
                      go_roundw
                      case rel => exact ⟨n + 1, by go_num, ⟨⟨by omega, by have := C1.out; omega⟩⟩, ⟨HLL.out⟩⟩
                      case measure => simp [intOf]; have := C1.out; omega
              · have d1 : decide (n < 8) = false := decide_eq_false c1
                have HLL := hid HLK.out
                clear HLK
                go_wp2_with (go_at_call 11; refine (head_calls wr).mono ?_; rintro e w6 ⟨rfl, hb6⟩; have H6 := hid hb6; clear hb6)
                go_ret
                exact ⟨rfl, HLL.out.dr.below.trans (H6.out.mono HLL.out.dr.below.size)⟩
  · have HD1 := hid hd1
    by_cases c2 : (l.length : Int) ≤ 20
    · have d1 : decide (20 < (l.length : Int)) = false := decide_eq_false (by omega)
      have d2 : decide (20 < (m.length : Int)) = true := decide_eq_true (by omega)
      clear c0 c2 hd1
      go_wp2_with (go_at_call 11; refine (head_calls w1).mono ?_; rintro e w6 ⟨rfl, hb6⟩; have H6 := hid hb6; clear hb6)
      go_ret
      exact ⟨rfl, HD1.out.below.trans (H6.out.mono HD1.out.below.size)⟩
    · have d1 : decide (20 < (l.length : Int)) = true := decide_eq_true (by omega)
      clear c0 c2 hd1
      go_wp2_with (go_at_call 11; refine (head_calls w1).mono ?_; rintro e w6 ⟨rfl, hb6⟩; have H6 := hid hb6; clear hb6)
      go_ret
      exact ⟨rfl, HD1.out.below.trans (H6.out.mono HD1.out.below.size)⟩
end Go.Proofs.Ytlafanbilodafaa
