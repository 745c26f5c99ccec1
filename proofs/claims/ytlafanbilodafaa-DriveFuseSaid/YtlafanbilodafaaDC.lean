/- Chapter 03: DriveFuse. -/
import Derived.Test.YtlafanbilodafaaDB
set_option linter.unusedVariables false
set_option linter.unusedSimpArgs false
namespace Go.Proofs.Ytlafanbilodafaa
open Go Go.RowKit Go.Proofs.YtlafanbilodafaaW.PrintWords Go.Proofs.YtlafanbilodafaaW.PrintLast Go.Proofs.YtlafanbilodafaaW.PrintMore
attribute [local go_sem] Oper.semAt_some max2_int min2_int max_two min_two max_three min_three max_four min_four
/-- Behind i writes and syncs. -/
structure FuseIs (s : DS) (k i : Nat) : Prop where
  fuse : s.fuse = some (k - i)
  opn : s.opn.length ≤ i
  now : s.now.length = 8
theorem FuseIs.sync {s : DS} {k i : Nat} (h : FuseIs s k i) : FuseIs (syncR s).1 k (i + 1) ∧ (syncR s).2 = if i < k then 0 else 30 := by
  unfold syncR
  by_cases hk : k - i = 0
  · rw [if_pos (by rw [h.fuse, hk]), if_neg (by omega)]
    exact ⟨⟨h.fuse.trans (congrArg some (by omega)), Nat.le_trans h.opn (by omega), h.now⟩, rfl⟩
  · rw [if_neg (by rw [h.fuse]; simpa using hk), if_pos (by omega)]
    refine ⟨⟨?_, by simp [syncS], h.now⟩, rfl⟩
    show decF s.fuse = _
    rw [h.fuse]
    exact congrArg some (by omega)
theorem FuseIs.write {s : DS} {k i : Nat} (h : FuseIs s k i) (n : Int) (hn : 0 ≤ n ∧ n < 8) (t : ByteArray) (ht : t.size ≤ 64) : FuseIs (writeR s n t).1 k (i + 1) ∧ (writeR s n t).2 = if i < k then 0 else 30 := by
  unfold writeR
  rw [if_pos (by unfold hasE; rw [if_pos (by rw [h.now]; exact ⟨hn.1, by omega⟩)]), if_pos ht]
  unfold wrR
  by_cases hk : k - i = 0
  · rw [if_pos (by rw [h.fuse, hk]), if_neg (by omega)]
    exact ⟨⟨h.fuse.trans (congrArg some (by omega)), Nat.le_trans h.opn (by omega), h.now⟩, rfl⟩
  · rw [if_neg (by rw [h.fuse]; simpa using hk), if_pos (by omega)]
    refine ⟨⟨?_, ?_, ?_⟩, rfl⟩
    · show decF s.fuse = _
      rw [h.fuse]
      exact congrArg some (by omega)
    · show (s.opn ++ [_]).length ≤ _
      have := h.opn
      simp; omega
    · show (s.now.set _ _).length = 8
      rw [List.length_set]; exact h.now
theorem crash_len (s : DS) (a b c : Int) : (crashS s a b c).now.length = s.sure.length ∧ (crashS s a b c).opn = [] ∧ (crashS s a b c).fuse = none := by
  unfold crashS
  exact ⟨sureAt_len .., rfl, rfl⟩
set_option maxRecDepth 100000 in
set_option maxHeartbeats 1000000 in
theorem DriveFuse_calls (w : World) (n : Int) (hn : 0 ≤ n ∧ n < 256) (A : Option Addr) (c : Nat) (l : List Bool) (hr : Kd.C Kd.bool w A l.length l) (hc : l.length ≤ c) (hl : l.length ≤ maxLen) :
    Calls Try.prog 3 #[.int .u8 n, .slice A l.length c] w fun e w' => e = .returned (.bool true) ∧ Below w.heap.size w w' := by
  have HR := hid hr
  unfold maxLen at hl
  have hk0 : 0 ≤ n % 40 := by omega
  have hk1 : n % 40 < 40 := by omega
  have hn0 := hn.1
  have hn1 := hn.2
  obtain ⟨k, hk⟩ : ∃ k : Nat, n % 40 = (k : Int) := ⟨(n % 40).toNat, by omega⟩
  have hk40 : k < 40 := by omega
  have HKN := hid hk
  clear hr hn hk0 hk1 hk
  go_enter Try.func3, Try.ntmps3
  go_wp2_with fail
  go_at_call 6
  refine ((Dr.start w).make 8 (by decide) (by decide)).mono ?_
  rintro e w1 ⟨v, rfl, D, rfl, hd1, -⟩
  replace hd1 : Dr w w1 [(D, newS 8)] [] := hd1
  unfold ptr
  go_wp2_with fail
  go_at_call 7
  rw [HKN.out]
  refine (hd1.fuse (i := 0) rfl (k : Int) (by omega)).mono ?_
  rintro e w2 ⟨rfl, hd2, -⟩
  have H2 := hid (show ∃ s, Dr w w2 [(D, s)] [] ∧ FuseIs s k 0 from ⟨_, hd2, by unfold fuseS; rw [if_pos (by omega), Int.toNat_natCast]; exact ⟨rfl, Nat.le_refl 0, rfl⟩⟩)
  clear hd1 hd2
  go_wp2_with fail
  go_loopw [8] (fun q wr => ∃ i : Int, q = .int .i64 i ∧ Aside0 (0 ≤ i ∧ i ≤ 60) ∧ Aside0 (∃ s, Dr w wr [(D, s)] [] ∧ FuseIs s k i.toNat)) (fun q _ => 60 - (intOf q).toNat)
  case atStart => exact ⟨0, rfl, ⟨⟨by decide, by decide⟩⟩, ⟨H2.out⟩⟩
  case round =>
    obtain ⟨i, rfl, HI, HS⟩ := hrel
    obtain ⟨s, hd, hf⟩ := HS.out
    have p0 : 0 ≤ i := HI.out.1
    have p60 : i ≤ 60 := HI.out.2
    clear H2 HS
    by_cases c1 : i < (l.length : Int) ∧ i < 60
    · obtain ⟨ad, rfl, hx⟩ := Kd.at_bool HR.out i p0 c1.1
      have hx2 : wr.cell? (ad.add i.toNat) = some (.bool (rdOf false l i)) := by
        have hlt := World.block_lt_of_cell? w _ hx
        exact (hd.below.cell hlt).trans hx
      have d1 : decide (i < (l.length : Int)) = true := decide_eq_true c1.1
      have d2 : decide (i < 60) = true := decide_eq_true c1.2
      obtain ⟨b, hb⟩ : ∃ b, b = rdOf false l i := ⟨_, rfl⟩
      rw [← hb] at hx2
      have q1 : (0 ≤ i) = True := eq_true p0
      have q2 : (i < (l.length : Int)) = True := eq_true c1.1
      have C1 := hid c1
      clear hx hb c1
      have hm : s.opn.length < 1000000 := by have := hf.opn; omega
      have HM := hid hm
      have HF := hid hf
      clear hm hf
      by_cases ck : i.toNat < k
      · have d3 : decide (i < (k : Int)) = true := decide_eq_true (by omega)
        cases b with
        | true =>
          have he : (syncR s).2 = 0 := by rw [HF.out.sync.2, if_pos ck]
          have HE := hid he
          clear he
          go_wp2_with (go_at_call 8; refine (hd.sync (i := 0) rfl).mono ?_; rintro e w3 ⟨rfl, hd3, -⟩; rw [HE.out]; replace hd3 : Dr w w3 [(D, (syncR s).1)] [] := hd3)
          go_roundw
          case rel => exact ⟨i + 1, by go_num, ⟨⟨by omega, by have := C1.out; omega⟩⟩, ⟨⟨_, hd3, by rw [show (i + 1).toNat = i.toNat + 1 by omega]; exact HF.out.sync.1⟩⟩⟩
          case measure => simp [intOf]; have := C1.out; omega
        | false =>
          have hw := HF.out.write (i % 8) ⟨by omega, by omega⟩ ⟨#[120]⟩ (by decide)
          have he : (writeR s (i % 8) ⟨#[120]⟩).2 = 0 := by rw [hw.2, if_pos ck]
          have HE := hid he
          have HW := hid hw.1
          clear he hw
          go_wp2_with (go_at_call 9; refine (hd.write (i := 0) rfl HM.out (i % 8) ⟨#[120]⟩).mono ?_; rintro e w3 ⟨rfl, hd3, -⟩; rw [HE.out]; replace hd3 : Dr w w3 [(D, (writeR s (i % 8) ⟨#[120]⟩).1)] [] := hd3)
          go_roundw
          case rel => exact ⟨i + 1, by go_num, ⟨⟨by omega, by have := C1.out; omega⟩⟩, ⟨⟨_, hd3, by rw [show (i + 1).toNat = i.toNat + 1 by omega]; exact HW.out⟩⟩⟩
          case measure => simp [intOf]; have := C1.out; omega
      · have d3 : decide (i < (k : Int)) = false := decide_eq_false (by omega)
        cases b with
        | true =>
          have he : (syncR s).2 = 30 := by rw [HF.out.sync.2, if_neg ck]
          have HE := hid he
          clear he
          go_wp2_with (go_at_call 8; refine (hd.sync (i := 0) rfl).mono ?_; rintro e w3 ⟨rfl, hd3, -⟩; rw [HE.out]; replace hd3 : Dr w w3 [(D, (syncR s).1)] [] := hd3)
          go_roundw
          case rel => exact ⟨i + 1, by go_num, ⟨⟨by omega, by have := C1.out; omega⟩⟩, ⟨⟨_, hd3, by rw [show (i + 1).toNat = i.toNat + 1 by omega]; exact HF.out.sync.1⟩⟩⟩
          case measure => simp [intOf]; have := C1.out; omega
        | false =>
          have hw := HF.out.write (i % 8) ⟨by omega, by omega⟩ ⟨#[120]⟩ (by decide)
          have he : (writeR s (i % 8) ⟨#[120]⟩).2 = 30 := by rw [hw.2, if_neg ck]
          have HE := hid he
          have HW := hid hw.1
          clear he hw
          go_wp2_with (go_at_call 9; refine (hd.write (i := 0) rfl HM.out (i % 8) ⟨#[120]⟩).mono ?_; rintro e w3 ⟨rfl, hd3, -⟩; rw [HE.out]; replace hd3 : Dr w w3 [(D, (writeR s (i % 8) ⟨#[120]⟩).1)] [] := hd3)
          go_roundw
          case rel => exact ⟨i + 1, by go_num, ⟨⟨by omega, by have := C1.out; omega⟩⟩, ⟨⟨_, hd3, by rw [show (i + 1).toNat = i.toNat + 1 by omega]; exact HW.out⟩⟩⟩
          case measure => simp [intOf]; have := C1.out; omega
    · have HM := hid (show s.opn.length < 1000000 by have := hf.opn; omega)
      have hcl := crash_len s 0 (-1) 0
      have hsl : s.sure.length = 8 := by
        obtain ⟨dv, -, hdv⟩ := hd.at (i := 0) rfl
        rw [hdv.len.1, hf.now]
      obtain ⟨S, hS⟩ : ∃ S, S = crashS s 0 (-1) 0 := ⟨_, rfl⟩
      rw [← hS, hsl] at hcl
      have HSS := hid hS
      have hw : writeR S 0 ⟨#[121]⟩ = (writeS { S with fuse := decF S.fuse } 0 (padS ⟨#[121]⟩), 0) := by
        unfold writeR
        rw [if_pos (by unfold hasE; rw [if_pos (by rw [hcl.1]; decide)]), if_pos (by decide)]
        unfold wrR
        rw [if_neg (by rw [hcl.2.2]; simp)]
        rfl
      have HW2 := hid (congrArg Prod.snd hw)
      have HSY := hid (show (syncR (writeR S 0 ⟨#[121]⟩).1).2 = 0 by
        rw [hw]
        unfold syncR
        rw [if_neg (by show decF S.fuse ≠ some 0; rw [hcl.2.2]; simp [decF])])
      have HOS := hid (show S.opn.length < 1000000 by rw [hcl.2.1]; decide)
      clear hcl hS hw hf hsl
      by_cases c2 : i < (l.length : Int)
      · have d1 : decide (i < (l.length : Int)) = true := decide_eq_true c2
        have d2 : decide (i < 60) = false := decide_eq_false (by omega)
        clear c1
        go_wp2_with fail
        go_at_call 10
        refine (hd.crash (i := 0) rfl HM.out 0 (-1) 0 (by decide)).mono ?_
        rintro e w3 ⟨rfl, hd3, -⟩
        rw [← HSS.out] at hd3
        replace hd3 : Dr w w3 [(D, S)] [] := hd3
        go_wp2_with fail
        go_at_call 9
        refine (hd3.write (i := 0) rfl HOS.out 0 ⟨#[121]⟩).mono ?_
        rintro e w4 ⟨rfl, hd4, -⟩
        rw [HW2.out]
        replace hd4 : Dr w w4 [(D, (writeR S 0 ⟨#[121]⟩).1)] [] := hd4
        go_wp2_with fail
        go_at_call 8
        refine (hd4.sync (i := 0) rfl).mono ?_
        rintro e w5 ⟨rfl, hd5, -⟩
        rw [HSY.out]
        go_wp2_with fail
        go_at_call 11
        refine (head_calls w5).mono ?_
        rintro e w6 ⟨rfl, hb6⟩
        go_wp2_with fail
        go_ret
        exact ⟨rfl, hd5.below.trans (hb6.mono hd5.below.size)⟩
      · have d1 : decide (i < (l.length : Int)) = false := decide_eq_false c2
        clear c1
        go_wp2_with fail
        go_at_call 10
        refine (hd.crash (i := 0) rfl HM.out 0 (-1) 0 (by decide)).mono ?_
        rintro e w3 ⟨rfl, hd3, -⟩
        rw [← HSS.out] at hd3
        replace hd3 : Dr w w3 [(D, S)] [] := hd3
        go_wp2_with fail
        go_at_call 9
        refine (hd3.write (i := 0) rfl HOS.out 0 ⟨#[121]⟩).mono ?_
        rintro e w4 ⟨rfl, hd4, -⟩
        rw [HW2.out]
        replace hd4 : Dr w w4 [(D, (writeR S 0 ⟨#[121]⟩).1)] [] := hd4
        go_wp2_with fail
        go_at_call 8
        refine (hd4.sync (i := 0) rfl).mono ?_
        rintro e w5 ⟨rfl, hd5, -⟩
        rw [HSY.out]
        go_wp2_with fail
        go_at_call 11
        refine (head_calls w5).mono ?_
        rintro e w6 ⟨rfl, hb6⟩
        go_wp2_with fail
        go_ret
        exact ⟨rfl, hd5.below.trans (hb6.mono hd5.below.size)⟩
end Go.Proofs.Ytlafanbilodafaa
