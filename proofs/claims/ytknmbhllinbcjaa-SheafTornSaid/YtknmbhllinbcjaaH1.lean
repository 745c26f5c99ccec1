/- Package tally: the contract of TakeNum, by walking it. No condition. -/
import Derived.Test.YtknmbhllinbcjaaB0
import Derived.Test.YtknmbhllinbcjaaM0
import Derived.Test.YtknmbhllinbcjaaH0
import Derived.Test.YtknmbhllinbcjaaT0
import Derived.WalkMore
set_option linter.unusedVariables false
set_option linter.unusedSimpArgs false
namespace Go.Proofs.Ytknmbhllinbcjaa
open Go Go.RowKit Go.Proofs.YtknmbhllinbcjaaW.PrintWords
def tally_TakeNum.f (b : ByteArray) : Option (Int × ByteArray × Bool) :=
  if (b.size : Int) < 9223372036854775807 then
    match takeN b.data.toList with
    | some (n, r) => some ((n : Int), B r, true)
    | none => some (0, ⟨#[]⟩, false)
  else none
theorem tally_TakeNum_size {b : ByteArray} {r} (h : tally_TakeNum.f b = some r) : (b.size : Int) < 9223372036854775807 := by
  unfold tally_TakeNum.f at h
  by_cases hs : (b.size : Int) < 9223372036854775807
  · exact hs
  · rw [if_neg hs] at h; cases h
structure TnI (b : ByteArray) (i n : Int) (a : Nat) : Prop where
  tk : tk 0 b.data.toList = tk a (b.data.toList.drop i.toNat)
  zero : i = 0 ↔ a = 0
  le : a ≤ 18446744073709551616
  n : n = ((a - 1 : Nat) : Int)
  i0 : 0 ≤ i
  i1 : i ≤ (b.size : Int)
theorem TnI_at (b : ByteArray) (i : Int) (h0 : 0 ≤ i) (h1 : i < (b.size : Int)) : ∃ (c : UInt8), b.data.toList.drop i.toNat = c :: b.data.toList.drop (i.toNat + 1) ∧ bt b i = (c.toNat : Int) := by
  have hl : i.toNat < b.data.toList.length := by rw [Array.length_toList]; exact (show i.toNat < b.size by omega)
  refine ⟨b.data.toList[i.toNat], List.drop_eq_getElem_cons hl, ?_⟩
  rw [← bt_at b i (by omega)]
  simp [ByteArray.getElem_eq_getElem_data]
theorem TnI_a0 {b : ByteArray} {i n : Int} {a : Nat} (h : TnI b i n a) (h0 : i = 0) : a = 0 := h.zero.1 h0
theorem TnI_or0 {b : ByteArray} {i n x n2 : Int} {a : Nat} {c : UInt8} (h : TnI b i n a) (h0 : i = 0) (hx : x = (c.toNat : Int)) (e : bits BinOp.or IntKind.u64 n (x.tmod 128) = n2) :
    n2 = ((128 * a + c.toNat % 128 : Nat) : Int) := by
  have ha := TnI_a0 h h0
  have hn := h.n
  have hc := c.toNat_lt
  subst ha
  have hx2 : x.tmod 128 = ((c.toNat % 128 : Nat) : Int) := by rw [hx, Int.tmod_eq_emod_of_nonneg (by omega)]; omega
  rw [hx2, show n = ((0 : Nat) : Int) by rw [hn], u64_or_nat _ _ (by decide) (by omega), Nat.zero_or] at e
  rw [← e]
  omega
theorem TnI_next {b : ByteArray} {i n n2 : Int} {a : Nat} {c : UInt8} (h : TnI b i n a) (hi : i < (b.size : Int)) (hl : b.data.toList.drop i.toNat = c :: b.data.toList.drop (i.toNat + 1)) (h8 : ¬ c.toNat < 128)
    (hn2 : n2 = ((128 * a + c.toNat % 128 : Nat) : Int)) (ha : a < edge) : TnI b (i + 1) n2 (128 * a + c.toNat % 128 + 1) := by
  have h0 := h.i0
  unfold edge at ha
  refine ⟨?_, by omega, by omega, by rw [hn2]; congr 1, by omega, by omega⟩
  rw [h.tk, hl, Go.Proofs.Ytknmbhllinbcjaa.tk, if_neg (by unfold edge; omega), if_neg h8, show (i + 1).toNat = i.toNat + 1 by omega]
theorem TnI_pos {b : ByteArray} {i n : Int} {a : Nat} (h : TnI b i n a) (h0 : ¬ i = 0) : 0 < a := by
  have := h.zero
  omega
theorem TnI_edge {b : ByteArray} {i n : Int} {a : Nat} (h : TnI b i n a) (h0 : ¬ i = 0) (he : a < edge) : ¬ 144115188075855871 ≤ n := by
  have := TnI_pos h h0
  have := h.n
  unfold edge at he
  omega
theorem TnI_edge' {b : ByteArray} {i n : Int} {a : Nat} (h : TnI b i n a) (h0 : ¬ i = 0) (he : ¬ a < edge) : 144115188075855871 ≤ n := by
  have := TnI_pos h h0
  have := h.n
  unfold edge at he
  omega
theorem TnI_wrap {b : ByteArray} {i n : Int} {a : Nat} (h : TnI b i n a) (h0 : ¬ i = 0) (he : a < edge) : IntKind.u64.wrap (n + 1) = n + 1 := by
  have := TnI_pos h h0
  have := h.n
  unfold edge at he
  exact u64w _ (by omega) (by omega)
theorem TnI_or1 {b : ByteArray} {i n x n2 : Int} {a : Nat} {c : UInt8} (h : TnI b i n a) (h0 : ¬ i = 0) (he : a < edge) (hx : x = (c.toNat : Int)) (e : bits BinOp.or IntKind.u64 (IntKind.u64.wrap ((n + 1) * 128)) (x.tmod 128) = n2) :
    n2 = ((128 * a + c.toNat % 128 : Nat) : Int) := by
  have ha := TnI_pos h h0
  have hn := h.n
  have hc := c.toNat_lt
  unfold edge at he
  have hx2 : x.tmod 128 = ((c.toNat % 128 : Nat) : Int) := by rw [hx, Int.tmod_eq_emod_of_nonneg (by omega)]; omega
  have hn2 : (n + 1) * 128 = ((a * 128 : Nat) : Int) := by omega
  rw [hx2, hn2, u64w _ (by omega) (by omega), u64_or_nat _ _ (by omega) (by omega), nat_join 7 _ _ (by omega) (by omega)] at e
  rw [← e]
  omega
theorem TnI_end {b : ByteArray} {i n n2 : Int} {a : Nat} {c : UInt8} {r1 : Int} {r2 : ByteArray} {r3 : Bool} (h : TnI b i n a) (hi : i < (b.size : Int)) (hl : b.data.toList.drop i.toNat = c :: b.data.toList.drop (i.toNat + 1)) (h8 : c.toNat < 128)
    (hn2 : n2 = ((128 * a + c.toNat % 128 : Nat) : Int)) (ha : a < edge) (hf : tally_TakeNum.f b = some (r1, r2, r3)) : n2 = r1 ∧ b.extract (i + 1).toNat b.size = r2 ∧ true = r3 := by
  have h0 := h.i0
  have hs := tally_TakeNum_size hf
  unfold tally_TakeNum.f takeN at hf
  rw [if_pos hs, h.tk, hl, Go.Proofs.Ytknmbhllinbcjaa.tk, if_neg (by omega), if_pos h8] at hf
  obtain ⟨rfl, hf2⟩ := Prod.mk.inj (Option.some.inj hf)
  obtain ⟨rfl, rfl⟩ := Prod.mk.inj hf2
  refine ⟨by rw [hn2, Nat.mod_eq_of_lt h8], ?_, rfl⟩
  obtain ⟨l, hb, hd⟩ := B_ex b
  rw [hd, hb, B_extract, B_size, List.take_of_length_le (by rw [List.length_drop]; exact Nat.le_refl _), show (i + 1).toNat = i.toNat + 1 by omega]
theorem TnI_bad {b : ByteArray} {i n : Int} {a : Nat} {r1 : Int} {r2 : ByteArray} {r3 : Bool} (h : TnI b i n a) (hn : Go.Proofs.Ytknmbhllinbcjaa.tk a (b.data.toList.drop i.toNat) = none) (hf : tally_TakeNum.f b = some (r1, r2, r3)) :
    0 = r1 ∧ ⟨#[]⟩ = r2 ∧ false = r3 := by
  have hs := tally_TakeNum_size hf
  unfold tally_TakeNum.f takeN at hf
  rw [if_pos hs, h.tk, hn] at hf
  obtain ⟨rfl, hf2⟩ := Prod.mk.inj (Option.some.inj hf)
  obtain ⟨rfl, rfl⟩ := Prod.mk.inj hf2
  exact ⟨rfl, rfl, rfl⟩
set_option maxRecDepth 100000 in
theorem tally_TakeNum.calls (a0 : ByteArray) (r1 : Int) (r2 : ByteArray) (r3 : Bool) (w : World) (h : tally_TakeNum.f a0 = some (r1, r2, r3)) :
    Calls Try.prog 29 #[.string a0] w fun e w' => e = .returned (.tuple #[.int .u64 r1, .string r2, .bool r3]) ∧ Drawn0 w w' := by
  have H := Aside0.mk h
  clear h
  go_enter Try.func29, Try.ntmps29
  go_wp2
  go_step3
  go_wp2
  go_step3
  go_wp2
  go_loopg [2, 5, 6, 9] a0.size (fun kq v2 v5 v6 v9 w' => ∃ (i n : Int) (a : Nat), v2 = .int .u64 n ∧ v9 = .int .i64 i ∧ Aside0 (TnI a0 i n a) ∧ Aside0 ((kq : Int) + i = (a0.size : Int)) ∧ Drawn0 w w')
  case atStart => exact ⟨0, 0, 0, rfl, rfl, ⟨⟨rfl, by simp, by decide, rfl, by decide, by omega⟩⟩, ⟨by omega⟩, Drawn0.refl _⟩
  case round =>
    obtain ⟨i, n, a, rfl, rfl, HI, HK, ⟨m1, rfl⟩⟩ := hrel
    by_cases hi : i < (a0.size : Int)
    · have p4 : 0 ≤ i := HI.out.i0
      have q4 : i < (a0.size : Int) := hi
      have c0 : decide (i < (a0.size : Int)) = true := decide_eq_true q4
      obtain ⟨c, hl, hx⟩ := TnI_at a0 i p4 hi
      have hx4 := bt_at a0 i
      obtain ⟨x, hxx⟩ : ∃ x, x = bt a0 i := ⟨_, rfl⟩
      rw [← hxx] at hx hx4
      have HX := hid hx
      have hw : IntKind.u64.wrap x = x := by have := c.toNat_lt; rw [hx, u64w _ (by omega) (by omega)]
      replace p4 := eq_true p4
      replace q4 := eq_true q4
      have HC := hid hl
      have HJ := hid hi
      clear hl hi hx hxx
      have hsz := tally_TakeNum_size H.out
      have hs : wrap64 (i + 1) = i + 1 := by have := HJ.out; have := HI.out.i0; exact wrap64_in' _ (by omega) (by omega)
      clear hsz
      have hs1 : 0 ≤ i + 1 := by have := HI.out.i0; omega
      have hs2 : i + 1 ≤ (a0.size : Int) := by have := HJ.out; omega
      by_cases hj0 : i = 0
      · have c1 : decide (0 < i) = false := decide_eq_false (by omega)
        have HJ0 := hid hj0
        clear hj0
        obtain ⟨n2, e2⟩ : ∃ n2, bits BinOp.or IntKind.u64 n (x.tmod 128) = n2 := ⟨_, rfl⟩
        have HN2 := hid (TnI_or0 HI.out HJ0.out HX.out e2)
        by_cases h8 : c.toNat < 128
        · have c2 : decide (x < 128) = true := decide_eq_true (by have := HX.out; omega)
          have H8 := hid h8
          clear h8
          go_wp2
          go_quiet (fail)
          go_wp2
          try rw [Exit.noGoto_ret]
          obtain ⟨rfl, rfl, rfl⟩ := TnI_end HI.out HJ.out HC.out H8.out HN2.out (by rw [TnI_a0 HI.out HJ0.out]; decide) H.out
          refine bodyPost_ret (v := .tuple #[.int .u64 n2, .string (a0.extract (i + 1).toNat a0.size), .bool true]) (by simp [results, Try.results29]) rfl ⟨rfl, by repeat (first | exact Drawn0.refl _ | apply Drawn0.step)⟩
        · have c2 : decide (x < 128) = false := decide_eq_false (by have := HX.out; omega)
          have H8 := hid h8
          clear h8
          go_wp2
          go_roundg (gk - 1)
          case measure => have := HJ.out; have := HK.out; omega
          case rel => exact ⟨i + 1, n2, 128 * a + c.toNat % 128 + 1, rfl, by rw [hs], ⟨TnI_next HI.out HJ.out HC.out H8.out HN2.out (by rw [TnI_a0 HI.out HJ0.out]; decide)⟩, ⟨by have := HJ.out; have := HK.out; omega⟩, by repeat (first | exact Drawn0.refl _ | apply Drawn0.step)⟩
      · have c1 : decide (0 < i) = true := decide_eq_true (by have := HI.out.i0; omega)
        have HJ0 := hid hj0
        clear hj0
        by_cases he : a < edge
        · have c3 : decide (144115188075855871 ≤ n) = false := decide_eq_false (TnI_edge HI.out HJ0.out he)
          have HE := hid he
          clear he
          have e1 : IntKind.u64.wrap (n + 1) = n + 1 := TnI_wrap HI.out HJ0.out HE.out
          obtain ⟨n2, e2⟩ : ∃ n2, bits BinOp.or IntKind.u64 (IntKind.u64.wrap ((n + 1) * 128)) (x.tmod 128) = n2 := ⟨_, rfl⟩
          have HN2 := hid (TnI_or1 HI.out HJ0.out HE.out HX.out e2)
          by_cases h8 : c.toNat < 128
          · have c2 : decide (x < 128) = true := decide_eq_true (by have := HX.out; omega)
            have H8 := hid h8
            clear h8
            go_wp2
            go_quiet (fail)
            go_wp2
            try rw [Exit.noGoto_ret]
            obtain ⟨rfl, rfl, rfl⟩ := TnI_end HI.out HJ.out HC.out H8.out HN2.out HE.out H.out
            refine bodyPost_ret (v := .tuple #[.int .u64 n2, .string (a0.extract (i + 1).toNat a0.size), .bool true]) (by simp [results, Try.results29]) rfl ⟨rfl, by repeat (first | exact Drawn0.refl _ | apply Drawn0.step)⟩
          · have c2 : decide (x < 128) = false := decide_eq_false (by have := HX.out; omega)
            have H8 := hid h8
            clear h8
            go_wp2
            go_roundg (gk - 1)
            case measure => have := HJ.out; have := HK.out; omega
            case rel => exact ⟨i + 1, n2, 128 * a + c.toNat % 128 + 1, rfl, by rw [hs], ⟨TnI_next HI.out HJ.out HC.out H8.out HN2.out HE.out⟩, ⟨by have := HJ.out; have := HK.out; omega⟩, by repeat (first | exact Drawn0.refl _ | apply Drawn0.step)⟩
        · have c3 : decide (144115188075855871 ≤ n) = true := decide_eq_true (TnI_edge' HI.out HJ0.out he)
          obtain ⟨rfl, rfl, rfl⟩ := TnI_bad HI.out (by rw [tk_edge _ _ (Nat.le_of_not_lt he)]) H.out
          clear he
          go_wp2
          try rw [Exit.noGoto_ret]
          refine bodyPost_ret (v := .tuple #[.int .u64 0, .string ⟨#[]⟩, .bool false]) (by simp [results, Try.results29]) rfl ⟨rfl, by repeat (first | exact Drawn0.refl _ | apply Drawn0.step)⟩
    · have c0 : decide (i < (a0.size : Int)) = false := decide_eq_false hi
      obtain ⟨rfl, rfl, rfl⟩ := TnI_bad HI.out (by rw [List.drop_eq_nil_of_le (by rw [Array.length_toList]; exact (show a0.size ≤ i.toNat by omega))]; rfl) H.out
      clear hi
      go_wp2
      try rw [Exit.noGoto_ret]
      refine bodyPost_ret (v := .tuple #[.int .u64 0, .string ⟨#[]⟩, .bool false]) (by simp [results, Try.results29]) rfl ⟨rfl, by repeat (first | exact Drawn0.refl _ | apply Drawn0.step)⟩
end Go.Proofs.Ytknmbhllinbcjaa
