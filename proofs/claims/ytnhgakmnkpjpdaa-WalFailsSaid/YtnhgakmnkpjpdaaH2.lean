import Derived.Test.YtnhgakmnkpjpdaaH0
import Derived.WalkMore
import Derived.Lib.ConvBytes
import Derived.Laws.IdiomCopy
/- Package tally: the contract of TakeNum, by walking it. No condition. -/
set_option linter.unusedVariables false
set_option linter.unusedSimpArgs false
namespace Go.Proofs.Ytnhgakmnkpjpdaa
open Go Go.RowKit Go.Proofs.YtnhgakmnkpjpdaaW.PrintWords
def tally_TakeNum.f (b : ByteArray) : Option (Int × ByteArray × Bool) :=
  if (b.size : Int) < 9223372036854775807 then
    match takeN b.data.toList with
    | some (n, r) => some ((n : Int), B r, true)
    | none => some (0, ⟨#[]⟩, false)
  else none
theorem tally_TakeNum_size {b : ByteArray} {r} (h : tally_TakeNum.f b = some r) : (b.size : Int) < 9223372036854775807 := by
  unfold tally_TakeNum.f at h
  by_cases hs : (b.size : Int) < 9223372036854775807
  · exact hs
  · rw [if_neg hs] at h; cases h
structure TnI (b : ByteArray) (i n : Int) (a : Nat) : Prop where
  tk : tk 0 b.data.toList = tk a (b.data.toList.drop i.toNat)
  zero : i = 0 ↔ a = 0
  le : a ≤ 18446744073709551616
  n : n = ((a - 1 : Nat) : Int)
  i0 : 0 ≤ i
  i1 : i ≤ (b.size : Int)
theorem TnI_at (b : ByteArray) (i : Int) (h0 : 0 ≤ i) (h1 : i < (b.size : Int)) : ∃ (c : UInt8), b.data.toList.drop i.toNat = c :: b.data.toList.drop (i.toNat + 1) ∧ bt b i = (c.toNat : Int) := by
  have hl : i.toNat < b.data.toList.length := by rw [Array.length_toList]; exact (show i.toNat < b.size by omega)
  refine ⟨b.data.toList[i.toNat], List.drop_eq_getElem_cons hl, ?_⟩
  rw [← bt_at b i (by omega)]
  simp [ByteArray.getElem_eq_getElem_data]
theorem TnI_a0 {b : ByteArray} {i n : Int} {a : Nat} (h : TnI b i n a) (h0 : i = 0) : a = 0 := h.zero.1 h0
theorem TnI_or0 {b : ByteArray} {i n x n2 : Int} {a : Nat} {c : UInt8} (h : TnI b i n a) (h0 : i = 0) (hx : x = (c.toNat : Int)) (e : bits BinOp.or IntKind.u64 n (x.tmod 128) = n2) :
    n2 = ((128 * a + c.toNat % 128 : Nat) : Int) := by
  have ha := TnI_a0 h h0
  have hn := h.n
  have hc := c.toNat_lt
  subst ha
  have hx2 : x.tmod 128 = ((c.toNat % 128 : Nat) : Int) := by rw [hx, Int.tmod_eq_emod_of_nonneg (by omega)]; omega
  rw [hx2, show n = ((0 : Nat) : Int) by rw [hn], u64_or_nat _ _ (by decide) (by omega), Nat.zero_or] at e
  rw [← e]
  omega
theorem TnI_next {b : ByteArray} {i n n2 : Int} {a : Nat} {c : UInt8} (h : TnI b i n a) (hi : i < (b.size : Int)) (hl : b.data.toList.drop i.toNat = c :: b.data.toList.drop (i.toNat + 1)) (h8 : ¬ c.toNat < 128)
    (hn2 : n2 = ((128 * a + c.toNat % 128 : Nat) : Int)) (ha : a < edge) : TnI b (i + 1) n2 (128 * a + c.toNat % 128 + 1) := by
  have h0 := h.i0
  unfold edge at ha
  refine ⟨?_, by omega, by omega, by rw [hn2]; congr 1, by omega, by omega⟩
  rw [h.tk, hl, Go.Proofs.Ytnhgakmnkpjpdaa.tk, if_neg (by unfold edge; omega), if_neg h8, show (i + 1).toNat = i.toNat + 1 by omega]
theorem TnI_pos {b : ByteArray} {i n : Int} {a : Nat} (h : TnI b i n a) (h0 : ¬ i = 0) : 0 < a := by
  have := h.zero
  omega
theorem TnI_edge {b : ByteArray} {i n : Int} {a : Nat} (h : TnI b i n a) (h0 : ¬ i = 0) (he : a < edge) : ¬ 144115188075855871 ≤ n := by
  have := TnI_pos h h0
  have := h.n
  unfold edge at he
  omega
theorem TnI_edge' {b : ByteArray} {i n : Int} {a : Nat} (h : TnI b i n a) (h0 : ¬ i = 0) (he : ¬ a < edge) : 144115188075855871 ≤ n := by
  have := TnI_pos h h0
  have := h.n
  unfold edge at he
  omega
theorem TnI_wrap {b : ByteArray} {i n : Int} {a : Nat} (h : TnI b i n a) (h0 : ¬ i = 0) (he : a < edge) : IntKind.u64.wrap (n + 1) = n + 1 := by
  have := TnI_pos h h0
  have := h.n
  unfold edge at he
  exact u64w _ (by omega) (by omega)
theorem TnI_or1 {b : ByteArray} {i n x n2 : Int} {a : Nat} {c : UInt8} (h : TnI b i n a) (h0 : ¬ i = 0) (he : a < edge) (hx : x = (c.toNat : Int)) (e : bits BinOp.or IntKind.u64 (IntKind.u64.wrap ((n + 1) * 128)) (x.tmod 128) = n2) :
    n2 = ((128 * a + c.toNat % 128 : Nat) : Int) := by
  have ha := TnI_pos h h0
  have hn := h.n
  have hc := c.toNat_lt
  unfold edge at he
  have hx2 : x.tmod 128 = ((c.toNat % 128 : Nat) : Int) := by rw [hx, Int.tmod_eq_emod_of_nonneg (by omega)]; omega
  have hn2 : (n + 1) * 128 = ((a * 128 : Nat) : Int) := by omega
  rw [hx2, hn2, u64w _ (by omega) (by omega), u64_or_nat _ _ (by omega) (by omega), nat_join 7 _ _ (by omega) (by omega)] at e
  rw [← e]
  omega
theorem TnI_end {b : ByteArray} {i n n2 : Int} {a : Nat} {c : UInt8} {r1 : Int} {r2 : ByteArray} {r3 : Bool} (h : TnI b i n a) (hi : i < (b.size : Int)) (hl : b.data.toList.drop i.toNat = c :: b.data.toList.drop (i.toNat + 1)) (h8 : c.toNat < 128)
    (hn2 : n2 = ((128 * a + c.toNat % 128 : Nat) : Int)) (ha : a < edge) (hf : tally_TakeNum.f b = some (r1, r2, r3)) : n2 = r1 ∧ b.extract (i + 1).toNat b.size = r2 ∧ true = r3 := by
  have h0 := h.i0
  have hs := tally_TakeNum_size hf
  unfold tally_TakeNum.f takeN at hf
  rw [if_pos hs, h.tk, hl, Go.Proofs.Ytnhgakmnkpjpdaa.tk, if_neg (by omega), if_pos h8] at hf
  obtain ⟨rfl, hf2⟩ := Prod.mk.inj (Option.some.inj hf)
  obtain ⟨rfl, rfl⟩ := Prod.mk.inj hf2
  refine ⟨by rw [hn2, Nat.mod_eq_of_lt h8], ?_, rfl⟩
  obtain ⟨l, hb, hd⟩ := B_ex b
  rw [hd, hb, B_extract, B_size, List.take_of_length_le (by rw [List.length_drop]; exact Nat.le_refl _), show (i + 1).toNat = i.toNat + 1 by omega]
theorem TnI_bad {b : ByteArray} {i n : Int} {a : Nat} {r1 : Int} {r2 : ByteArray} {r3 : Bool} (h : TnI b i n a) (hn : Go.Proofs.Ytnhgakmnkpjpdaa.tk a (b.data.toList.drop i.toNat) = none) (hf : tally_TakeNum.f b = some (r1, r2, r3)) :
    0 = r1 ∧ ⟨#[]⟩ = r2 ∧ false = r3 := by
  have hs := tally_TakeNum_size hf
  unfold tally_TakeNum.f takeN at hf
  rw [if_pos hs, h.tk, hn] at hf
  obtain ⟨rfl, hf2⟩ := Prod.mk.inj (Option.some.inj hf)
  obtain ⟨rfl, rfl⟩ := Prod.mk.inj hf2
  exact ⟨rfl, rfl, rfl⟩
set_option maxRecDepth 100000 in
theorem tally_TakeNum.calls (a0 : ByteArray) (r1 : Int) (r2 : ByteArray) (r3 : Bool) (w : World) (h : tally_TakeNum.f a0 = some (r1, r2, r3)) :
    Calls Try.prog 57 #[.string a0] w fun e w' => e = .returned (.tuple #[.int .u64 r1, .string r2, .bool r3]) ∧ Drawn0 w w' := by
  have H := Aside0.mk h
  clear h
  go_enter Try.func57, Try.ntmps57
  go_wp2
  go_step3
  go_wp2
  go_step3
  go_wp2
  go_loopg [2, 5, 6, 9] a0.size (fun kq v2 v5 v6 v9 w' => ∃ (i n : Int) (a : Nat), v2 = .int .u64 n ∧ v9 = .int .i64 i ∧ Aside0 (TnI a0 i n a) ∧ Aside0 ((kq : Int) + i = (a0.size : Int)) ∧ Drawn0 w w')
  case atStart => exact ⟨0, 0, 0, rfl, rfl, ⟨⟨rfl, by simp, by decide, rfl, by decide, by omega⟩⟩, ⟨by omega⟩, Drawn0.refl _⟩
  case round =>
    obtain ⟨i, n, a, rfl, rfl, HI, HK, ⟨m1, rfl⟩⟩ := hrel
    by_cases hi : i < (a0.size : Int)
    · have p4 : 0 ≤ i := HI.out.i0
      have q4 : i < (a0.size : Int) := hi
      have c0 : decide (i < (a0.size : Int)) = true := decide_eq_true q4
      obtain ⟨c, hl, hx⟩ := TnI_at a0 i p4 hi
      have hx4 := bt_at a0 i
      obtain ⟨x, hxx⟩ : ∃ x, x = bt a0 i := ⟨_, rfl⟩
      rw [← hxx] at hx hx4
      have HX := hid hx
      have hw : IntKind.u64.wrap x = x := by have := c.toNat_lt; rw [hx, u64w _ (by omega) (by omega)]
      replace p4 := eq_true p4
      replace q4 := eq_true q4
      have HC := hid hl
      have HJ := hid hi
      clear hl hi hx hxx
      have hsz := tally_TakeNum_size H.out
      have hs : wrap64 (i + 1) = i + 1 := by have := HJ.out; have := HI.out.i0; exact wrap64_in' _ (by omega) (by omega)
      clear hsz
      have hs1 : 0 ≤ i + 1 := by have := HI.out.i0; omega
      have hs2 : i + 1 ≤ (a0.size : Int) := by have := HJ.out; omega
      by_cases hj0 : i = 0
      · have c1 : decide (0 < i) = false := decide_eq_false (by omega)
        have HJ0 := hid hj0
        clear hj0
        obtain ⟨n2, e2⟩ : ∃ n2, bits BinOp.or IntKind.u64 n (x.tmod 128) = n2 := ⟨_, rfl⟩
        have HN2 := hid (TnI_or0 HI.out HJ0.out HX.out e2)
        by_cases h8 : c.toNat < 128
        · have c2 : decide (x < 128) = true := decide_eq_true (by have := HX.out; omega)
          have H8 := hid h8
          clear h8
          go_wp2
          go_quiet (fail)
          go_wp2
          try rw [Exit.noGoto_ret]
          obtain ⟨rfl, rfl, rfl⟩ := TnI_end HI.out HJ.out HC.out H8.out HN2.out (by rw [TnI_a0 HI.out HJ0.out]; decide) H.out
          refine bodyPost_ret (v := .tuple #[.int .u64 n2, .string (a0.extract (i + 1).toNat a0.size), .bool true]) (by simp [results, Try.results57]) rfl ⟨rfl, by repeat (first | exact Drawn0.refl _ | apply Drawn0.step)⟩
        · have c2 : decide (x < 128) = false := decide_eq_false (by have := HX.out; omega)
          have H8 := hid h8
          clear h8
          go_wp2
          go_roundg (gk - 1)
          case measure => have := HJ.out; have := HK.out; omega
          case rel => exact ⟨i + 1, n2, 128 * a + c.toNat % 128 + 1, rfl, by rw [hs], ⟨TnI_next HI.out HJ.out HC.out H8.out HN2.out (by rw [TnI_a0 HI.out HJ0.out]; decide)⟩, ⟨by have := HJ.out; have := HK.out; omega⟩, by repeat (first | exact Drawn0.refl _ | apply Drawn0.step)⟩
      · have c1 : decide (0 < i) = true := decide_eq_true (by have := HI.out.i0; omega)
        have HJ0 := hid hj0
        clear hj0
        by_cases he : a < edge
        · have c3 : decide (144115188075855871 ≤ n) = false := decide_eq_false (TnI_edge HI.out HJ0.out he)
          have HE := hid he
          clear he
          have e1 : IntKind.u64.wrap (n + 1) = n + 1 := TnI_wrap HI.out HJ0.out HE.out
          obtain ⟨n2, e2⟩ : ∃ n2, bits BinOp.or IntKind.u64 (IntKind.u64.wrap ((n + 1) * 128)) (x.tmod 128) = n2 := ⟨_, rfl⟩
          have HN2 := hid (TnI_or1 HI.out HJ0.out HE.out HX.out e2)
          by_cases h8 : c.toNat < 128
          · have c2 : decide (x < 128) = true := decide_eq_true (by have := HX.out; omega)
            have H8 := hid h8
            clear h8
            go_wp2
            go_quiet (fail)
            go_wp2
            try rw [Exit.noGoto_ret]
            obtain ⟨rfl, rfl, rfl⟩ := TnI_end HI.out HJ.out HC.out H8.out HN2.out HE.out H.out
            refine bodyPost_ret (v := .tuple #[.int .u64 n2, .string (a0.extract (i + 1).toNat a0.size), .bool true]) (by simp [results, Try.results57]) rfl ⟨rfl, by repeat (first | exact Drawn0.refl _ | apply Drawn0.step)⟩
          · have c2 : decide (x < 128) = false := decide_eq_false (by have := HX.out; omega)
            have H8 := hid h8
            clear h8
            go_wp2
            go_roundg (gk - 1)
            case measure => have := HJ.out; have := HK.out; omega
            case rel => exact ⟨i + 1, n2, 128 * a + c.toNat % 128 + 1, rfl, by rw [hs], ⟨TnI_next HI.out HJ.out HC.out H8.out HN2.out HE.out⟩, ⟨by have := HJ.out; have := HK.out; omega⟩, by repeat (first | exact Drawn0.refl _ | apply Drawn0.step)⟩
        · have c3 : decide (144115188075855871 ≤ n) = true := decide_eq_true (TnI_edge' HI.out HJ0.out he)
          obtain ⟨rfl, rfl, rfl⟩ := TnI_bad HI.out (by rw [tk_edge _ _ (Nat.le_of_not_lt he)]) H.out
          clear he
          go_wp2
          try rw [Exit.noGoto_ret]
          refine bodyPost_ret (v := .tuple #[.int .u64 0, .string ⟨#[]⟩, .bool false]) (by simp [results, Try.results57]) rfl ⟨rfl, by repeat (first | exact Drawn0.refl _ | apply Drawn0.step)⟩
    · have c0 : decide (i < (a0.size : Int)) = false := decide_eq_false hi
      obtain ⟨rfl, rfl, rfl⟩ := TnI_bad HI.out (by rw [List.drop_eq_nil_of_le (by rw [Array.length_toList]; exact (show a0.size ≤ i.toNat by omega))]; rfl) H.out
      clear hi
      go_wp2
      try rw [Exit.noGoto_ret]
      refine bodyPost_ret (v := .tuple #[.int .u64 0, .string ⟨#[]⟩, .bool false]) (by simp [results, Try.results57]) rfl ⟨rfl, by repeat (first | exact Drawn0.refl _ | apply Drawn0.step)⟩
end Go.Proofs.Ytnhgakmnkpjpdaa

/- General laws, over any program: bytes of one's own that were made of a string: read, written, appended to, made a string again. No condition beyond each law's own. -/
set_option linter.unusedVariables false
set_option linter.unusedSimpArgs false
namespace Go.Proofs.Ytnhgakmnkpjpdaa
open Go Go.RowKit
/-- Block g holds c bytes, the first of them l; what is shared with no string. -/
structure Row8 (w : World) (e : TypeId) (g c : Nat) (l : List UInt8) : Prop where
  ex : ∃ (cur : Array Value) (fz : Nat × Nat), w.heap[g]? = some (.cells cur e fz) ∧ cur.size = c ∧ (fz.2 = 0 ∨ c ≤ fz.1) ∧ cur.toList.take l.length = l.map cb
  le : l.length ≤ c
  mx : c ≤ maxLen
section
variable {w : World} {e : TypeId} {g c : Nat} {l : List UInt8}
theorem Row8.cell (h : Row8 w e g c l) (j : Nat) (hj : j < l.length) : w.cell? ⟨g, j, none⟩ = some (cb l[j]) := by
  obtain ⟨cur, fz, hg, hc, hf, ht⟩ := h.ex
  have e1 : cur.toList[j]? = some (cb l[j]) := by
    have := congrArg (fun x => x[j]?) ht
    simp only [List.getElem?_take, if_pos hj, List.getElem?_map, List.getElem?_eq_getElem hj, Option.map_some] at this
    exact this
  rw [cell_of_row w g j cur e fz hg, ← e1, Array.getElem?_toList]
theorem Row8.some (h : Row8 w e g c l) (j : Nat) (hj : j < c) : (w.cell? ⟨g, j, none⟩).isSome = true := by
  obtain ⟨cur, fz, hg, hc, hf, ht⟩ := h.ex
  rw [cell_of_row w g j cur e fz hg, Array.getElem?_eq_getElem (by omega)]
  rfl
theorem Row8.frozen (h : Row8 w e g c l) (j : Nat) (hj : j < c) : w.frozen? ⟨g, j, none⟩ = false := by
  obtain ⟨cur, fz, hg, hc, hf, ht⟩ := h.ex
  obtain ⟨lo, hi⟩ := fz
  simp only [World.frozen?, hg, Bool.and_eq_false_iff, decide_eq_false_iff_not]
  simp only at hf
  omega
theorem Row8.lt (h : Row8 w e g c l) : g < w.heap.size := by
  obtain ⟨cur, fz, hg, _⟩ := h.ex
  rcases Nat.lt_or_ge g w.heap.size with h' | h'
  · exact h'
  · rw [Array.getElem?_eq_none h'] at hg; cases hg
theorem Row8.of_block (h : Row8 w e g c l) {w' : World} (hb : w'.heap[g]? = w.heap[g]?) : Row8 w' e g c l := by
  obtain ⟨cur, fz, hg, hc⟩ := h.ex
  exact ⟨⟨cur, fz, hb.trans hg, hc⟩, h.le, h.mx⟩
theorem setCell_row (w : World) (g i : Nat) (cs : Array Value) (t : TypeId) (fz : Nat × Nat) (v : Value) (hg : w.heap[g]? = Option.some (.cells cs t fz)) :
    (w.setCell ⟨g, i, none⟩ v).heap[g]? = Option.some (.cells (cs.setIfInBounds i v) t fz) := by
  rw [setCell_eq_setRow w g i cs t fz v hg]
  exact setRow_heap w g cs _ t _ hg
theorem Row8.set (h : Row8 w e g c l) (j : Nat) (b : UInt8) : Row8 (w.setCell ⟨g, j, none⟩ (cb b)) e g c (l.set j b) := by
  obtain ⟨cur, fz, hg, hc, hf, ht⟩ := h.ex
  refine ⟨⟨_, fz, setCell_row w g j cur e fz (cb b) hg, by simpa using hc, hf, ?_⟩, by simpa using h.le, h.mx⟩
  rw [List.length_set, List.map_set, Array.toList_setIfInBounds, ← ht, List.take_set]
theorem setCells_row (g : Nat) (e : TypeId) (fz : Nat × Nat) : ∀ (vs : List Value) (o : Nat) (w : World) (cur : Array Value), w.heap[g]? = Option.some (.cells cur e fz) → o + vs.length ≤ cur.size →
    ∃ cur', (w.setCells g o vs).heap[g]? = Option.some (.cells cur' e fz) ∧ cur'.size = cur.size ∧ cur'.toList.take (o + vs.length) = cur.toList.take o ++ vs
  | [], o, w, cur, hg, hl => ⟨cur, hg, rfl, by simp⟩
  | v :: r, o, w, cur, hg, hl => by
    simp only [List.length_cons] at hl
    obtain ⟨cur', h1, h2, h3⟩ := setCells_row g e fz r (o + 1) (w.setCell ⟨g, o, none⟩ v) _ (setCell_row w g o cur e fz v hg) (by simp; omega)
    refine ⟨cur', h1, by simpa using h2, ?_⟩
    rw [List.length_cons, show o + (r.length + 1) = o + 1 + r.length by omega, h3, Array.toList_setIfInBounds, List.take_set, List.take_succ_eq_append_getElem (by simp; omega)]
    rw [List.set_append_right _ _ (by simp; omega), List.length_take, show o - min o cur.toList.length = 0 by simp; omega]
    simp
theorem setCells_other (g k : Nat) (hk : k ≠ g) : ∀ (vs : List Value) (o : Nat) (w : World), (w.setCells g o vs).heap[k]? = w.heap[k]? ∧ (w.setCells g o vs).heap.size = w.heap.size ∧ (w.setCells g o vs).os = w.os ∧ (w.setCells g o vs).tape = w.tape ∧ (w.setCells g o vs).output = w.output
  | [], _, _ => ⟨rfl, rfl, rfl, rfl, rfl⟩
  | v :: r, o, w => by
    obtain ⟨h1, h2, h3, h4, h5⟩ := setCells_other g k hk r (o + 1) (w.setCell ⟨g, o, none⟩ v)
    exact ⟨h1.trans (heap_setCell_other _ _ _ _ hk), h2.trans (by simp [World.setCell]), h3, h4, h5⟩
end
section
variable {P : Program} {w : World} {ops : Array Oper} {rest : List Oper} {o : Oper} {a : Act} {Q : Exit → Act → World → Prop}
/-- '[]byte(s)'. -/
theorem wpList_bytes (hgd : o.guard = none) (src dst : TypeId) (x : Operand) (ho : o.op = .convert src dst x) (e : TypeId) (hs : P.underlying src = some .string) (hd : P.underlying dst = some (.slice e)) (he : P.underlying e = some (.int .u8))
    (s : ByteArray) (hx : a.eval x = .string s) (hm : s.size ≤ maxLen)
    (h : ∀ w' c, Row8 w' e w.heap.size c s.data.toList → Below w.heap.size w w' → w'.heap.size = w.heap.size + 1 → wpList P ops Q rest (a.put o.dst (.slice (some ⟨w.heap.size, 0, none⟩) s.size c)) w') : wpList P ops Q (o :: rest) a w :=
  wpList_plain hgd fun K hK => by
    have hrun := Lib.run_convert_string_bytes (P := P) w src dst e s hs hd he
    have hsz : s.data.toList.length = s.size := Array.length_toList
    have hge := grownCap_ge w s.size 0 e
    have hcs : (Lib.bytesCells w e s).size = grownCap w s.size 0 e := by
      simp only [Lib.bytesCells, Array.size_append, Array.size_map, Array.size_replicate]
      have : s.data.size = s.size := rfl
      omega
    unfold Oper.wp execOp
    simp only [ho, hx, Sem.run_bind, hrun, Result.andThen_ok, Sem.run_pure]
    refine hK _ _ (h _ _ ⟨⟨_, _, Lib.bytesWorld_at_new w e s, hcs, ?_, ?_⟩, by omega, grownCap_le_maxLen w s.size 0 e hm⟩ ⟨rfl, rfl, rfl, by rw [Lib.bytesWorld_size]; omega, fun k hk => Lib.bytesWorld_at_old w e s k hk⟩ (Lib.bytesWorld_size w e s))
    · right; rw [hcs]; exact Nat.le_refl _
    · rw [hsz, Lib.bytesCells, Array.toList_append, Array.toList_map, List.take_append_of_le_length (by simp), List.take_of_length_le (by simp)]
      rfl
/-- 'append(b, s...)' of a string onto such bytes. -/
theorem wpList_append_bytes (hgd : o.guard = none) (sl x : Operand) (t u : TypeId) (ho : o.op = .call { callee := .builtin .append, args := #[sl, x], argTypes := #[t, u] })
    (e : TypeId) (i : TypeInfo) (ht : P.underlying t = some (.slice e)) (hu : P.underlying u = some .string) (hi : P.info? e = some i) (hz : i.zero = some (.int .u8 0)) (hsize : i.size = 1) (hby : i.bytes = 1)
    (g c n : Nat) (l : List UInt8) (hn : n = l.length) (hs : a.eval sl = .slice (some ⟨g, 0, none⟩) n c) (hrow : Row8 w e g c l) (s : ByteArray) (hx : a.eval x = .string s) (hbytes : n + s.size ≤ 140737488355328)
    (h : ∀ w' g' c', Row8 w' e g' c' (l ++ s.data.toList) → (∀ B, B ≤ g → Below B w w') → (∀ B, B ≤ g → B ≤ g') → wpList P ops Q rest (a.put o.dst (.slice (some ⟨g', 0, none⟩) (n + s.size) c')) w') : wpList P ops Q (o :: rest) a w :=
  wpList_plain hgd fun K hK => by
    subst hn
    have hsz : s.data.toList.length = s.size := Array.length_toList
    have hgl := hrow.lt
    have hadd : ∀ m : Nat, (⟨g, 0, none⟩ : Addr).add m = ⟨g, m, none⟩ := fun m => by unfold Addr.add; split <;> simp_all
    have hsc : Lib.strCells s = s.data.toList.map cb := rfl
    by_cases hroom : l.length + s.size ≤ c
    · have hst := run_storeCells_cells (P := P) g l.length (Lib.strCells s) 0 w (fun j hj => hrow.some _ (by rw [Lib.strCells_length] at hj; omega)) (fun j hj => hrow.frozen _ (by rw [Lib.strCells_length] at hj; omega)) (Lib.strCells_oneCell s)
      have hf := Lib.run_firstCells_string (P := P) w 1 s
      have hrun : (Builtin.append_ #[t, u] o.type #[.slice (some ⟨g, 0, none⟩) l.length c, .string s]).run P w = .ok (.slice (some ⟨g, 0, none⟩) (l.length + s.size) c) (w.setCells g l.length (Lib.strCells s)) := by
        simp only [Nat.add_zero] at hst
        simp [Builtin.append_, run_underlying ht, run_underlying hu, sizeOf, typeInfo, hi, hsize, Builtin.lenOf, hroom, hf, hadd, hst]
      unfold Oper.wp execOp
      simp only [ho, resolve, invoke, builtin, Sem.run_bind, Sem.run_pure, Result.andThen_ok, List.map_toArray, List.map_cons, List.map_nil, hs, hx, hrun]
      obtain ⟨cur, fz, hg, hc, hfz, htk⟩ := hrow.ex
      obtain ⟨cur', h1, h2, h3⟩ := setCells_row g e fz (Lib.strCells s) l.length w cur hg (by rw [Lib.strCells_length]; omega)
      refine hK _ _ (h _ g c ⟨⟨cur', fz, h1, by omega, hfz, ?_⟩, by rw [List.length_append]; omega, hrow.mx⟩ (fun B hB => ?_) (fun B hB => hB))
      · rw [List.length_append, hsz, ← Lib.strCells_length s, h3, htk, hsc, List.map_append]
      · obtain ⟨_, k2, k3, k4, k5⟩ := setCells_other g (g + 1) (by omega) (Lib.strCells s) l.length w
        exact ⟨k3, k4, k5, by omega, fun k hk => (setCells_other g k (by omega) (Lib.strCells s) l.length w).1⟩
    · have hmx : l.length + s.size ≤ maxLen := by simp only [maxLen]; omega
      have hr := Lib.run_append_grow_string (P := P) w t u o.type e i (.int .u8 0) ht hu hi hz ⟨g, 0, none⟩ l.length c (l.map cb) (by rw [hsize]; simp) (by
        intro j v hj
        rw [List.getElem?_map] at hj
        obtain ⟨b, hb, rfl⟩ := Option.map_eq_some_iff.1 hj
        obtain ⟨hj2, rfl⟩ := List.getElem?_eq_some_iff.1 hb
        rw [hadd]
        exact hrow.cell j hj2) s (by omega) (by simp only [maxLen] at hmx; omega) (by rw [hby]; exact growslice_fits (by omega) (by omega))
      unfold Oper.wp execOp
      simp only [ho, resolve, invoke, builtin, Sem.run_bind, Sem.run_pure, Result.andThen_ok, List.map_toArray, List.map_cons, List.map_nil, hs, hx, hr]
      have hge := grownCap_ge w (l.length + s.size) c e
      refine hK _ _ (h _ w.heap.size _ ⟨⟨_, (0, 0), heap_alloc_new w.drew _, ?_, Or.inl rfl, ?_⟩, ?_, grownCap_le_maxLen w _ _ e hmx⟩ (fun B hB => ⟨rfl, rfl, rfl, by simp, fun k hk => heap_alloc_old w.drew _ (by show k < w.heap.size; omega)⟩) (fun B hB => by omega))
      · have hz1 : (Value.int IntKind.u8 0).cells.size = 1 := rfl
        simp only [Array.size_append, List.size_toArray, size_zeroCells, hz1, List.length_map, Lib.strCells_length]
        omega
      · rw [hsc, List.length_append, List.map_append]
        simp only [Array.toList_append, List.append_assoc]
        rw [← List.append_assoc, List.take_append_of_le_length (by simp), List.take_of_length_le (by simp)]
      · rw [List.length_append]; omega
/-- 'string(b)' of such bytes. -/
theorem wpList_string_of (hgd : o.guard = none) (src dst : TypeId) (x : Operand) (ho : o.op = .convert src dst x) (e : TypeId) (hs : P.underlying src = some (.slice e)) (he : P.underlying e = some (.int .u8)) (hd : P.underlying dst = some .string)
    (g c : Nat) (l : List UInt8) (n : Nat) (hn : n = l.length) (hx : a.eval x = .slice (some ⟨g, 0, none⟩) n c) (hrow : Row8 w e g c l)
    (h : wpList P ops Q rest (a.put o.dst (.string ⟨l.toArray⟩)) w) : wpList P ops Q (o :: rest) a w := by
  obtain ⟨cur, fz, hg, hc, hf, ht⟩ := hrow.ex
  refine wpList_convert_back hgd src dst x ho e hs he hd g 0 c l n hn hx e cur fz hg (fun j hj => ?_) h
  have := hrow.cell j hj
  rw [cell_of_row w g j cur e fz hg] at this
  rw [Nat.zero_add, this, List.getD_eq_getElem?_getD, List.getElem?_eq_getElem hj]
  rfl
end
end Go.Proofs.Ytnhgakmnkpjpdaa

/- The document's Num (layer 1): its contract, by walking it. No condition but the number's kind. -/
set_option linter.unusedVariables false
set_option linter.unusedSimpArgs false
namespace Go.Proofs.Ytnhgakmnkpjpdaa
open Go Go.RowKit Go.Proofs.YtnhgakmnkpjpdaaW.PrintWords
theorem Row8.lit (w : World) (e : TypeId) (b : UInt8) : Row8 (w.alloc (.cells #[cb b] e)) e w.heap.size 1 [b] :=
  ⟨⟨_, (0, 0), heap_alloc_new w _, rfl, Or.inl rfl, rfl⟩, Nat.le_refl _, by decide⟩
end Go.Proofs.Ytnhgakmnkpjpdaa
