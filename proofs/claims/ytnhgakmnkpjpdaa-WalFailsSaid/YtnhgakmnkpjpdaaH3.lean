/- Package tally: the contract of Row, by walking it. No condition but that the bytes are not too many. -/
import Derived.Test.YtnhgakmnkpjpdaaPA
import Derived.Test.YtnhgakmnkpjpdaaH2
set_option linter.unusedVariables false
set_option linter.unusedSimpArgs false
namespace Go.Proofs.Ytnhgakmnkpjpdaa
open Go Go.RowKit Go.Proofs.Ytnhgakmnkpjpdaa.Q Go.Proofs.YtnhgakmnkpjpdaaW.PrintWords Go.Proofs.YtnhgakmnkpjpdaaW.PrintLast Go.Proofs.YtnhgakmnkpjpdaaW.PrintMore
/-- A text's bytes. -/
def textL (s : ByteArray) : List UInt8 := tnum s.size ++ s.data.toList
/-- Texts' bytes. -/
def textsL (l : List ByteArray) : List UInt8 := (l.map textL).flatten
/-- A row's bytes. -/
def rowL (l : List ByteArray) : List UInt8 := tnum l.length ++ textsL l
def tally_Row.f (l : List ByteArray) : Option ByteArray := if (rowL l).length ≤ 140737488355328 then some (B (rowL l)) else none
theorem textL_length (s : ByteArray) : s.size < (textL s).length := by
  unfold textL
  have h := tnum_length_pos s.size
  have h2 : s.data.toList.length = s.size := Array.length_toList
  rw [List.length_append]
  omega
theorem textsL_length (l : List ByteArray) : l.length ≤ (textsL l).length := by
  unfold textsL
  induction l with
  | nil => exact Nat.le_refl _
  | cons s l ih =>
    have := textL_length s
    rw [List.map_cons, List.flatten_cons, List.length_append, List.length_cons]
    omega
theorem textsL_take (l : List ByteArray) (i : Nat) (hi : i < l.length) : textsL (l.take (i + 1)) = textsL (l.take i) ++ textL l[i] := by
  unfold textsL
  rw [List.take_succ_eq_append_getElem hi, List.map_append, List.flatten_append]
  simp
theorem textsL_take_le (l : List ByteArray) (i : Nat) (hi : i < l.length) : (textsL (l.take i)).length + (textL l[i]).length ≤ (textsL l).length := by
  have h := textsL_take l i hi
  have h2 : textsL l = textsL (l.take (i + 1)) ++ textsL (l.drop (i + 1)) := by
    conv => lhs; rw [← List.take_append_drop (i + 1) l]
    unfold textsL
    rw [List.map_append, List.flatten_append]
  rw [h2, h, List.length_append, List.length_append]
  omega
theorem rdOf_get (l : List ByteArray) (i : Int) (h0 : 0 ≤ i) (h1 : i < (l.length : Int)) : rdOf ByteArray.empty l i = l[i.toNat]'(by omega) := by
  unfold rdOf
  rw [List.getD_eq_getElem?_getD, List.getElem?_eq_getElem (by omega)]
  rfl
theorem info5_parts : ∃ i, Try.prog.info? 5 = some i ∧ i.zero = some (.int .u8 0) ∧ i.size = 1 ∧ i.bytes = 1 := by
  obtain ⟨i, h, he⟩ := Option.map_eq_some_iff.1 info5
  simp only [Prod.mk.injEq] at he
  exact ⟨i, h, he.1, he.2.1, he.2.2⟩
set_option maxRecDepth 100000 in
set_option maxHeartbeats 2000000 in
theorem tally_Row.calls (A0 : Option Addr) (c0 : Nat) (l0 : List ByteArray) (r : ByteArray) (w : World) (hr0 : Kd.C Kd.string w A0 l0.length l0) (hc0 : l0.length ≤ c0) (h : tally_Row.f l0 = some r) :
    Calls Try.prog 68 #[.slice A0 l0.length c0] w fun e w' => e = .returned (.string r) ∧ Below w.heap.size w w' := by
  unfold tally_Row.f at h
  by_cases hsz : (rowL l0).length ≤ 140737488355328
  · rw [if_pos hsz] at h
    obtain rfl := Option.some.inj h
    have HR0 := hid hr0
    have HL : l0.length + (tnum l0.length).length ≤ 140737488355328 := by
      have := textsL_length l0
      unfold rowL at hsz
      rw [List.length_append] at hsz
      omega
    have HSZ := hid hsz
    have HLL := hid HL
    obtain ⟨ti, hti, hz, hs1, hb1⟩ := info5_parts
    have Hti := hid hti
    have Hz := hid hz
    have Hs1 := hid hs1
    have Hb1 := hid hb1
    clear hti hz hs1 hb1
    obtain ⟨N, hN⟩ : ∃ N, N = B (tnum l0.length) := ⟨_, rfl⟩
    have HN := hid hN
    have HNf := hid (Pure.Num_f 24 l0.length (by omega) (Nat.le_refl _))
    rw [← hN] at HNf
    have HNs := hid (show N.size ≤ maxLen by rw [hN, B_size]; simp only [maxLen]; omega)
    have HNd := hid (show N.data.toList = tnum l0.length by rw [hN, B_data])
    have hw : IntKind.u64.wrap (l0.length : Int) = (l0.length : Int) := u64w _ (by omega) (by omega)
    clear h hr0 hsz HL hN
    go_enter Try.func68, Try.ntmps68
    go_wp2_with (first
      | (go_at_call 85; refine (tally_Num.calls 24 _ N _ HNf.out).mono ?_; rintro e w1 ⟨rfl, b1⟩)
      | (refine wpList_bytes rfl 9 73 (.tmp 9) rfl 5 Try.underlying9 Try.underlying73 Try.underlying5 N rfl HNs.out ?_; intro w2 c2 r2 b2 s2))
    have B2 := hid (b1.trans (b2.mono b1.size))
    have R2 := hid r2
    have G1 := hid b1.size
    clear b1 b2 r2 s2
    obtain ⟨g, hg⟩ : ∃ g, g = w1.heap.size := ⟨_, rfl⟩
    rw [← hg] at R2 G1 ⊢
    clear hg
    go_loopw [3, 5, 13] (fun v3 v5 q wr => ∃ (i : Int) (g c n : Nat), q = .int .i64 i ∧ v3 = .slice (some ⟨g, 0, none⟩) n c ∧ Aside0 (0 ≤ i ∧ i ≤ (l0.length : Int)) ∧ Aside0 (n = (tnum l0.length ++ textsL (l0.take i.toNat)).length) ∧
      Aside0 (Row8 wr 5 g c (tnum l0.length ++ textsL (l0.take i.toNat))) ∧ Aside0 (w.heap.size ≤ g) ∧ Aside0 (Below w.heap.size w wr)) (fun _ _ q _ => l0.length - (intOf q).toNat)
    case atStart =>
      refine ⟨0, g, c2, N.size, rfl, rfl, ⟨by decide, by omega⟩, ⟨?_⟩, ⟨?_⟩, ⟨G1.out⟩, ⟨B2.out⟩⟩
      · rw [HN.out, B_size]
        simp [textsL]
      · have := R2.out
        rw [HNd.out] at this
        simpa [textsL] using this
    case round =>
      obtain ⟨i, g, c, n, rfl, rfl, HI, HNN, HR, HG, HB⟩ := hrel
      by_cases hi : i < (l0.length : Int)
      · have c0 : decide (i < (l0.length : Int)) = true := decide_eq_true hi
        have p0 : 0 ≤ i := HI.out.1
        have hget := rdOf_get l0 i p0 hi
        obtain ⟨ad, e1, hx⟩ := Kd.at_string HR0.out i p0 hi
        cases e1
        obtain ⟨T, hT⟩ : ∃ T, T = rdOf ByteArray.empty l0 i := ⟨_, rfl⟩
        rw [← hT] at hx hget
        replace hx := (HB.out.cell (World.block_lt_of_cell? w _ hx)).trans hx
        have hlt : i.toNat < l0.length := by omega
        have htk := textsL_take l0 i.toNat hlt
        have hle := textsL_take_le l0 i.toNat hlt
        rw [← hget] at htk hle
        have hTl : T.data.toList.length = T.size := Array.length_toList
        have hb : (tnum l0.length ++ textsL (l0.take i.toNat)).length + (tnum T.size).length + T.size ≤ 140737488355328 := by
          have h1 := HSZ.out
          unfold rowL at h1
          unfold textL at hle
          simp only [List.length_append] at h1 hle ⊢
          omega
        obtain ⟨L, hL⟩ : ∃ L, L = tnum l0.length ++ textsL (l0.take i.toNat) := ⟨_, rfl⟩
        rw [← hL] at HNN HR hb
        obtain ⟨M, hM⟩ : ∃ M, M = B (tnum T.size) := ⟨_, rfl⟩
        have hMf := Pure.Num_f 24 T.size (by omega) (Nat.le_refl _)
        rw [← hM] at hMf
        have HMf := hid hMf
        have hMs : M.size = (tnum T.size).length := by rw [hM, B_size]
        have HM1 := hid (show n + M.size ≤ 140737488355328 by rw [hMs, HNN.out]; omega)
        have HM2 := hid (show n + M.size + T.size ≤ 140737488355328 by rw [hMs, HNN.out]; omega)
        have HMl := hid (show n + M.size = (L ++ M.data.toList).length by rw [HNN.out, List.length_append, hM, B_data, B_size])
        have HM3 := hid (show L ++ M.data.toList ++ T.data.toList = tnum l0.length ++ textsL (l0.take (i.toNat + 1)) by rw [hL, htk, hM, B_data]; unfold textL; simp only [List.append_assoc])
        have HTl := hid hTl
        have hw2 : IntKind.u64.wrap (T.size : Int) = (T.size : Int) := u64w _ (by omega) (by omega)
        have HII := hid hi
        have p0 := eq_true p0
        have q0 := eq_true hi
        clear hget hlt htk hle hTl hb hL hM hMf hMs hT hi
        go_wp2_with (first
          | (go_at_call 85; refine (tally_Num.calls 24 _ M _ HMf.out).mono ?_; rintro e w3 ⟨rfl, b3⟩; have R3 := hid (HR.out.of_block (b3.block g HR.out.lt)))
          | (refine wpList_append_bytes rfl (.tmp 17) (.tmp 21) 73 9 rfl 5 ti Try.underlying73 Try.underlying9 Hti.out Hz.out Hs1.out Hb1.out g c n L HNN.out rfl R3.out M rfl HM1.out ?_; intro w4 g4 c4 r4 b4 k4; have R4 := hid r4)
          | (refine wpList_append_bytes rfl (.tmp 22) (.tmp 23) 73 9 rfl 5 ti Try.underlying73 Try.underlying9 Hti.out Hz.out Hs1.out Hb1.out g4 c4 (n + M.size) (L ++ M.data.toList) HMl.out rfl R4.out T rfl HM2.out ?_; intro w5 g5 c5 r5 b5 k5))
        go_roundw
        case rel =>
          have h0 := HI.out
          have h1 := HII.out
          have hl := HLL.out
          have hi1 : (i + 1).toNat = i.toNat + 1 := by omega
          have hg4 := k4 _ HG.out
          refine ⟨i + 1, g5, c5, _, by rw [wrap64_in' _ (by omega) (by omega)], rfl, ⟨by omega, by omega⟩, ⟨?_⟩, ⟨?_⟩, ⟨k5 _ hg4⟩, ⟨?_⟩⟩
          · rw [hi1, ← HM3.out, List.length_append, ← HMl.out, HTl.out]
          · rw [hi1, ← HM3.out]; exact r5
          · exact HB.out.trans ((b3.mono HB.out.size).trans ((b4 _ HG.out).trans (b5 _ hg4)))
        case measure =>
          have h0 := HI.out
          have h1 := HII.out
          have hl := HLL.out
          rw [wrap64_in' _ (by omega) (by omega)]
          simp only [intOf]
          omega
      · have c0 : decide (i < (l0.length : Int)) = false := decide_eq_false hi
        have hil : i.toNat = l0.length := by have := HI.out; omega
        rw [hil, List.take_of_length_le (Nat.le_refl _)] at HNN HR
        obtain ⟨L, hL⟩ : ∃ L, L = tnum l0.length ++ textsL l0 := ⟨_, rfl⟩
        rw [← hL] at HNN HR
        have HLE := hid hL
        clear hL hi hil
        go_wp2_with (refine wpList_string_of rfl 73 9 (.tmp 26) rfl 5 Try.underlying73 Try.underlying5 Try.underlying9 g c L n HNN.out rfl HR.out ?_)
        go_ret
        exact ⟨by rw [HLE.out]; rfl, HB.out⟩
  · rw [if_neg hsz] at h; cases h
end Go.Proofs.Ytnhgakmnkpjpdaa
