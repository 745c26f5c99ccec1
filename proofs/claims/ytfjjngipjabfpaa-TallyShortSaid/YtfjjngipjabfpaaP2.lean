/- The head of the statements on tally; what is put is taken; what is taken, put again, plain. -/
import Derived.Test.YtfjjngipjabfpaaP1
import Derived.Test.YtfjjngipjabfpaaQ3
set_option linter.unusedVariables false
set_option linter.unusedSimpArgs false
namespace Go.Proofs.Ytfjjngipjabfpaa.Pure
open Go Go.RowKit Go.Proofs.Ytfjjngipjabfpaa.Q Go.Proofs.YtfjjngipjabfpaaW.PrintWords Go.Proofs.YtfjjngipjabfpaaW.PrintLast Go.Proofs.YtfjjngipjabfpaaW.PrintMore
theorem textL_B (s : List UInt8) : textL (B s) = tnum s.length ++ s := by unfold textL; rw [B_size, B_data]
theorem textsL_cons (s : List UInt8) (l : List (List UInt8)) : textsL ((s :: l).map B) = (tnum s.length ++ s) ++ textsL (l.map B) := by
  unfold textsL
  rw [List.map_cons, List.map_cons, List.flatten_cons, textL_B]
theorem rowL_map (l : List (List UInt8)) : rowL (l.map B) = tnum l.length ++ textsL (l.map B) := by unfold rowL; rw [List.length_map]
theorem takeT_once {L s r : List UInt8} (h : takeT L = some (s, r)) : L = (tnum s.length ++ s) ++ r := by
  cases hn : takeN L with
  | none => rw [takeT_none hn] at h; cases h
  | some x =>
    obtain ⟨n, l⟩ := x
    rw [takeT_eq hn] at h
    by_cases hl : n ≤ l.length
    · rw [if_pos hl] at h
      obtain ⟨rfl, rfl⟩ := Prod.mk.inj (Option.some.inj h)
      rw [List.length_take, Nat.min_eq_left hl, List.append_assoc, List.take_append_drop]
      exact (takeN_once hn).2
    · rw [if_neg hl] at h; cases h
theorem takeT_back (s r : List UInt8) (hs : s.length < 18446744073709551616) : takeT ((tnum s.length ++ s) ++ r) = some (s, r) := by
  rw [List.append_assoc, takeT_eq (takeN_tnum _ hs (s ++ r)), if_pos (by rw [List.length_append]; omega), List.take_left, List.drop_left]
theorem takeM_once (n : Nat) : ∀ (L : List UInt8) (l : List (List UInt8)) (t : List UInt8), takeM n L = some (l, t) → l.length = n ∧ L = textsL (l.map B) ++ t := by
  induction n with
  | zero =>
    intro L l t h
    rw [takeM] at h
    obtain ⟨rfl, rfl⟩ := Prod.mk.inj (Option.some.inj h)
    exact ⟨rfl, rfl⟩
  | succ n ih =>
    intro L l t h
    rw [takeM] at h
    cases ht : takeT L with
    | none => rw [ht] at h; cases h
    | some x =>
      obtain ⟨s, r⟩ := x
      rw [ht] at h
      simp only at h
      cases hm : takeM n r with
      | none => rw [hm] at h; cases h
      | some y =>
        obtain ⟨l', t'⟩ := y
        rw [hm] at h
        obtain ⟨rfl, rfl⟩ := Prod.mk.inj (Option.some.inj h)
        obtain ⟨h1, h2⟩ := ih r l' t' hm
        refine ⟨by rw [List.length_cons, h1], ?_⟩
        rw [textsL_cons, List.append_assoc, ← h2]
        exact takeT_once ht
theorem takeM_back (l : List (List UInt8)) (t : List UInt8) (hl : ∀ s ∈ l, s.length < 18446744073709551616) : takeM l.length (textsL (l.map B) ++ t) = some (l, t) := by
  induction l with
  | nil => rfl
  | cons s l ih =>
    rw [List.length_cons, takeM, textsL_cons, List.append_assoc, takeT_back s _ (hl s (List.mem_cons_self ..))]
    simp only
    rw [ih (fun s hs => hl s (List.mem_cons_of_mem _ hs))]
theorem takeR_once {L : List UInt8} {l : List (List UInt8)} {t : List UInt8} (h : takeR L = some (l, t)) : L = rowL (l.map B) ++ t := by
  cases hn : takeN L with
  | none => rw [takeR_none hn] at h; cases h
  | some x =>
    obtain ⟨n, r⟩ := x
    rw [takeR_eq hn] at h
    obtain ⟨h1, h2⟩ := takeM_once n r l t h
    rw [rowL_map, h1, List.append_assoc, ← h2]
    exact (takeN_once hn).2
theorem takeR_back (l : List (List UInt8)) (t : List UInt8) (h0 : l.length < 18446744073709551616) (hl : ∀ s ∈ l, s.length < 18446744073709551616) : takeR (rowL (l.map B) ++ t) = some (l, t) := by
  rw [rowL_map, List.append_assoc, takeR_eq (takeN_tnum _ h0 _)]
  exact takeM_back l t hl
theorem tnum_1 {n : Nat} (h : n < 128) : tnum n = [UInt8.ofNat n] := by
  unfold tnum
  rw [show n / 128 = 0 by omega, hA_zero, show n % 128 = n by omega]
  rfl
theorem hA_1 {a : Nat} (h0 : a ≠ 0) (h : a ≤ 128) : hA a = [UInt8.ofNat (128 + (a - 1))] := by
  rw [hA_pos h0, show (a - 1) / 128 = 0 by omega, hA_zero, show (a - 1) % 128 = a - 1 by omega]
  rfl
theorem head01 (k : Nat) (hk : 24 ≤ k) : quittancelaw01_head.f k = some true := by
  unfold quittancelaw01_head.f
  have n1 := Num_f k 127 (by decide) hk
  have n2 := Num_f k 16511 (by decide) hk
  have n3 := Num_f k 16512 (by decide) hk
  have i1 := Int_f k (-1) (by decide) (by decide) hk
  have i2 := Int_f k 64 (by decide) (by decide) hk
  have b1 : tnum 127 = [127] := tnum_1 (by decide)
  have b2 : tnum 16511 = [255, 127] := by unfold tnum; rw [hA_1 (by decide) (by decide)]; rfl
  have b3 : tnum 16512 = [128, 128, 0] := by
    unfold tnum
    rw [hA_pos (a := 16512 / 128) (by decide), hA_1 (by decide) (by decide)]
    rfl
  have b4 : tnum (zz (-1)) = [1] := tnum_1 (by decide)
  have b5 : tnum (zz 64) = [128, 0] := by unfold tnum; rw [hA_1 (by decide) (by decide)]; rfl
  have t1 := TakeNum_some (L := [128, 0, 5]) (by unfold okN; decide) (n := 128) (r := [5]) rfl
  have t2 := TakeText_eq (L := [2, 97]) (by unfold okN; decide)
  have t3 := TakeRow_eq (L := [1]) (by decide)
  have e2 : takeT [2, 97] = none := rfl
  have e3 : takeR [1] = none := rfl
  rw [e2] at t2
  rw [e3] at t3
  have r1 : tally_Row.f [B [97], B []] = some (B [2, 1, 97, 0]) := by
    unfold tally_Row.f
    have e : rowL [B [97], B []] = [2, 1, 97, 0] := by
      have := rowL_map [[97], []]
      rw [textsL_cons, textsL_cons] at this
      refine this.trans ?_
      have c1 : tnum ([[97], []] : List (List UInt8)).length = [2] := tnum_1 (n := 2) (by decide)
      have c2 : tnum ([97] : List UInt8).length = [1] := tnum_1 (n := 1) (by decide)
      have c3 : tnum ([] : List UInt8).length = [0] := tnum_1 (n := 0) (by decide)
      rw [c1, c2, c3]
      rfl
    rw [e, if_pos (by decide)]
  rw [show (⟨#[128, 0, 5]⟩ : ByteArray) = B [128, 0, 5] from rfl, show (⟨#[2, 97]⟩ : ByteArray) = B [2, 97] from rfl, show (⟨#[1]⟩ : ByteArray) = B [1] from rfl,
    show ([(⟨#[97]⟩ : ByteArray), (⟨#[]⟩ : ByteArray)] : List ByteArray) = [B [97], B []] from rfl, t1, t2, t3]
  simp only [Option.bind_some]
  rw [show (127 : Int) = ((127 : Nat) : Int) from rfl, n1, b1]
  simp only [Option.bind_some]
  rw [B_toList, if_true, show (16511 : Int) = ((16511 : Nat) : Int) from rfl, n2, b2]
  simp only [Option.bind_some]
  rw [B_toList, if_true, show (16512 : Int) = ((16512 : Nat) : Int) from rfl, n3, b3]
  simp only [Option.bind_some]
  rw [B_toList, if_true, i1, b4]
  simp only [Option.bind_some]
  rw [B_toList, if_true, i2, b5]
  simp only [Option.bind_some]
  rw [B_toList, if_true, r1]
  simp only [Option.bind_some]
  rw [B_toList, B_toList]
  decide
end Go.Proofs.Ytfjjngipjabfpaa.Pure
