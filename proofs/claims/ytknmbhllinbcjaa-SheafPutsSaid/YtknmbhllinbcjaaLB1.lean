/- Plain laws of leaf: what the document's functions compute, and that the code's leaf is theirs. Numbers of 64 bits; no other condition. -/
import Derived.Test.YtknmbhllinbcjaaB0
import Derived.Test.YtknmbhllinbcjaaQ2
import Derived.Test.YtknmbhllinbcjaaL3
set_option linter.unusedVariables false
set_option linter.unusedSimpArgs false
namespace Go.Proofs.Ytknmbhllinbcjaa
open Go Go.RowKit Go.Proofs.YtknmbhllinbcjaaW.PrintWords Go.Proofs.Ytknmbhllinbcjaa.Q
/-- 48 bytes. -/
def full (l : List UInt8) : List UInt8 := l ++ List.replicate (48 - l.length) 0
theorem full_length (l : List UInt8) (h : l.length ≤ 48) : (full l).length = 48 := by simp [full]; omega
def le8 (n : Nat) : List UInt8 := (List.range 8).map (byteAt n)
def be8 (n : Nat) : List UInt8 := (le8 n).reverse
theorem le8_length (n : Nat) : (le8 n).length = 8 := by simp [le8]
theorem be8_length (n : Nat) : (be8 n).length = 8 := by simp [be8, le8]

theorem full_f (d : Nat) : ∀ (k : Nat) (l : List UInt8), 48 - l.length = d → l.length ≤ 48 → d < k → quittanceref02_Full.l0 k (B l) = some (B (full l)) := by
  induction d with
  | zero =>
    intro k l hd hl hk
    obtain ⟨k, rfl⟩ : ∃ m, k = m + 1 := ⟨k - 1, by omega⟩
    simp only [quittanceref02_Full.l0]
    rw [if_neg (by rw [B_size]; omega)]
    simp [full, hd]
  | succ d ih =>
    intro k l hd hl hk
    obtain ⟨k, rfl⟩ : ∃ m, k = m + 1 := ⟨k - 1, by omega⟩
    simp only [quittanceref02_Full.l0]
    rw [if_pos (by rw [B_size]; omega), if_pos (by rw [B_size]; omega)]
    have e : B l ++ (⟨#[0]⟩ : ByteArray) = B (l ++ [0]) := B_append l [0]
    rw [e, ih k (l ++ [0]) (by simp; omega) (by simp; omega) (by omega)]
    congr 2
    unfold full
    rw [List.append_assoc]
    congr 1
    have : 48 - l.length = (48 - (l ++ [0]).length) + 1 := by simp; omega
    rw [this, List.replicate_succ]
    rfl

theorem byteAt_div (n j : Nat) : byteAt (n / 256) j = byteAt n (j + 1) := by
  unfold byteAt
  rw [Nat.div_div_eq_div_mul, Nat.pow_succ, Nat.mul_comm]
theorem eight_f (d : Nat) : ∀ (k : Nat) (n : Nat) (l : List UInt8) (i : Nat), 8 - i = d → i ≤ 8 → d < k → n < 18446744073709551616 → l.length = i →
    quittanceref02_eight.l0 k n (B l) i = some (B (((List.range d).map (byteAt n)).reverse ++ l)) := by
  induction d with
  | zero =>
    intro k n l i hd hi hk hn hl
    obtain ⟨k, rfl⟩ : ∃ m, k = m + 1 := ⟨k - 1, by omega⟩
    simp only [quittanceref02_eight.l0]
    rw [if_neg (by omega)]
    simp
  | succ d ih =>
    intro k n l i hd hi hk hn hl
    obtain ⟨k, rfl⟩ : ∃ m, k = m + 1 := ⟨k - 1, by omega⟩
    simp only [quittanceref02_eight.l0]
    rw [if_pos (by omega)]
    simp only [Option.bind_some]
    have e1 : Int.tmod (n : Int) 256 % 256 = ((n % 256 : Nat) : Int) := by rw [Int.tmod_eq_emod_of_nonneg (by omega)]; omega
    have e2 : Int.tdiv (n : Int) 256 = ((n / 256 : Nat) : Int) := by rw [Int.tdiv_eq_ediv_of_nonneg (by omega)]; omega
    have e3 : UInt8.ofNat (((n % 256 : Nat) : Int).toNat) = byteAt n 0 := by
      rw [Int.toNat_natCast]
      apply UInt8.toNat_inj.1
      simp [byteAt]
    rw [e1, strOf_one _ (by omega) (by omega), e3, e2, u64w _ (by omega) (by omega), B_append, wrap64_in' _ (by omega) (by omega)]
    rw [if_pos (by simp only [B_size, List.length_cons, List.length_nil]; omega)]
    have h := ih k (n / 256) ([byteAt n 0] ++ l) (i + 1) (by omega) (by omega) (by omega) (by omega) (by simp; omega)
    rw [show ((i : Int) + 1) = ((i + 1 : Nat) : Int) by omega, h]
    congr 2
    rw [List.range_succ_eq_map, List.map_cons, List.reverse_cons, List.append_assoc, List.map_map]
    congr 2
    apply List.map_congr_left
    intro j _
    exact byteAt_div n j

theorem take_reverse (l : List UInt8) (i : Nat) (h : i < l.length) : (l.take (i + 1)).reverse = (l.drop i).take 1 ++ (l.take i).reverse := by
  rw [List.take_succ_eq_append_getElem h, List.reverse_append, List.drop_eq_getElem_cons h]
  rfl
theorem turned_f (d : Nat) : ∀ (k : Nat) (l : List UInt8) (i : Nat), l.length - i = d → i ≤ l.length → d < k → l.length ≤ 4611686018427387904 →
    quittanceref02_turned.l0 k (B l) (B (l.take i).reverse) i = some (B l.reverse) := by
  induction d with
  | zero =>
    intro k l i hd hi hk hl
    obtain ⟨k, rfl⟩ : ∃ m, k = m + 1 := ⟨k - 1, by omega⟩
    simp only [quittanceref02_turned.l0]
    rw [if_neg (by rw [B_size]; omega), List.take_of_length_le (by omega)]
  | succ d ih =>
    intro k l i hd hi hk hl
    obtain ⟨k, rfl⟩ : ∃ m, k = m + 1 := ⟨k - 1, by omega⟩
    simp only [quittanceref02_turned.l0]
    rw [wrap64_in' _ (by omega) (by omega)]
    rw [if_pos (by rw [B_size]; omega), if_pos (by omega), if_pos (by omega), if_pos (by rw [B_size]; omega)]
    rw [show ((i : Int) + 1) = ((i + 1 : Nat) : Int) by omega, Int.toNat_natCast, Int.toNat_natCast, B_extract, B_append, show i + 1 - i = 1 by omega, ← take_reverse l i (by omega)]
    rw [if_pos (by simp only [B_size, List.length_take, List.length_drop, List.length_reverse]; omega)]
    exact ih k l (i + 1) (by omega) (by omega) (by omega) hl

theorem snoc_rec {α : Type} {P : List α → Prop} (h0 : P []) (h1 : ∀ l a, P l → P (l ++ [a])) (l : List α) : P l := by
  have h : ∀ m : List α, P m.reverse := by
    intro m
    induction m with
    | nil => exact h0
    | cons a m ih => rw [List.reverse_cons]; exact h1 _ a ih
  have := h l.reverse
  rwa [List.reverse_reverse] at this
/-- The number of some bytes, the highest first. -/
def numB (l : List UInt8) : Nat := l.foldl (fun n c => 256 * n + c.toNat) 0
theorem numB_snoc (l : List UInt8) (c : UInt8) : numB (l ++ [c]) = 256 * numB l + c.toNat := by simp [numB]
theorem numB_lt (l : List UInt8) : numB l < 256 ^ l.length := by
  refine snoc_rec (P := fun l => numB l < 256 ^ l.length) ?_ ?_ l
  · simp [numB]
  · intro l c ih
    rw [numB_snoc, List.length_append, List.length_singleton, Nat.pow_succ]
    have := c.toNat_lt
    omega
theorem number_f (d : Nat) : ∀ (k : Nat) (l : List UInt8) (i : Nat), l.length - i = d → i ≤ l.length → d < k → l.length ≤ 8 →
    quittanceref02_number.l0 k (B l) ((numB (l.take i) : Nat) : Int) i = some ((numB l : Nat) : Int) := by
  induction d with
  | zero =>
    intro k l i hd hi hk hl
    obtain ⟨k, rfl⟩ : ∃ m, k = m + 1 := ⟨k - 1, by omega⟩
    simp only [quittanceref02_number.l0]
    rw [if_neg (by rw [B_size]; omega), List.take_of_length_le (by omega)]
  | succ d ih =>
    intro k l i hd hi hk hl
    obtain ⟨k, rfl⟩ : ∃ m, k = m + 1 := ⟨k - 1, by omega⟩
    simp only [quittanceref02_number.l0]
    have hlt : i < l.length := by omega
    have hg : l.getD (i : Int).toNat 0 = l[i] := by rw [Int.toNat_natCast, List.getD_eq_getElem?_getD, List.getElem?_eq_getElem hlt]; rfl
    have hs := numB_snoc (l.take i) l[i]
    rw [← List.take_succ_eq_append_getElem hlt] at hs
    have hb := numB_lt (l.take (i + 1))
    have hp := le256 (i + 1) (by omega)
    rw [List.length_take, Nat.min_eq_left (by omega)] at hb
    have hc := (l[i]).toNat_lt
    have e1 : IntKind.u64.wrap (256 * ((numB (l.take i) : Nat) : Int)) = 256 * ((numB (l.take i) : Nat) : Int) := u64w _ (by omega) (by omega)
    have e2 : IntKind.u64.wrap (((l[i]).toNat : Nat) : Int) = (l[i]).toNat := u64w _ (by omega) (by omega)
    rw [if_pos (by rw [B_size]; omega), if_pos (by omega), bt_B, hg, e1, e2, u64w _ (by omega) (by omega), wrap64_in' _ (by omega) (by omega)]
    rw [show ((i : Int) + 1) = ((i + 1 : Nat) : Int) by omega, show (256 * (numB (l.take i) : Int) + ((l[i]).toNat : Int)) = ((numB (l.take (i + 1)) : Nat) : Int) by omega]
    exact ih k l (i + 1) (by omega) (by omega) (by omega) hl
theorem leNum_low (f : Nat → UInt8) : ∀ j, leNum f (j + 1) = (f 0).toNat + 256 * leNum (fun i => f (i + 1)) j
  | 0 => by simp [leNum]
  | j + 1 => by
    rw [leNum, leNum_low f j, leNum, Nat.pow_succ, Nat.mul_add]
    have : (f (j + 1)).toNat * (256 ^ j * 256) = 256 * ((f (j + 1)).toNat * 256 ^ j) := by rw [Nat.mul_comm (256 ^ j) 256, Nat.mul_left_comm]
    omega
theorem leNum_congr {f g : Nat → UInt8} : ∀ {j : Nat}, (∀ i, i < j → f i = g i) → leNum f j = leNum g j
  | 0, _ => rfl
  | j + 1, h => by rw [leNum, leNum, leNum_congr (fun i hi => h i (by omega)), h j (by omega)]
theorem numB_le (l : List UInt8) : numB l = leNum (fun i => l.getD (l.length - 1 - i) 0) l.length := by
  refine snoc_rec (P := fun l => numB l = leNum (fun i => l.getD (l.length - 1 - i) 0) l.length) rfl ?_ l
  · intro l c ih
    rw [numB_snoc, List.length_append, List.length_singleton, leNum_low, ih]
    have e0 : (l ++ [c]).getD (l.length + 1 - 1 - 0) 0 = c := by simp [List.getD_eq_getElem?_getD]
    rw [e0]
    have e : leNum (fun i => (l ++ [c]).getD (l.length + 1 - 1 - (i + 1)) 0) l.length = leNum (fun i => l.getD (l.length - 1 - i) 0) l.length := by
      apply leNum_congr
      intro i hi
      simp only [List.getD_eq_getElem?_getD]
      rw [List.getElem?_append_left (by omega)]
      congr 2
      omega
    rw [e]
    omega
theorem headNum_eq (l : List UInt8) (h : l.length = 64) : headNum l = numB (l.take 8) := by
  rw [numB_le, headNum]
  have e : (l.take 8).length = 8 := by simp [h]
  rw [e]
  apply leNum_congr
  intro i hi
  simp only [List.getD_eq_getElem?_getD]
  rw [List.getElem?_take_of_lt (by omega)]
theorem footNum_eq (l : List UInt8) (h : l.length = 64) : footNum l = numB ((l.drop 56).reverse) := by
  rw [numB_le, footNum]
  have e : ((l.drop 56).reverse).length = 8 := by simp [h]
  rw [e]
  apply leNum_congr
  intro i hi
  simp only [List.getD_eq_getElem?_getD]
  rw [List.getElem?_reverse (by simp [h]; omega), List.getElem?_drop]
  congr 2
  simp [h]
  omega
end Go.Proofs.Ytknmbhllinbcjaa
