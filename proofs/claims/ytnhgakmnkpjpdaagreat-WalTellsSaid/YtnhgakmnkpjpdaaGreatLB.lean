import Derived.Test.YtnhgakmnkpjpdaaGreatH0
import Derived.Test.YtnhgakmnkpjpdaaGreatQ2
import Derived.Test.YtnhgakmnkpjpdaaGreatL3
/- Plain laws of leaf: what the document's functions compute, and that the code's leaf is theirs. Numbers of 64 bits; no other condition. -/
set_option linter.unusedVariables false
set_option linter.unusedSimpArgs false
namespace Go.Proofs.YtnhgakmnkpjpdaaGreat
open Go Go.RowKit Go.Proofs.YtnhgakmnkpjpdaaGreatW.PrintWords Go.Proofs.YtnhgakmnkpjpdaaGreat.Q
/-- 48 bytes. -/
def full (l : List UInt8) : List UInt8 := l ++ List.replicate (48 - l.length) 0
theorem full_length (l : List UInt8) (h : l.length ≤ 48) : (full l).length = 48 := by simp [full]; omega
def le8 (n : Nat) : List UInt8 := (List.range 8).map (byteAt n)
def be8 (n : Nat) : List UInt8 := (le8 n).reverse
theorem le8_length (n : Nat) : (le8 n).length = 8 := by simp [le8]
theorem be8_length (n : Nat) : (be8 n).length = 8 := by simp [be8, le8]

theorem full_f (d : Nat) : ∀ (k : Nat) (l : List UInt8), 48 - l.length = d → l.length ≤ 48 → d < k → quittanceref02_Full.l0 k (B l) = some (B (full l)) := by
  induction d with
  | zero =>
    intro k l hd hl hk
    obtain ⟨k, rfl⟩ : ∃ m, k = m + 1 := ⟨k - 1, by omega⟩
    simp only [quittanceref02_Full.l0]
    rw [if_neg (by rw [B_size]; omega)]
    simp [full, hd]
  | succ d ih =>
    intro k l hd hl hk
    obtain ⟨k, rfl⟩ : ∃ m, k = m + 1 := ⟨k - 1, by omega⟩
    simp only [quittanceref02_Full.l0]
    rw [if_pos (by rw [B_size]; omega), if_pos (by rw [B_size]; omega)]
    have e : B l ++ (⟨#[0]⟩ : ByteArray) = B (l ++ [0]) := B_append l [0]
    rw [e, ih k (l ++ [0]) (by simp; omega) (by simp; omega) (by omega)]
    congr 2
    unfold full
    rw [List.append_assoc]
    congr 1
    have : 48 - l.length = (48 - (l ++ [0]).length) + 1 := by simp; omega
    rw [this, List.replicate_succ]
    rfl

theorem byteAt_div (n j : Nat) : byteAt (n / 256) j = byteAt n (j + 1) := by
  unfold byteAt
  rw [Nat.div_div_eq_div_mul, Nat.pow_succ, Nat.mul_comm]
theorem eight_f (d : Nat) : ∀ (k : Nat) (n : Nat) (l : List UInt8) (i : Nat), 8 - i = d → i ≤ 8 → d < k → n < 18446744073709551616 → l.length = i →
    quittanceref02_eight.l0 k n (B l) i = some (B (((List.range d).map (byteAt n)).reverse ++ l)) := by
  induction d with
  | zero =>
    intro k n l i hd hi hk hn hl
    obtain ⟨k, rfl⟩ : ∃ m, k = m + 1 := ⟨k - 1, by omega⟩
    simp only [quittanceref02_eight.l0]
    rw [if_neg (by omega)]
    simp
  | succ d ih =>
    intro k n l i hd hi hk hn hl
    obtain ⟨k, rfl⟩ : ∃ m, k = m + 1 := ⟨k - 1, by omega⟩
    simp only [quittanceref02_eight.l0]
    rw [if_pos (by omega)]
    simp only [Option.bind_some]
    have e1 : Int.tmod (n : Int) 256 % 256 = ((n % 256 : Nat) : Int) := by rw [Int.tmod_eq_emod_of_nonneg (by omega)]; omega
    have e2 : Int.tdiv (n : Int) 256 = ((n / 256 : Nat) : Int) := by rw [Int.tdiv_eq_ediv_of_nonneg (by omega)]; omega
    have e3 : UInt8.ofNat (((n % 256 : Nat) : Int).toNat) = byteAt n 0 := by
      rw [Int.toNat_natCast]
      apply UInt8.toNat_inj.1
      simp [byteAt]
    rw [e1, strOf_one _ (by omega) (by omega), e3, e2, u64w _ (by omega) (by omega), B_append, wrap64_in' _ (by omega) (by omega)]
    rw [if_pos (by simp only [B_size, List.length_cons, List.length_nil]; omega)]
    have h := ih k (n / 256) ([byteAt n 0] ++ l) (i + 1) (by omega) (by omega) (by omega) (by omega) (by simp; omega)
    rw [show ((i : Int) + 1) = ((i + 1 : Nat) : Int) by omega, h]
    congr 2
    rw [List.range_succ_eq_map, List.map_cons, List.reverse_cons, List.append_assoc, List.map_map]
    congr 2
    apply List.map_congr_left
    intro j _
    exact byteAt_div n j

theorem take_reverse (l : List UInt8) (i : Nat) (h : i < l.length) : (l.take (i + 1)).reverse = (l.drop i).take 1 ++ (l.take i).reverse := by
  rw [List.take_succ_eq_append_getElem h, List.reverse_append, List.drop_eq_getElem_cons h]
  rfl
theorem turned_f (d : Nat) : ∀ (k : Nat) (l : List UInt8) (i : Nat), l.length - i = d → i ≤ l.length → d < k → l.length ≤ 4611686018427387904 →
    quittanceref02_turned.l0 k (B l) (B (l.take i).reverse) i = some (B l.reverse) := by
  induction d with
  | zero =>
    intro k l i hd hi hk hl
    obtain ⟨k, rfl⟩ : ∃ m, k = m + 1 := ⟨k - 1, by omega⟩
    simp only [quittanceref02_turned.l0]
    rw [if_neg (by rw [B_size]; omega), List.take_of_length_le (by omega)]
  | succ d ih =>
    intro k l i hd hi hk hl
    obtain ⟨k, rfl⟩ : ∃ m, k = m + 1 := ⟨k - 1, by omega⟩
    simp only [quittanceref02_turned.l0]
    rw [wrap64_in' _ (by omega) (by omega)]
    rw [if_pos (by rw [B_size]; omega), if_pos (by omega), if_pos (by omega), if_pos (by rw [B_size]; omega)]
    rw [show ((i : Int) + 1) = ((i + 1 : Nat) : Int) by omega, Int.toNat_natCast, Int.toNat_natCast, B_extract, B_append, show i + 1 - i = 1 by omega, ← take_reverse l i (by omega)]
    rw [if_pos (by simp only [B_size, List.length_take, List.length_drop, List.length_reverse]; omega)]
    exact ih k l (i + 1) (by omega) (by omega) (by omega) hl

theorem snoc_rec {α : Type} {P : List α → Prop} (h0 : P []) (h1 : ∀ l a, P l → P (l ++ [a])) (l : List α) : P l := by
  have h : ∀ m : List α, P m.reverse := by
    intro m
    induction m with
    | nil => exact h0
    | cons a m ih => rw [List.reverse_cons]; exact h1 _ a ih
  have := h l.reverse
  rwa [List.reverse_reverse] at this
/-- The number of some bytes, the highest first. -/
def numB (l : List UInt8) : Nat := l.foldl (fun n c => 256 * n + c.toNat) 0
theorem numB_snoc (l : List UInt8) (c : UInt8) : numB (l ++ [c]) = 256 * numB l + c.toNat := by simp [numB]
theorem numB_lt (l : List UInt8) : numB l < 256 ^ l.length := by
  refine snoc_rec (P := fun l => numB l < 256 ^ l.length) ?_ ?_ l
  · simp [numB]
  · intro l c ih
    rw [numB_snoc, List.length_append, List.length_singleton, Nat.pow_succ]
    have := c.toNat_lt
    omega
theorem number_f (d : Nat) : ∀ (k : Nat) (l : List UInt8) (i : Nat), l.length - i = d → i ≤ l.length → d < k → l.length ≤ 8 →
    quittanceref02_number.l0 k (B l) ((numB (l.take i) : Nat) : Int) i = some ((numB l : Nat) : Int) := by
  induction d with
  | zero =>
    intro k l i hd hi hk hl
    obtain ⟨k, rfl⟩ : ∃ m, k = m + 1 := ⟨k - 1, by omega⟩
    simp only [quittanceref02_number.l0]
    rw [if_neg (by rw [B_size]; omega), List.take_of_length_le (by omega)]
  | succ d ih =>
    intro k l i hd hi hk hl
    obtain ⟨k, rfl⟩ : ∃ m, k = m + 1 := ⟨k - 1, by omega⟩
    simp only [quittanceref02_number.l0]
    have hlt : i < l.length := by omega
    have hg : l.getD (i : Int).toNat 0 = l[i] := by rw [Int.toNat_natCast, List.getD_eq_getElem?_getD, List.getElem?_eq_getElem hlt]; rfl
    have hs := numB_snoc (l.take i) l[i]
    rw [← List.take_succ_eq_append_getElem hlt] at hs
    have hb := numB_lt (l.take (i + 1))
    have hp := le256 (i + 1) (by omega)
    rw [List.length_take, Nat.min_eq_left (by omega)] at hb
    have hc := (l[i]).toNat_lt
    have e1 : IntKind.u64.wrap (256 * ((numB (l.take i) : Nat) : Int)) = 256 * ((numB (l.take i) : Nat) : Int) := u64w _ (by omega) (by omega)
    have e2 : IntKind.u64.wrap (((l[i]).toNat : Nat) : Int) = (l[i]).toNat := u64w _ (by omega) (by omega)
    rw [if_pos (by rw [B_size]; omega), if_pos (by omega), bt_B, hg, e1, e2, u64w _ (by omega) (by omega), wrap64_in' _ (by omega) (by omega)]
    rw [show ((i : Int) + 1) = ((i + 1 : Nat) : Int) by omega, show (256 * (numB (l.take i) : Int) + ((l[i]).toNat : Int)) = ((numB (l.take (i + 1)) : Nat) : Int) by omega]
    exact ih k l (i + 1) (by omega) (by omega) (by omega) hl
theorem leNum_low (f : Nat → UInt8) : ∀ j, leNum f (j + 1) = (f 0).toNat + 256 * leNum (fun i => f (i + 1)) j
  | 0 => by simp [leNum]
  | j + 1 => by
    rw [leNum, leNum_low f j, leNum, Nat.pow_succ, Nat.mul_add]
    have : (f (j + 1)).toNat * (256 ^ j * 256) = 256 * ((f (j + 1)).toNat * 256 ^ j) := by rw [Nat.mul_comm (256 ^ j) 256, Nat.mul_left_comm]
    omega
theorem leNum_congr {f g : Nat → UInt8} : ∀ {j : Nat}, (∀ i, i < j → f i = g i) → leNum f j = leNum g j
  | 0, _ => rfl
  | j + 1, h => by rw [leNum, leNum, leNum_congr (fun i hi => h i (by omega)), h j (by omega)]
theorem numB_le (l : List UInt8) : numB l = leNum (fun i => l.getD (l.length - 1 - i) 0) l.length := by
  refine snoc_rec (P := fun l => numB l = leNum (fun i => l.getD (l.length - 1 - i) 0) l.length) rfl ?_ l
  · intro l c ih
    rw [numB_snoc, List.length_append, List.length_singleton, leNum_low, ih]
    have e0 : (l ++ [c]).getD (l.length + 1 - 1 - 0) 0 = c := by simp [List.getD_eq_getElem?_getD]
    rw [e0]
    have e : leNum (fun i => (l ++ [c]).getD (l.length + 1 - 1 - (i + 1)) 0) l.length = leNum (fun i => l.getD (l.length - 1 - i) 0) l.length := by
      apply leNum_congr
      intro i hi
      simp only [List.getD_eq_getElem?_getD]
      rw [List.getElem?_append_left (by omega)]
      congr 2
      omega
    rw [e]
    omega
theorem headNum_eq (l : List UInt8) (h : l.length = 64) : headNum l = numB (l.take 8) := by
  rw [numB_le, headNum]
  have e : (l.take 8).length = 8 := by simp [h]
  rw [e]
  apply leNum_congr
  intro i hi
  simp only [List.getD_eq_getElem?_getD]
  rw [List.getElem?_take_of_lt (by omega)]
theorem footNum_eq (l : List UInt8) (h : l.length = 64) : footNum l = numB ((l.drop 56).reverse) := by
  rw [numB_le, footNum]
  have e : ((l.drop 56).reverse).length = 8 := by simp [h]
  rw [e]
  apply leNum_congr
  intro i hi
  simp only [List.getD_eq_getElem?_getD]
  rw [List.getElem?_reverse (by simp [h]; omega), List.getElem?_drop]
  congr 2
  simp [h]
  omega
end Go.Proofs.YtnhgakmnkpjpdaaGreat

/- Plain laws of leaf: Put, Ends and Get of the document and of the code are one. Numbers of 64 bits; no other condition. -/
set_option linter.unusedVariables false
set_option linter.unusedSimpArgs false
namespace Go.Proofs.YtnhgakmnkpjpdaaGreat
open Go Go.RowKit Go.Proofs.YtnhgakmnkpjpdaaGreatW.PrintWords Go.Proofs.YtnhgakmnkpjpdaaGreat.Q
theorem byteAt8 (n : Nat) : le8 n = [byteAt n 0, byteAt n 1, byteAt n 2, byteAt n 3, byteAt n 4, byteAt n 5, byteAt n 6, byteAt n 7] := rfl
theorem stampL_eq (X : List UInt8) (hX : X.length = 48) (n : Nat) : stampL (List.replicate 8 0 ++ X ++ List.replicate 8 0) n 8 = be8 n ++ X ++ le8 n := by
  have e : List.replicate 8 (0 : UInt8) = [0, 0, 0, 0, 0, 0, 0, 0] := rfl
  rw [e, be8, byteAt8]
  simp only [stampL, List.append_assoc]
  simp [List.set_append, hX]
theorem leafL_eq (n : Nat) (l : List UInt8) (h : l.length ≤ 48) : leafL n l = be8 n ++ full l ++ le8 n := by
  rw [← stampL_eq (full l) (full_length l h), leafL]
  congr 1
  rw [List.take_of_length_le (by omega), full]
  have e : 56 - l.length = (48 - l.length) + 8 := by omega
  rw [e, ← List.replicate_append_replicate]
  simp only [List.append_assoc]
theorem Full_f {k : Nat} (l : List UInt8) (h : l.length ≤ 48) (hk : 49 ≤ k) : quittanceref02_Full.f k (B l) = some (B (full l)) :=
  full_f (48 - l.length) k l rfl h (by omega)
theorem Eight_f {k : Nat} (n : Nat) (hn : n < 18446744073709551616) (hk : 9 ≤ k) : quittanceref02_eight.f k n = some (B (be8 n)) := by
  have h := eight_f 8 k n [] 0 (by omega) (by omega) (by omega) hn rfl
  unfold quittanceref02_eight.f
  rw [B_nil]
  have e : ((0 : Nat) : Int) = 0 := rfl
  rw [e] at h
  rw [h, List.append_nil]
  rfl
theorem Turned_f {k : Nat} (l : List UInt8) (hl : l.length ≤ 4611686018427387904) (hk : l.length < k) : quittanceref02_turned.f k (B l) = some (B l.reverse) := by
  have h := turned_f (l.length) k l 0 (by omega) (by omega) hk hl
  unfold quittanceref02_turned.f
  rw [B_nil]
  exact h
theorem Number_f {k : Nat} (l : List UInt8) (hl : l.length ≤ 8) (hk : 9 ≤ k) : quittanceref02_number.f k (B l) = some ((numB l : Nat) : Int) := by
  have h := number_f (l.length) k l 0 (by omega) (by omega) (by omega) hl
  unfold quittanceref02_number.f
  exact h
theorem refPut {k : Nat} (n : Nat) (l : List UInt8) (h0 : n ≠ 0) (hn : n < 18446744073709551616) (hl : l.length ≤ 48) (hk : 49 ≤ k) :
    quittanceref02_Put.f k n (B l) = some (B (be8 n ++ full l ++ le8 n), 0) := by
  unfold quittanceref02_Put.f
  rw [if_neg (by omega), if_neg (by rw [B_size]; omega), Eight_f n hn (by omega)]
  simp only [Option.bind_some]
  rw [Full_f l hl hk]
  simp only [Option.bind_some]
  have h1 := be8_length n
  have h2 := full_length l hl
  have h3 := le8_length n
  rw [if_pos (by simp only [B_size]; omega), Turned_f _ (by omega) (by omega)]
  simp only [Option.bind_some]
  have e : (be8 n).reverse = le8 n := by simp [be8]
  rw [e, B_append, B_append, if_pos (by simp only [B_size, List.length_append]; omega)]
end Go.Proofs.YtnhgakmnkpjpdaaGreat

/- Plain laws of leaf: Ends and Get of the document and of the code are one. No condition. -/
set_option linter.unusedVariables false
set_option linter.unusedSimpArgs false
namespace Go.Proofs.YtnhgakmnkpjpdaaGreat
open Go Go.RowKit Go.Proofs.YtnhgakmnkpjpdaaGreatW.PrintWords Go.Proofs.YtnhgakmnkpjpdaaGreat.Q
theorem leNum_byte : ∀ (m : Nat) (f : Nat → UInt8) (j : Nat), j < m → byteAt (leNum f m) j = f j
  | 0, _, _, h => by omega
  | m + 1, f, j, h => by
    rw [leNum_low]
    have hb := (f 0).toNat_lt
    cases j with
    | zero =>
      unfold byteAt
      rw [Nat.pow_zero, Nat.div_one]
      apply UInt8.toNat_inj.1
      rw [UInt8.toNat_ofNat']
      omega
    | succ j =>
      have ih := leNum_byte m (fun i => f (i + 1)) j (by omega)
      rw [← byteAt_div]
      have e : ((f 0).toNat + 256 * leNum (fun i => f (i + 1)) m) / 256 = leNum (fun i => f (i + 1)) m := by omega
      rw [e, ih]
theorem be8_numB (l : List UInt8) (h : l.length = 8) : be8 (numB l) = l := by
  rw [numB_le, h, be8, byteAt8]
  have hb : ∀ j, j < 8 → byteAt (leNum (fun i => l.getD (8 - 1 - i) 0) 8) j = l.getD (8 - 1 - j) 0 := fun j hj => leNum_byte 8 _ j hj
  rw [hb 0 (by decide), hb 1 (by decide), hb 2 (by decide), hb 3 (by decide), hb 4 (by decide), hb 5 (by decide), hb 6 (by decide), hb 7 (by decide)]
  match l, h with
  | [a, b, c, d, e, f, g, i], _ => rfl
theorem numB_be8 (n : Nat) (hn : n < 18446744073709551616) : numB (be8 n) = n := by
  have h1 := numB_le (be8 n)
  rw [be8_length] at h1
  rw [h1]
  have key : ∀ (m : Nat) (n : Nat), n < 256 ^ m → leNum (byteAt n) m = n := by
    intro m
    induction m with
    | zero => intro n hn; simp at hn; simp [leNum, hn]
    | succ m ih =>
      intro n hn
      rw [leNum_low]
      have e : (fun i => byteAt n (i + 1)) = byteAt (n / 256) := by funext i; rw [byteAt_div]
      rw [e, ih (n / 256) (by rw [Nat.pow_succ] at hn; omega)]
      have e0 : (byteAt n 0).toNat = n % 256 := by simp [byteAt]
      omega
  have e : leNum (fun i => (be8 n).getD (8 - 1 - i) 0) 8 = leNum (byteAt n) 8 := by
    apply leNum_congr
    intro i hi
    rw [be8, byteAt8]
    match i, hi with
    | 0, _ => rfl
    | 1, _ => rfl
    | 2, _ => rfl
    | 3, _ => rfl
    | 4, _ => rfl
    | 5, _ => rfl
    | 6, _ => rfl
    | 7, _ => rfl
  rw [e]
  exact key 8 n (by simpa using hn)
theorem headNum_lt (l : List UInt8) : headNum l < 18446744073709551616 := Nat.lt_of_lt_of_le (leNum_lt _ 8) (by decide)
theorem ends_one {k : Nat} (s : ByteArray) (hk : 9 ≤ k) : quittanceref02_Ends.f k s = leaf_Ends.f s := by
  obtain ⟨l, rfl, _⟩ := B_ex s
  unfold quittanceref02_Ends.f leaf_Ends.f
  rw [B_size, B_data]
  by_cases h : l.length = 64
  · rw [if_pos (by omega), if_pos h, if_pos (by omega), if_pos (by omega), B_extract, B_extract]
    rw [Number_f _ (by simp; omega) hk]
    simp only [Option.bind_some]
    rw [if_pos (by omega), Turned_f _ (by simp [h]) (by simp [h]; omega)]
    simp only [Option.bind_some]
    rw [Number_f _ (by simp [h]) hk]
    simp only [Option.bind_some]
    rw [headNum_eq l h, footNum_eq l h, h]
    have e1 : ((l.drop 0).take (8 - 0)) = l.take 8 := rfl
    have e2 : ((l.drop 56).take (64 - 56)) = l.drop 56 := List.take_of_length_le (by simp [h])
    rw [e1, e2]
  · rw [if_neg (by omega), if_neg h]
theorem split64 (l : List UInt8) (h : l.length = 64) : l = l.take 8 ++ (l.drop 8).take 48 ++ l.drop 56 := by
  have h1 : l = l.take 8 ++ l.drop 8 := (List.take_append_drop 8 l).symm
  have h2 : l.drop 8 = (l.drop 8).take 48 ++ (l.drop 8).drop 48 := (List.take_append_drop 48 _).symm
  rw [List.drop_drop] at h2
  rw [List.append_assoc, ← h2, ← h1]
theorem full48 (X : List UInt8) (h : X.length = 48) : full X = X := by simp [full, h]
/-- A leaf is of its stamp just if the foot tells the head's number. -/
theorem leaf_iff (l : List UInt8) (h : l.length = 64) : be8 (headNum l) ++ full ((l.drop 8).take 48) ++ le8 (headNum l) = l ↔ footNum l = headNum l := by
  have hX : ((l.drop 8).take 48).length = 48 := by simp [h]
  have h8 : (l.take 8).length = 8 := by simp [h]
  have f8 : ((l.drop 56).reverse).length = 8 := by simp [h]
  have e1 : be8 (headNum l) = l.take 8 := by rw [headNum_eq l h, be8_numB _ h8]
  have e2 : be8 (footNum l) = (l.drop 56).reverse := by rw [footNum_eq l h, be8_numB _ f8]
  have hle : ∀ n, le8 n = (be8 n).reverse := fun n => by rw [be8, List.reverse_reverse]
  rw [full48 _ hX, e1]
  constructor
  · intro hh
    have h3 := split64 l h
    rw [h3] at hh
    have h4 : le8 (headNum l) = l.drop 56 := by
      have := List.append_inj_right hh (by simp [h])
      rw [← h3] at this
      exact this
    have h5 : be8 (headNum l) = (l.drop 56).reverse := by rw [← h4, hle, List.reverse_reverse]
    have h6 := congrArg numB h5
    rw [numB_be8 _ (headNum_lt l), ← footNum_eq l h] at h6
    exact h6.symm
  · intro hh
    rw [← hh, hle, e2, List.reverse_reverse]
    exact (split64 l h).symm
theorem get_no {k : Nat} (s : ByteArray) (m : Int) (h : quittanceref02_Ends.f k s = some (0, m)) : quittanceref02_Get.f k s = some (0, B [], false) := by
  unfold quittanceref02_Get.f
  rw [h]
  simp only [Option.bind_some]
  rw [if_pos trivial]
  rfl
theorem get_yes {k : Nat} (l : List UInt8) (hl : l.length = 64) (n : Nat) (m : Int) (h : quittanceref02_Ends.f k (B l) = some ((n : Int), m)) (h0 : n ≠ 0) (hn : n < 18446744073709551616) (hk : 49 ≤ k) :
    quittanceref02_Get.f k (B l) = if be8 n ++ full ((l.drop 8).take 48) ++ le8 n = l then some ((n : Int), (B l).extract 8 56, true) else some (0, B [], false) := by
  unfold quittanceref02_Get.f
  rw [h]
  simp only [Option.bind_some]
  rw [if_neg (by omega), if_pos (by omega), if_pos (by rw [B_size]; omega), B_extract]
  have hX : ((l.drop 8).take (56 - 8)).length ≤ 48 := by simp; omega
  rw [refPut n _ h0 hn hX hk]
  simp only [Option.bind_some]
  rw [B_toList, B_toList]
  rfl
theorem get_one {k : Nat} (s : ByteArray) (hk : 49 ≤ k) : quittanceref02_Get.f k s = leaf_Get.f s := by
  obtain ⟨l, rfl, _⟩ := B_ex s
  have he := ends_one (k := k) (B l) (by omega)
  unfold leaf_Ends.f at he
  unfold leaf_Get.f
  rw [B_size, B_data] at he ⊢
  by_cases h : l.length = 64
  · rw [if_pos h] at he
    by_cases h0 : headNum l = 0
    · rw [if_neg (fun hh => hh.2.1 h0)]
      rw [h0] at he
      exact get_no _ _ he
    · rw [get_yes l h _ _ he h0 (headNum_lt l) hk]
      by_cases hf : footNum l = headNum l
      · rw [if_pos ((leaf_iff l h).2 hf), if_pos ⟨h, h0, hf⟩]
      · rw [if_neg (fun e => hf ((leaf_iff l h).1 e)), if_neg (fun hh => hf hh.2.2)]
        rfl
  · rw [if_neg h] at he
    rw [if_neg (fun hh => h hh.1)]
    exact get_no _ _ he
end Go.Proofs.YtnhgakmnkpjpdaaGreat

/- LeafBack: a leaf that was put is got back; each byte of its ends counts. -/
set_option linter.unusedVariables false
set_option linter.unusedSimpArgs false
namespace Go.Proofs.YtnhgakmnkpjpdaaGreat.Pure
open Go Go.RowKit Go.Proofs.YtnhgakmnkpjpdaaGreat.Q Go.Proofs.YtnhgakmnkpjpdaaGreatW.PrintWords Go.Proofs.YtnhgakmnkpjpdaaGreatW.PrintLast
def leafOf (n : Nat) (l : List UInt8) : List UInt8 := be8 n ++ full l ++ le8 n
theorem leafOf_length (n : Nat) (l : List UInt8) (h : l.length ≤ 48) : (leafOf n l).length = 64 := by
  unfold leafOf; rw [List.length_append, List.length_append, be8_length, le8_length, full_length l h]
theorem leafOf_take (n : Nat) (l : List UInt8) : (leafOf n l).take 8 = be8 n := by
  unfold leafOf; rw [List.append_assoc, List.take_append_of_le_length (by rw [be8_length]; exact Nat.le_refl _), List.take_of_length_le (by rw [be8_length]; exact Nat.le_refl _)]
theorem leafOf_drop8 (n : Nat) (l : List UInt8) (h : l.length ≤ 48) : ((leafOf n l).drop 8).take 48 = full l := by
  unfold leafOf; rw [List.append_assoc, List.drop_append_of_le_length (by rw [be8_length]; exact Nat.le_refl _), List.drop_of_length_le (by rw [be8_length]; exact Nat.le_refl _), List.nil_append,
    List.take_append_of_le_length (by rw [full_length l h]; exact Nat.le_refl _), List.take_of_length_le (by rw [full_length l h]; exact Nat.le_refl _)]
theorem leafOf_drop56 (n : Nat) (l : List UInt8) (h : l.length ≤ 48) : (leafOf n l).drop 56 = le8 n := by
  unfold leafOf
  have h1 : (be8 n ++ full l).length = 56 := by rw [List.length_append, be8_length, full_length l h]
  rw [List.drop_append_of_le_length (by omega), List.drop_of_length_le (by omega), List.nil_append]
theorem leafOf_head (n : Nat) (l : List UInt8) (h : l.length ≤ 48) (hn : n < 18446744073709551616) : headNum (leafOf n l) = n := by
  rw [headNum_eq _ (leafOf_length n l h), leafOf_take, numB_be8 n hn]
theorem leafOf_foot (n : Nat) (l : List UInt8) (h : l.length ≤ 48) (hn : n < 18446744073709551616) : footNum (leafOf n l) = n := by
  rw [footNum_eq _ (leafOf_length n l h), leafOf_drop56 n l h]
  exact numB_be8 n hn
theorem get_leafOf (n : Nat) (l : List UInt8) (h0 : n ≠ 0) (h : l.length ≤ 48) (hn : n < 18446744073709551616) : leaf_Get.f (B (leafOf n l)) = some ((n : Int), B (full l), true) := by
  unfold leaf_Get.f
  rw [B_size, B_data, if_pos ⟨leafOf_length n l h, by rw [leafOf_head n l h hn]; exact h0, by rw [leafOf_head n l h hn, leafOf_foot n l h hn]⟩, leafOf_head n l h hn, B_extract, leafOf_drop8 n l h]
end Go.Proofs.YtnhgakmnkpjpdaaGreat.Pure

/- Leaves torn: beginnings of leaves over beginnings (plain). -/
set_option linter.unusedVariables false
set_option linter.unusedSimpArgs false
set_option linter.unusedSectionVars false
namespace Go.Proofs.YtnhgakmnkpjpdaaGreat.Pure
open Go Go.RowKit Go.Proofs.YtnhgakmnkpjpdaaGreat.Q Go.Proofs.YtnhgakmnkpjpdaaGreatW.PrintWords Go.Proofs.YtnhgakmnkpjpdaaGreatW.PrintLast
def torn (s : Nat) (S : List UInt8) (n : Nat) (L : List UInt8) : List UInt8 := (leafOf s S).take n ++ L.drop n
section
variable {s n : Nat} {S L : List UInt8} (hS : S.length ≤ 48) (hs : s < 18446744073709551616) (hL : L.length = 64) (hn : n ≤ 64)
include hS hL hn
end
end Go.Proofs.YtnhgakmnkpjpdaaGreat.Pure
