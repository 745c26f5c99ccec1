import Derived.Test.YtnhgakmnkpjpdaaH0
import Derived.Test.YtnhgakmnkpjpdaaQ2
import Derived.Test.YtnhgakmnkpjpdaaL3
/- Plain laws of leaf: what the document's functions compute, and that the code's leaf is theirs. Numbers of 64 bits; no other condition. -/
set_option linter.unusedVariables false
set_option linter.unusedSimpArgs false
namespace Go.Proofs.Ytnhgakmnkpjpdaa
open Go Go.RowKit Go.Proofs.YtnhgakmnkpjpdaaW.PrintWords Go.Proofs.Ytnhgakmnkpjpdaa.Q
/-- 48 bytes. -/
def full (l : List UInt8) : List UInt8 := l ++ List.replicate (48 - l.length) 0
theorem full_length (l : List UInt8) (h : l.length ≤ 48) : (full l).length = 48 := by simp [full]; omega
def le8 (n : Nat) : List UInt8 := (List.range 8).map (byteAt n)
def be8 (n : Nat) : List UInt8 := (le8 n).reverse
theorem le8_length (n : Nat) : (le8 n).length = 8 := by simp [le8]
theorem be8_length (n : Nat) : (be8 n).length = 8 := by simp [be8, le8]

theorem byteAt_div (n j : Nat) : byteAt (n / 256) j = byteAt n (j + 1) := by
  unfold byteAt
  rw [Nat.div_div_eq_div_mul, Nat.pow_succ, Nat.mul_comm]
theorem snoc_rec {α : Type} {P : List α → Prop} (h0 : P []) (h1 : ∀ l a, P l → P (l ++ [a])) (l : List α) : P l := by
  have h : ∀ m : List α, P m.reverse := by
    intro m
    induction m with
    | nil => exact h0
    | cons a m ih => rw [List.reverse_cons]; exact h1 _ a ih
  have := h l.reverse
  rwa [List.reverse_reverse] at this
/-- The number of some bytes, the highest first. -/
def numB (l : List UInt8) : Nat := l.foldl (fun n c => 256 * n + c.toNat) 0
theorem numB_snoc (l : List UInt8) (c : UInt8) : numB (l ++ [c]) = 256 * numB l + c.toNat := by simp [numB]
theorem numB_lt (l : List UInt8) : numB l < 256 ^ l.length := by
  refine snoc_rec (P := fun l => numB l < 256 ^ l.length) ?_ ?_ l
  · simp [numB]
  · intro l c ih
    rw [numB_snoc, List.length_append, List.length_singleton, Nat.pow_succ]
    have := c.toNat_lt
    omega
theorem leNum_low (f : Nat → UInt8) : ∀ j, leNum f (j + 1) = (f 0).toNat + 256 * leNum (fun i => f (i + 1)) j
  | 0 => by simp [leNum]
  | j + 1 => by
    rw [leNum, leNum_low f j, leNum, Nat.pow_succ, Nat.mul_add]
    have : (f (j + 1)).toNat * (256 ^ j * 256) = 256 * ((f (j + 1)).toNat * 256 ^ j) := by rw [Nat.mul_comm (256 ^ j) 256, Nat.mul_left_comm]
    omega
theorem leNum_congr {f g : Nat → UInt8} : ∀ {j : Nat}, (∀ i, i < j → f i = g i) → leNum f j = leNum g j
  | 0, _ => rfl
  | j + 1, h => by rw [leNum, leNum, leNum_congr (fun i hi => h i (by omega)), h j (by omega)]
theorem numB_le (l : List UInt8) : numB l = leNum (fun i => l.getD (l.length - 1 - i) 0) l.length := by
  refine snoc_rec (P := fun l => numB l = leNum (fun i => l.getD (l.length - 1 - i) 0) l.length) rfl ?_ l
  · intro l c ih
    rw [numB_snoc, List.length_append, List.length_singleton, leNum_low, ih]
    have e0 : (l ++ [c]).getD (l.length + 1 - 1 - 0) 0 = c := by simp [List.getD_eq_getElem?_getD]
    rw [e0]
    have e : leNum (fun i => (l ++ [c]).getD (l.length + 1 - 1 - (i + 1)) 0) l.length = leNum (fun i => l.getD (l.length - 1 - i) 0) l.length := by
      apply leNum_congr
      intro i hi
      simp only [List.getD_eq_getElem?_getD]
      rw [List.getElem?_append_left (by omega)]
      congr 2
      omega
    rw [e]
    omega
theorem headNum_eq (l : List UInt8) (h : l.length = 64) : headNum l = numB (l.take 8) := by
  rw [numB_le, headNum]
  have e : (l.take 8).length = 8 := by simp [h]
  rw [e]
  apply leNum_congr
  intro i hi
  simp only [List.getD_eq_getElem?_getD]
  rw [List.getElem?_take_of_lt (by omega)]
theorem footNum_eq (l : List UInt8) (h : l.length = 64) : footNum l = numB ((l.drop 56).reverse) := by
  rw [numB_le, footNum]
  have e : ((l.drop 56).reverse).length = 8 := by simp [h]
  rw [e]
  apply leNum_congr
  intro i hi
  simp only [List.getD_eq_getElem?_getD]
  rw [List.getElem?_reverse (by simp [h]; omega), List.getElem?_drop]
  congr 2
  simp [h]
  omega
end Go.Proofs.Ytnhgakmnkpjpdaa

/- Plain laws of leaf: Put, Ends and Get of the document and of the code are one. Numbers of 64 bits; no other condition. -/
set_option linter.unusedVariables false
set_option linter.unusedSimpArgs false
namespace Go.Proofs.Ytnhgakmnkpjpdaa
open Go Go.RowKit Go.Proofs.YtnhgakmnkpjpdaaW.PrintWords Go.Proofs.Ytnhgakmnkpjpdaa.Q
theorem byteAt8 (n : Nat) : le8 n = [byteAt n 0, byteAt n 1, byteAt n 2, byteAt n 3, byteAt n 4, byteAt n 5, byteAt n 6, byteAt n 7] := rfl
theorem stampL_eq (X : List UInt8) (hX : X.length = 48) (n : Nat) : stampL (List.replicate 8 0 ++ X ++ List.replicate 8 0) n 8 = be8 n ++ X ++ le8 n := by
  have e : List.replicate 8 (0 : UInt8) = [0, 0, 0, 0, 0, 0, 0, 0] := rfl
  rw [e, be8, byteAt8]
  simp only [stampL, List.append_assoc]
  simp [List.set_append, hX]
theorem leafL_eq (n : Nat) (l : List UInt8) (h : l.length ≤ 48) : leafL n l = be8 n ++ full l ++ le8 n := by
  rw [← stampL_eq (full l) (full_length l h), leafL]
  congr 1
  rw [List.take_of_length_le (by omega), full]
  have e : 56 - l.length = (48 - l.length) + 8 := by omega
  rw [e, ← List.replicate_append_replicate]
  simp only [List.append_assoc]
theorem wf_u64 {n : Int} (h : (Lit.int .u64 n).wf = true) : 0 ≤ n ∧ n < 18446744073709551616 := by
  have hmin : IntKind.u64.min = 0 := rfl
  have hmax : IntKind.u64.max = 18446744073709551615 := rfl
  simp only [Lit.wf, Bool.and_eq_true, decide_eq_true_eq] at h
  omega
end Go.Proofs.Ytnhgakmnkpjpdaa

/- Plain laws of leaf: Ends and Get of the document and of the code are one. No condition. -/
set_option linter.unusedVariables false
set_option linter.unusedSimpArgs false
namespace Go.Proofs.Ytnhgakmnkpjpdaa
open Go Go.RowKit Go.Proofs.YtnhgakmnkpjpdaaW.PrintWords Go.Proofs.Ytnhgakmnkpjpdaa.Q
theorem leNum_byte : ∀ (m : Nat) (f : Nat → UInt8) (j : Nat), j < m → byteAt (leNum f m) j = f j
  | 0, _, _, h => by omega
  | m + 1, f, j, h => by
    rw [leNum_low]
    have hb := (f 0).toNat_lt
    cases j with
    | zero =>
      unfold byteAt
      rw [Nat.pow_zero, Nat.div_one]
      apply UInt8.toNat_inj.1
      rw [UInt8.toNat_ofNat']
      omega
    | succ j =>
      have ih := leNum_byte m (fun i => f (i + 1)) j (by omega)
      rw [← byteAt_div]
      have e : ((f 0).toNat + 256 * leNum (fun i => f (i + 1)) m) / 256 = leNum (fun i => f (i + 1)) m := by omega
      rw [e, ih]
theorem be8_numB (l : List UInt8) (h : l.length = 8) : be8 (numB l) = l := by
  rw [numB_le, h, be8, byteAt8]
  have hb : ∀ j, j < 8 → byteAt (leNum (fun i => l.getD (8 - 1 - i) 0) 8) j = l.getD (8 - 1 - j) 0 := fun j hj => leNum_byte 8 _ j hj
  rw [hb 0 (by decide), hb 1 (by decide), hb 2 (by decide), hb 3 (by decide), hb 4 (by decide), hb 5 (by decide), hb 6 (by decide), hb 7 (by decide)]
  match l, h with
  | [a, b, c, d, e, f, g, i], _ => rfl
theorem numB_be8 (n : Nat) (hn : n < 18446744073709551616) : numB (be8 n) = n := by
  have h1 := numB_le (be8 n)
  rw [be8_length] at h1
  rw [h1]
  have key : ∀ (m : Nat) (n : Nat), n < 256 ^ m → leNum (byteAt n) m = n := by
    intro m
    induction m with
    | zero => intro n hn; simp at hn; simp [leNum, hn]
    | succ m ih =>
      intro n hn
      rw [leNum_low]
      have e : (fun i => byteAt n (i + 1)) = byteAt (n / 256) := by funext i; rw [byteAt_div]
      rw [e, ih (n / 256) (by rw [Nat.pow_succ] at hn; omega)]
      have e0 : (byteAt n 0).toNat = n % 256 := by simp [byteAt]
      omega
  have e : leNum (fun i => (be8 n).getD (8 - 1 - i) 0) 8 = leNum (byteAt n) 8 := by
    apply leNum_congr
    intro i hi
    rw [be8, byteAt8]
    match i, hi with
    | 0, _ => rfl
    | 1, _ => rfl
    | 2, _ => rfl
    | 3, _ => rfl
    | 4, _ => rfl
    | 5, _ => rfl
    | 6, _ => rfl
    | 7, _ => rfl
  rw [e]
  exact key 8 n (by simpa using hn)
theorem headNum_lt (l : List UInt8) : headNum l < 18446744073709551616 := Nat.lt_of_lt_of_le (leNum_lt _ 8) (by decide)
theorem split64 (l : List UInt8) (h : l.length = 64) : l = l.take 8 ++ (l.drop 8).take 48 ++ l.drop 56 := by
  have h1 : l = l.take 8 ++ l.drop 8 := (List.take_append_drop 8 l).symm
  have h2 : l.drop 8 = (l.drop 8).take 48 ++ (l.drop 8).drop 48 := (List.take_append_drop 48 _).symm
  rw [List.drop_drop] at h2
  rw [List.append_assoc, ← h2, ← h1]
theorem full48 (X : List UInt8) (h : X.length = 48) : full X = X := by simp [full, h]
/-- A leaf is of its stamp just if the foot tells the head's number. -/
theorem leaf_iff (l : List UInt8) (h : l.length = 64) : be8 (headNum l) ++ full ((l.drop 8).take 48) ++ le8 (headNum l) = l ↔ footNum l = headNum l := by
  have hX : ((l.drop 8).take 48).length = 48 := by simp [h]
  have h8 : (l.take 8).length = 8 := by simp [h]
  have f8 : ((l.drop 56).reverse).length = 8 := by simp [h]
  have e1 : be8 (headNum l) = l.take 8 := by rw [headNum_eq l h, be8_numB _ h8]
  have e2 : be8 (footNum l) = (l.drop 56).reverse := by rw [footNum_eq l h, be8_numB _ f8]
  have hle : ∀ n, le8 n = (be8 n).reverse := fun n => by rw [be8, List.reverse_reverse]
  rw [full48 _ hX, e1]
  constructor
  · intro hh
    have h3 := split64 l h
    rw [h3] at hh
    have h4 : le8 (headNum l) = l.drop 56 := by
      have := List.append_inj_right hh (by simp [h])
      rw [← h3] at this
      exact this
    have h5 : be8 (headNum l) = (l.drop 56).reverse := by rw [← h4, hle, List.reverse_reverse]
    have h6 := congrArg numB h5
    rw [numB_be8 _ (headNum_lt l), ← footNum_eq l h] at h6
    exact h6.symm
  · intro hh
    rw [← hh, hle, e2, List.reverse_reverse]
    exact (split64 l h).symm
end Go.Proofs.Ytnhgakmnkpjpdaa

/- LeafBack: a leaf that was put is got back; each byte of its ends counts. -/
set_option linter.unusedVariables false
set_option linter.unusedSimpArgs false
namespace Go.Proofs.Ytnhgakmnkpjpdaa.Pure
open Go Go.RowKit Go.Proofs.Ytnhgakmnkpjpdaa.Q Go.Proofs.YtnhgakmnkpjpdaaW.PrintWords Go.Proofs.YtnhgakmnkpjpdaaW.PrintLast
def leafOf (n : Nat) (l : List UInt8) : List UInt8 := be8 n ++ full l ++ le8 n
theorem leafOf_length (n : Nat) (l : List UInt8) (h : l.length ≤ 48) : (leafOf n l).length = 64 := by
  unfold leafOf; rw [List.length_append, List.length_append, be8_length, le8_length, full_length l h]
theorem leafOf_take (n : Nat) (l : List UInt8) : (leafOf n l).take 8 = be8 n := by
  unfold leafOf; rw [List.append_assoc, List.take_append_of_le_length (by rw [be8_length]; exact Nat.le_refl _), List.take_of_length_le (by rw [be8_length]; exact Nat.le_refl _)]
theorem leafOf_drop8 (n : Nat) (l : List UInt8) (h : l.length ≤ 48) : ((leafOf n l).drop 8).take 48 = full l := by
  unfold leafOf; rw [List.append_assoc, List.drop_append_of_le_length (by rw [be8_length]; exact Nat.le_refl _), List.drop_of_length_le (by rw [be8_length]; exact Nat.le_refl _), List.nil_append,
    List.take_append_of_le_length (by rw [full_length l h]; exact Nat.le_refl _), List.take_of_length_le (by rw [full_length l h]; exact Nat.le_refl _)]
theorem leafOf_drop56 (n : Nat) (l : List UInt8) (h : l.length ≤ 48) : (leafOf n l).drop 56 = le8 n := by
  unfold leafOf
  have h1 : (be8 n ++ full l).length = 56 := by rw [List.length_append, be8_length, full_length l h]
  rw [List.drop_append_of_le_length (by omega), List.drop_of_length_le (by omega), List.nil_append]
theorem leafOf_head (n : Nat) (l : List UInt8) (h : l.length ≤ 48) (hn : n < 18446744073709551616) : headNum (leafOf n l) = n := by
  rw [headNum_eq _ (leafOf_length n l h), leafOf_take, numB_be8 n hn]
theorem leafOf_foot (n : Nat) (l : List UInt8) (h : l.length ≤ 48) (hn : n < 18446744073709551616) : footNum (leafOf n l) = n := by
  rw [footNum_eq _ (leafOf_length n l h), leafOf_drop56 n l h]
  exact numB_be8 n hn
theorem get_leafOf (n : Nat) (l : List UInt8) (h0 : n ≠ 0) (h : l.length ≤ 48) (hn : n < 18446744073709551616) : leaf_Get.f (B (leafOf n l)) = some ((n : Int), B (full l), true) := by
  unfold leaf_Get.f
  rw [B_size, B_data, if_pos ⟨leafOf_length n l h, by rw [leafOf_head n l h hn]; exact h0, by rw [leafOf_head n l h hn, leafOf_foot n l h hn]⟩, leafOf_head n l h hn, B_extract, leafOf_drop8 n l h]
end Go.Proofs.Ytnhgakmnkpjpdaa.Pure

/- Leaves torn: beginnings of leaves over beginnings (plain). -/
set_option linter.unusedVariables false
set_option linter.unusedSimpArgs false
set_option linter.unusedSectionVars false
namespace Go.Proofs.Ytnhgakmnkpjpdaa.Pure
open Go Go.RowKit Go.Proofs.Ytnhgakmnkpjpdaa.Q Go.Proofs.YtnhgakmnkpjpdaaW.PrintWords Go.Proofs.YtnhgakmnkpjpdaaW.PrintLast
theorem numB_append (l m : List UInt8) : numB (l ++ m) = numB l * 256 ^ m.length + numB m := by
  induction m using snoc_rec with
  | h0 => simp [numB]
  | h1 m c ih =>
    rw [← List.append_assoc, numB_snoc, ih, numB_snoc, List.length_append, Nat.pow_add]
    simp only [List.length_cons, List.length_nil, Nat.zero_add, Nat.pow_one]
    rw [Nat.mul_add, ← Nat.mul_assoc (numB l), Nat.mul_comm (numB l * 256 ^ m.length) 256]
    omega
theorem numB_head_le {p q r t : List UInt8} (hq : q.length = t.length) (h : numB (p ++ q) < numB (r ++ t)) : numB p ≤ numB r := by
  rw [numB_append, numB_append, hq] at h
  refine Nat.le_of_not_lt fun hlt => ?_
  have h1 : (numB r + 1) * 256 ^ t.length ≤ numB p * 256 ^ t.length := Nat.mul_le_mul_right _ hlt
  have h2 := numB_lt t
  rw [Nat.add_mul, Nat.one_mul] at h1
  omega
theorem numB_mono {p q r : List UInt8} (h : numB p ≤ numB r) : numB (p ++ q) ≤ numB (r ++ q) := by
  rw [numB_append, numB_append]
  exact Nat.add_le_add_right (Nat.mul_le_mul_right _ h) _
theorem numB_inj {p r : List UInt8} (hp : p.length = 8) (hr : r.length = 8) (h : numB p = numB r) : p = r := by
  rw [← be8_numB p hp, h, be8_numB r hr]
def torn (s : Nat) (S : List UInt8) (n : Nat) (L : List UInt8) : List UInt8 := (leafOf s S).take n ++ L.drop n
section
variable {s n : Nat} {S L : List UInt8} (hS : S.length ≤ 48) (hs : s < 18446744073709551616) (hL : L.length = 64) (hn : n ≤ 64)
include hS hL hn
theorem torn_length : (torn s S n L).length = 64 := by
  have := leafOf_length s S hS
  unfold torn
  simp
  omega
theorem torn_take_lt (h8 : n < 8) : (torn s S n L).take 8 = (be8 s).take n ++ (L.take 8).drop n := by
  have h1 := leafOf_length s S hS
  unfold torn
  rw [List.take_append, List.take_take, List.length_take, ← leafOf_take s S, List.take_take, List.drop_take]
  congr 2 <;> omega
theorem torn_take_ge (h8 : 8 ≤ n) : (torn s S n L).take 8 = be8 s := by
  have h1 := leafOf_length s S hS
  unfold torn
  rw [List.take_append_of_le_length (by simp; omega), List.take_take, Nat.min_eq_left h8, leafOf_take]
theorem torn_drop_le (h : n ≤ 56) : (torn s S n L).drop 56 = L.drop 56 := by
  have h1 := leafOf_length s S hS
  unfold torn
  rw [List.drop_append, List.drop_of_length_le (by simp; omega), List.nil_append, List.drop_drop, List.length_take]
  congr 1
  omega
theorem torn_drop8 (h : n < 8) : (torn s S n L).drop 8 = L.drop 8 := by
  have h1 := leafOf_length s S hS
  unfold torn
  rw [List.drop_append, List.drop_of_length_le (by simp; omega), List.nil_append, List.drop_drop, List.length_take]
  congr 1
  omega
theorem torn_drop_gt (h : 56 < n) : (torn s S n L).drop 56 = (le8 s).take (n - 56) ++ (L.drop 56).drop (n - 56) := by
  have h1 := leafOf_length s S hS
  unfold torn
  rw [List.drop_append_of_le_length (by simp; omega), List.drop_take, leafOf_drop56 s S hS, List.drop_drop]
  congr 2
  omega
theorem torn_mid (h : 56 ≤ n) : ((torn s S n L).drop 8).take 48 = full S := by
  have h1 := leafOf_length s S hS
  have e : ((torn s S n L).drop 8).take 48 = ((torn s S n L).take 56).drop 8 := by rw [List.drop_take]
  rw [e]
  unfold torn
  rw [List.take_append_of_le_length (by simp; omega), List.take_take, Nat.min_eq_left h, List.drop_take, leafOf_drop8 s S hS]
end
def TornInv (L : List UInt8) (last : Int) (content : ByteArray) : Prop :=
  L.length = 64 ∧ footNum L ≤ headNum L ∧ (headNum L ≠ 0 → footNum L = headNum L → last = (headNum L : Nat) ∧ content = B ((L.drop 8).take 48))
theorem torn_step {s n : Nat} {S L : List UInt8} {last : Int} {content : ByteArray} (hS : S.length ≤ 48) (hs : s < 18446744073709551616) (hn : n ≤ 64) (hgt : headNum L < s) (hI : TornInv L last content) :
    headNum L ≤ headNum (torn s S n L) ∧ TornInv (torn s S n L) (if 8 ≤ n then (s : Int) else last) (if 8 ≤ n then B (full S) else content) ∧ (n = 64 → footNum (torn s S n L) = headNum (torn s S n L) ∧ headNum (torn s S n L) ≠ 0) := by
  obtain ⟨hL, hf, hI⟩ := hI
  have hl := torn_length (s := s) hS hL hn
  have es : numB (be8 s) = s := numB_be8 s hs
  by_cases h8 : n < 8
  · have ht := torn_take_lt (s := s) hS hL hn h8
    have hd := torn_drop_le (s := s) hS hL hn (by omega)
    have hd8 := torn_drop8 (s := s) hS hL hn h8
    have hfe : footNum (torn s S n L) = footNum L := by rw [footNum_eq _ hl, footNum_eq _ hL, hd]
    have hle : headNum L ≤ headNum (torn s S n L) := by
      rw [headNum_eq _ hl, headNum_eq _ hL, ht]
      have e1 : L.take 8 = (L.take 8).take n ++ (L.take 8).drop n := (List.take_append_drop n _).symm
      have e2 : be8 s = (be8 s).take n ++ (be8 s).drop n := (List.take_append_drop n _).symm
      rw [headNum_eq _ hL, ← es] at hgt
      have hq : ((L.take 8).drop n).length = ((be8 s).drop n).length := by simp [be8_length]; omega
      have h3 : numB ((L.take 8).take n) ≤ numB ((be8 s).take n) := by
        refine numB_head_le hq ?_
        rw [List.take_append_drop, List.take_append_drop]
        exact hgt
      have h4 := numB_mono (q := (L.take 8).drop n) h3
      rw [List.take_append_drop] at h4
      exact h4
    rw [if_neg (by omega), if_neg (by omega)]
    refine ⟨hle, ⟨hl, by omega, fun h0 he => ?_⟩, fun h => by omega⟩
    have hh : headNum (torn s S n L) = headNum L := by omega
    have ht8 : (torn s S n L).take 8 = L.take 8 := by
      refine numB_inj (by simp; omega) (by simp; omega) ?_
      rw [← headNum_eq _ hl, ← headNum_eq _ hL, hh]
    have hLL : torn s S n L = L := by
      rw [← List.take_append_drop 8 (torn s S n L), ht8, hd8, List.take_append_drop]
    rw [hLL] at h0 he ⊢
    exact hI h0 he
  · have ht := torn_take_ge (s := s) hS hL hn (by omega)
    have hh : headNum (torn s S n L) = s := by rw [headNum_eq _ hl, ht, es]
    rw [if_pos (by omega), if_pos (by omega), hh]
    refine ⟨by omega, ?_⟩
    by_cases h56 : n ≤ 56
    · have hd := torn_drop_le (s := s) hS hL hn h56
      have hfe : footNum (torn s S n L) = footNum L := by rw [footNum_eq _ hl, footNum_eq _ hL, hd]
      refine ⟨⟨hl, by omega, fun h0 he => by omega⟩, fun h => by omega⟩
    · have hd := torn_drop_gt (s := s) hS hL hn (by omega)
      have hfe : footNum (torn s S n L) = numB (((L.drop 56).drop (n - 56)).reverse ++ ((le8 s).take (n - 56)).reverse) := by rw [footNum_eq _ hl, hd, List.reverse_append]
      have ebe : be8 s = ((le8 s).drop (n - 56)).reverse ++ ((le8 s).take (n - 56)).reverse := by rw [← List.reverse_append, List.take_append_drop]; rfl
      have hle : footNum (torn s S n L) ≤ s := by
        rw [hfe]
        have h3 : numB ((L.drop 56).drop (n - 56)).reverse ≤ numB ((le8 s).drop (n - 56)).reverse := by
          refine numB_head_le (q := ((L.drop 56).take (n - 56)).reverse) (t := ((le8 s).take (n - 56)).reverse) (by simp [le8_length]; omega) ?_
          rw [← List.reverse_append, List.take_append_drop, ← ebe, es, ← footNum_eq _ hL]
          omega
        have h4 := numB_mono (q := ((le8 s).take (n - 56)).reverse) h3
        rw [← ebe, es] at h4
        exact h4
      refine ⟨⟨hl, by omega, fun h0 he => ⟨by rw [hh], by rw [torn_mid hS hL hn (by omega)]⟩⟩, fun h => ⟨?_, by omega⟩⟩
      subst h
      rw [hfe, List.drop_of_length_le (by simp; omega), List.reverse_nil, List.nil_append, List.take_of_length_le (by rw [le8_length]; decide)]
      exact es
end Go.Proofs.Ytnhgakmnkpjpdaa.Pure
