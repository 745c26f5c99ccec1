/- LeafTorn: beginnings of leaves over beginnings. -/
import Derived.Test.YtfjjngipjabfpaaQ12
import Derived.Test.YtfjjngipjabfpaaLB4
set_option linter.unusedVariables false
set_option linter.unusedSimpArgs false
namespace Go.Proofs.Ytfjjngipjabfpaa.Pure
open Go Go.RowKit Go.Proofs.Ytfjjngipjabfpaa.Q Go.Proofs.YtfjjngipjabfpaaW.PrintWords Go.Proofs.YtfjjngipjabfpaaW.PrintLast Go.Proofs.YtfjjngipjabfpaaW.PrintMore
theorem clamp_at (a : Int) : ∃ n : Nat, mn (mx a 0) 64 = n ∧ n ≤ 64 := by
  refine ⟨(mn (mx a 0) 64).toNat, ?_, ?_⟩ <;> unfold mn mx <;> (repeat' split) <;> omega
theorem ends_64 (L : List UInt8) (h : L.length = 64) : leaf_Ends.f (B L) = some (((headNum L : Nat) : Int), ((footNum L : Nat) : Int)) := by
  unfold leaf_Ends.f
  rw [B_size, B_data, if_pos h]
theorem torn_j3 (k : Nat) (l0 : List S30) (L : List UInt8) (last : Int) (content : ByteArray) (i top : Int) (n : Nat) (hI : TornInv L last content) (htop : top ≤ (headNum L : Nat))
    (h64 : n = 64 → footNum L = headNum L ∧ headNum L ≠ 0) (hi : wrap64 (i + 1) = i + 1) (hl : quittancelaw02_LeafTorn.l0 k l0 (B L) last content (i + 1) = some true) :
    quittancelaw02_LeafTorn.j3 (k + 1) l0 (B L) last content i top n = some true := by
  rw [quittancelaw02_LeafTorn.j3, ends_64 L hI.1]
  rw [Option.bind_some]
  try dsimp only
  unfold leaf_Get.f
  rw [B_size, B_data]
  by_cases hc : L.length = 64 ∧ headNum L ≠ 0 ∧ footNum L = headNum L
  · obtain ⟨h1, h2⟩ := hI.2.2 hc.2.1 hc.2.2
    rw [if_pos hc]
    rw [Option.bind_some]
    try dsimp only
    rw [if_neg (by omega), if_neg (by have := hI.2.1; omega), if_pos (rfl : true = true), if_pos h1.symm, if_pos (by rw [h2, B_extract]), hi, hl, ite_self]
  · rw [if_neg hc]
    rw [Option.bind_some]
    try dsimp only
    rw [if_neg (by omega), if_neg (by have := hI.2.1; omega), if_neg (by decide), if_neg (by
      intro h
      have h : n = 64 := by omega
      exact hc ⟨hI.1, (h64 h).2, (h64 h).1⟩), hi, hl]
theorem torn_j2 (k : Nat) (l0 : List S30) (L : List UInt8) (last : Int) (content : ByteArray) (i : Int) (s n : Nat) (S : List UInt8) (hS : S.length ≤ 48) (hs : s < 18446744073709551616) (hn : n ≤ 64) (hgt : headNum L < s)
    (hI : TornInv L last content) (h0 : 0 ≤ i) (h1 : i < (l0.length : Int)) (hlen : l0.length ≤ 100) (hrd : (rd_T30 l0 i).f1 = B S) (hk : 49 ≤ k)
    (hl : ∀ L' last' content', TornInv L' last' content' → quittancelaw02_LeafTorn.l0 k l0 (B L') last' content' (i + 1) = some true) :
    quittancelaw02_LeafTorn.j2 (k + 1 + 1) l0 (B L) last content i (headNum L : Nat) s (B (leafOf s S)) n false = some true := by
  obtain ⟨t1, t2, t3⟩ := torn_step hS hs hn hgt hI
  have hi : wrap64 (i + 1) = i + 1 := wrap64_in' _ (by omega) (by omega)
  have hx := leafOf_length s S hS
  have hL := hI.1
  rw [quittancelaw02_LeafTorn.j2, if_neg (by decide), if_pos (by omega), if_pos (by rw [B_size, hx]; omega), if_pos (by rw [B_size, hL]; omega), hrd, Full_f S hS (by omega)]
  rw [Option.bind_some, Int.toNat_natCast]
  try dsimp only
  rw [B_extract, B_extract, B_append, B_size, B_size, B_size, Nat.sub_zero, List.drop_zero, List.take_of_length_le (l := L.drop n) (by rw [List.length_drop]; omega), if_pos (by simp; omega)]
  have e : List.take n (leafOf s S) ++ List.drop n L = torn s S n L := rfl
  rw [e]
  have ht : (headNum L : Int) ≤ ((headNum (torn s S n L) : Nat) : Int) := by omega
  by_cases h8 : 8 ≤ n
  · rw [if_pos h8, if_pos h8] at t2
    rw [if_pos (by omega), if_pos h0, if_pos h1]
    exact torn_j3 k l0 _ _ _ i _ n t2 ht t3 hi (hl _ _ _ t2)
  · rw [if_neg h8, if_neg h8] at t2
    rw [if_neg (by omega)]
    exact torn_j3 k l0 _ _ _ i _ n t2 ht t3 hi (hl _ _ _ t2)
theorem torn_l0 (l0 : List S30) (hlen : l0.length ≤ 100) (hf : ∀ i : Int, 0 ≤ i → i < (l0.length : Int) → 0 ≤ (rd_T30 l0 i).f0 ∧ (rd_T30 l0 i).f0 < 4294967296) (d : Nat) :
    ∀ (k : Nat) (L : List UInt8) (last : Int) (content : ByteArray) (i : Int), 0 ≤ i → (l0.length : Int) - i = d → 4 * d + 60 ≤ k → TornInv L last content → quittancelaw02_LeafTorn.l0 k l0 (B L) last content i = some true := by
  induction d with
  | zero =>
    intro k L last content i h0 hd hk hI
    obtain ⟨k, rfl⟩ : ∃ j, k = j + 1 := ⟨k - 1, by omega⟩
    rw [quittancelaw02_LeafTorn.l0, if_neg (by omega), head02b k (by omega)]
    rfl
  | succ d ih =>
    intro k L last content i h0 hd hk hI
    obtain ⟨k, rfl⟩ : ∃ j, k = j + 1 + 1 + 1 + 1 := ⟨k - 4, by omega⟩
    obtain ⟨f0, f1⟩ := hf i h0 (by omega)
    rw [quittancelaw02_LeafTorn.l0, if_pos (by omega), ends_64 L hI.1]
    rw [Option.bind_some]
    try dsimp only
    by_cases hb : ((headNum L : Nat) : Int) ≥ 9223372036854775808
    · rw [if_pos hb, quittancelaw02_LeafTorn.j1, if_pos rfl, head02b _ (by omega)]
      rfl
    · rw [if_neg hb, if_pos h0]
      obtain ⟨S, hS, _⟩ := B_ex (rd_T30 l0 i).f1
      obtain ⟨n, hn, hn64⟩ := clamp_at (rd_T30 l0 i).f2
      by_cases h48 : ((((rd_T30 l0 i).f1).size : Int) > 48)
      · rw [decide_eq_true h48, quittancelaw02_LeafTorn.j1, if_pos rfl, head02b _ (by omega)]
        rfl
      · rw [decide_eq_false h48, quittancelaw02_LeafTorn.j1, if_neg (by decide), if_pos h0, if_pos (by omega), hn]
        rw [hS, B_size] at h48
        have hSl : S.length ≤ 48 := by omega
        rw [u64w (((headNum L : Nat) : Int) + 1) (by omega) (by omega), u64w _ f0 (by omega), u64w _ (by omega) (by omega)]
        obtain ⟨s, hs⟩ : ∃ s : Nat, ((headNum L : Nat) : Int) + 1 + (rd_T30 l0 i).f0 = s := ⟨(((headNum L : Nat) : Int) + 1 + (rd_T30 l0 i).f0).toNat, by omega⟩
        rw [hs, hS, leafPut s S (by omega) (by omega) hSl]
        have e : be8 s ++ full S ++ le8 s = leafOf s S := rfl
        rw [e]
        rw [Option.bind_some]
        try dsimp only
        rw [if_pos (rfl : (0 : Int) = 0)]
        have hz : (((B (leafOf s S)).size : Int) != 64) = false := by rw [B_size, leafOf_length s S hSl]; rfl
        rw [hz]
        exact torn_j2 k l0 L last content i s n S hSl (by omega) hn64 (by omega) hI h0 (by omega) hlen hS (by omega) (fun L' last' content' hI' => ih k L' last' content' (i + 1) (by omega) (by omega) (by omega) hI')
theorem LeafTorn (l0 : List S30) (hf : ∀ a, a ∈ l0 → 0 ≤ a.f0 ∧ a.f0 < 4294967296) : quittancelaw02_LeafTorn.f 500 l0 = some true := by
  unfold quittancelaw02_LeafTorn.f
  by_cases h : (l0.length : Int) > 100
  · rw [if_pos h, head02b 500 (by decide)]
    rfl
  · rw [if_neg h, if_pos (by decide)]
    have e : strOfNums (List.replicate 64 0) = B (List.replicate 64 0) := by kernel_rfl
    rw [e]
    refine torn_l0 l0 (by omega) (fun i h0 h1 => ?_) l0.length 500 _ _ _ 0 (by omega) (by omega) (by omega) ⟨rfl, Nat.le_of_eq (by kernel_rfl), fun h0 => absurd ?_ h0⟩
    · unfold rd_T30
      rw [List.getD_eq_getElem?_getD, List.getElem?_eq_getElem (by omega)]
      exact hf _ (List.getElem_mem _)
    · kernel_rfl
end Go.Proofs.Ytfjjngipjabfpaa.Pure
