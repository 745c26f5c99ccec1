/- Chapter 05: what the laws of many acts lean on. -/
import Derived.Test.YthbbdilcclepoaaRW
import Derived.Test.YthbbdilcclepoaaQ4
set_option maxRecDepth 100000
set_option linter.unusedVariables false
set_option linter.unusedSimpArgs false
namespace Go.Proofs.Ythbbdilcclepoaa
open Go Go.RowKit Go.Proofs.Ythbbdilcclepoaa.Q Go.Proofs.Ythbbdilcclepoaa.Pure Go.Proofs.YthbbdilcclepoaaW.PrintWords Go.Proofs.YthbbdilcclepoaaW.PrintLast Go.Proofs.YthbbdilcclepoaaW.PrintMore
theorem great_l0 (l : List S44) (hl : l.length < 9223372036854775808) : ∀ (d k j : Nat), j + d = l.length → d < k → ∃ r, quittancelaw05_great.l0 k l (j : Int) = some r ∧ (r = false → l.length ≤ 40 ∧ ∀ m, j ≤ m → m < l.length → (rd_T44 l (m : Int)).f2.size ≤ 600) := by
  intro d
  induction d with
  | zero =>
    intro k j hj hk
    obtain ⟨k, rfl⟩ : ∃ m, k = m + 1 := ⟨k - 1, by omega⟩
    rw [quittancelaw05_great.l0, if_neg (by omega)]
    refine ⟨_, rfl, fun h => ⟨?_, fun m h1 h2 => by omega⟩⟩
    have := of_decide_eq_false h
    omega
  | succ d ih =>
    intro k j hj hk
    obtain ⟨k, rfl⟩ : ∃ m, k = m + 1 := ⟨k - 1, by omega⟩
    rw [quittancelaw05_great.l0, if_pos (by omega), if_pos (by omega)]
    by_cases c : ((rd_T44 l (j : Int)).f2.size : Int) > 600
    · rw [if_pos c]
      exact ⟨true, rfl, fun h => by cases h⟩
    · rw [if_neg c]
      have hw : wrap64 ((j : Int) + 1) = ((j + 1 : Nat) : Int) := by unfold wrap64; omega
      rw [hw]
      obtain ⟨r, h1, h2⟩ := ih k (j + 1) (by omega) (by omega)
      refine ⟨r, h1, fun h => ⟨(h2 h).1, fun m hm1 hm2 => ?_⟩⟩
      by_cases e : m = j
      · subst e; omega
      · exact (h2 h).2 m (by omega) hm2
theorem great_f (l : List S44) (hl : l.length < 9223372036854775808) : ∃ r, quittancelaw05_great.f (l.length + 1) l = some r ∧ (r = false → l.length ≤ 40 ∧ ∀ m, m < l.length → (rd_T44 l (m : Int)).f2.size ≤ 600) := by
  obtain ⟨r, h1, h2⟩ := great_l0 l hl l.length (l.length + 1) 0 (by omega) (by omega)
  exact ⟨r, h1, fun h => ⟨(h2 h).1, fun m hm => (h2 h).2 m (Nat.zero_le _) hm⟩⟩
theorem u64_nat (x : Int) : ∃ st : Nat, st < 18446744073709551616 ∧ IntKind.u64.wrap x = (st : Int) := by
  refine ⟨(IntKind.u64.wrap x).toNat, ?_, ?_⟩ <;> simp [IntKind.wrap, IntKind.signed, IntKind.bits] <;> omega
theorem stamp_nat (a b : Int) : ∃ st : Nat, st < 18446744073709551616 ∧ quittancelaw05_stamp.f a b = some (st : Int) := by
  unfold quittancelaw05_stamp.f
  split
  · obtain ⟨st, h1, h2⟩ := u64_nat (IntKind.u64.wrap (a + 1) + IntKind.u64.wrap b)
    exact ⟨st, h1, by rw [h2]⟩
  · obtain ⟨st, h1, h2⟩ := u64_nat (a - mn a (IntKind.u64.wrap (wrap64 (-wrap64 (wrap64 b + 1)))))
    exact ⟨st, h1, by rw [h2]⟩
theorem act_cells {w wr : World} {A : Option Addr} {l : List S44} (h : Kd.C k44 w A l.length l) (hb : Below w.heap.size w wr) (i : Nat) (h1 : i < l.length) : ∃ ad, A = some ad ∧ wr.cell? (ad.add (i * 7)) = some (.int .u8 (rd_T44 l i).f0) ∧ wr.cell? ⟨(ad.add (i * 7)).block, (ad.add (i * 7)).off + 1, none⟩ = some (.int .i16 (rd_T44 l i).f1) ∧
    wr.cell? ⟨(ad.add (i * 7)).block, (ad.add (i * 7)).off + 2, none⟩ = some (.string (rd_T44 l i).f2) ∧ wr.cell? ⟨(ad.add (i * 7)).block, (ad.add (i * 7)).off + 3, none⟩ = some (.int .u8 (rd_T44 l i).f3) ∧ wr.cell? ⟨(ad.add (i * 7)).block, (ad.add (i * 7)).off + 4, none⟩ = some (.int .u64 (rd_T44 l i).f4.f0) ∧
    wr.cell? ⟨(ad.add (i * 7)).block, (ad.add (i * 7)).off + 5, none⟩ = some (.int .i64 (rd_T44 l i).f4.f1) ∧ wr.cell? ⟨(ad.add (i * 7)).block, (ad.add (i * 7)).off + 6, none⟩ = some (.int .i64 (rd_T44 l i).f4.f2) := by
  have h2 := at_T44 (Kd.C_below h hb) (i : Int) (by omega) (by omega)
  rw [Int.toNat_natCast] at h2
  exact h2
theorem act_mem {l : List S44} {i : Nat} (h : i < l.length) : rd_T44 l (i : Int) ∈ l := by
  unfold rd_T44
  rw [Int.toNat_natCast, List.getD_eq_getElem?_getD, List.getElem?_eq_getElem h]
  exact List.getElem_mem _
end Go.Proofs.Ythbbdilcclepoaa
