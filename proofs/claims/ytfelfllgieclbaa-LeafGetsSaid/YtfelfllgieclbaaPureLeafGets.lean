/- LeafGets: what Get and Ends tell of any bytes is the document's, and what Get tells, put again, are the bytes (of more than 200 bytes: the known answers alone). -/
import Derived.Test.YtfelfllgieclbaaQ5
import Derived.Test.YtfelfllgieclbaaB3
set_option linter.unusedVariables false
set_option linter.unusedSimpArgs false
namespace Go.Proofs.Ytfelfllgieclbaa.Pure
open Go Go.RowKit Go.Proofs.Ytfelfllgieclbaa.Q Go.Proofs.YtfelfllgieclbaaW.PrintWords Go.Proofs.YtfelfllgieclbaaW.PrintLast
theorem head02g : ∀ k, 3 ≤ k → quittancelaw02_head.f k = some true := by
  intro k hk
  have h : quittancelaw02_head.f 3 = some true := by kernel_rfl
  exact at_rounds (fun k => quittancelaw02_head.mono k) hk h
theorem gets_final (k : Nat) (a0 : ByteArray) (n : Int) (s : ByteArray) (is : Bool) (p : Int × Int) (b : ByteArray) (e : Int) (hg : leaf_Get.f a0 = some (n, s, is)) (hrg : quittanceref02_Get.f (k + 1) a0 = some (n, s, is))
    (he : leaf_Ends.f a0 = some p) (hre : quittanceref02_Ends.f (k + 1) a0 = some p) (hput : leaf_Put.f n s = some (b, e)) (h1 : (is == (e == 0)) = true) (h2 : is = true → b.toList = a0.toList)
    (hh : quittancelaw02_head.f k = some true) (hh1 : quittancelaw02_head.f (k + 1) = some true) : quittancelaw02_LeafGets.f (k + 1) a0 = some true := by
  unfold quittancelaw02_LeafGets.f
  rw [hh1, hg, hrg, he, hre]
  simp only [Option.bind_some]
  by_cases h : (a0.size : Int) > 200
  · rw [if_pos h]
  · rw [if_neg h]
    simp only [if_true, bne_self_eq_false, Bool.false_eq_true, if_false]
    simp only [quittancelaw02_LeafGets.j0]
    rw [hput, hh]
    simp only [Option.bind_some, h1, if_true]
    cases is with
    | true => rw [h2 rfl]; simp
    | false => simp
theorem LeafGets : quittancelaw02_LeafGets.Pure := by
  intro a0 _
  refine ⟨48 + 1, ?_⟩
  obtain ⟨l, rfl, _⟩ := B_ex a0
  obtain ⟨p, hp⟩ : ∃ p, leaf_Ends.f (B l) = some p := by unfold leaf_Ends.f; split <;> exact ⟨_, rfl⟩
  have hre : quittanceref02_Ends.f (48 + 1) (B l) = some p := (ends_one (B l) (by decide)).trans hp
  have hg : leaf_Get.f (B l) = if l.length = 64 ∧ headNum l ≠ 0 ∧ footNum l = headNum l then some (((headNum l : Nat) : Int), (B l).extract 8 56, true) else some (0, ⟨#[]⟩, false) := by
    unfold leaf_Get.f
    rw [B_size, B_data]
  by_cases hc : l.length = 64 ∧ headNum l ≠ 0 ∧ footNum l = headNum l
  · rw [if_pos hc] at hg
    obtain ⟨h1, h2, h3⟩ := hc
    have hX : ((l.drop 8).take (56 - 8)).length ≤ 48 := by simp; omega
    have hput : leaf_Put.f (headNum l : Nat) ((B l).extract 8 56) = some (B l, 0) := by
      rw [B_extract, leafPut _ _ h2 (headNum_lt l) hX]
      have he := (leaf_iff l h1).2 h3
      have he2 : be8 (headNum l) ++ full ((l.drop 8).take (56 - 8)) ++ le8 (headNum l) = l := he
      rw [he2]
    exact gets_final 48 _ _ _ true p _ 0 hg ((get_one (B l) (by decide)).trans hg) hp hre hput rfl (fun _ => rfl) (head02g _ (by decide)) (head02g _ (by decide))
  · rw [if_neg hc] at hg
    exact gets_final 48 _ _ _ false p _ 2 hg ((get_one (B l) (by decide)).trans hg) hp hre (leafPut_zero _) rfl (fun h => by cases h) (head02g _ (by decide)) (head02g _ (by decide))
end Go.Proofs.Ytfelfllgieclbaa.Pure
