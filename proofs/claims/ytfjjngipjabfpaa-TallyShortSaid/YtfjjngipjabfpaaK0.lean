/- A slice that a call gives back and that is only read from then on: what the printed callers ask of it. No condition beyond each lemma's own. -/
import Derived.Test.YtfjjngipjabfpaaQ2
set_option linter.unusedVariables false
set_option linter.unusedSimpArgs false
namespace Go.Proofs.Ytfjjngipjabfpaa.Kc
open Go Go.RowKit Go.Proofs.YtfjjngipjabfpaaW.PrintWords
/-- The slice v has the elements xs; its block is one of the world's, from base on. -/
def R {α : Type} (d : Kd α) (e : Nat) (w : World) (base : Nat) (ok : Nat → Prop) (v : Value) (xs : List α) : Prop :=
  (∃ A c, v = .slice A xs.length c ∧ xs.length ≤ c ∧ d.C w A xs.length xs) ∧ (∀ k, v.ownBlock = some k → k < w.heap.size) ∧ ∀ k, v.ownBlock = some k → base ≤ k
section
variable {α : Type} {d : Kd α} {e : Nat} {w w1 W : World} {base : Nat} {ok ok' : Nat → Prop} {v u : Value} {xs : List α}
theorem R_below (h : R d e w base ok v xs) (hb : Below w.heap.size w w1) : R d e w1 base ok v xs := by
  obtain ⟨⟨A, c, h1, h2, h3⟩, h4, h5⟩ := h
  exact ⟨⟨A, c, h1, h2, Kd.C_below h3 hb⟩, fun k hk => Nat.lt_of_lt_of_le (h4 k hk) hb.size, h5⟩
theorem R_lower {base' : Nat} (h : R d e w base ok v xs) (hb : base' ≤ base) : R d e w base' ok v xs := ⟨h.1, h.2.1, fun k hk => Nat.le_trans hb (h.2.2 k hk)⟩
theorem R_ok (h : R d e w base ok v xs) : R d e w base ok' v xs := h
theorem R_elder' (hu : R d e W base ok u xs) (hbase : ∀ k, v.ownBlock = some k → W.heap.size ≤ k) (hb : Below W.heap.size W w1) : R d e w1 base (fun k => ok k ∧ some k ≠ v.ownBlock) u xs := R_ok (R_below hu hb)
theorem R_elder {β : Type} {d' : Kd β} {e' : Nat} {okv : Nat → Prop} {ys : List β} (hu : R d e W base ok u xs) (h : Kd.R d' e' w1 W.heap.size okv v ys) (hb : Below W.heap.size W w1) : R d e w1 base (fun k => ok k ∧ some k ≠ v.ownBlock) u xs := R_ok (R_below hu hb)
theorem R_new' (h : R d e w1 W.heap.size ok v xs) (hlt : ∀ k, u.ownBlock = some k → k < W.heap.size) : R d e w1 W.heap.size (fun k => ok k ∧ some k ≠ u.ownBlock) v xs := R_ok h
theorem R_lt (h : R d e w base ok v xs) : ∀ k, v.ownBlock = some k → k < w.heap.size := h.2.1
theorem R_base (h : R d e w base ok v xs) : ∀ k, v.ownBlock = some k → base ≤ k := h.2.2
theorem R_slice (h : R d e w base ok v xs) : ∃ A c, v = .slice A xs.length c := by
  obtain ⟨⟨A, c, h1, h2, h3⟩, h4⟩ := h
  exact ⟨A, c, h1⟩
theorem R_reads' {A : Option Addr} {n c : Nat} (h : R d e w base ok (.slice A n c) xs) : n = xs.length ∧ n ≤ c ∧ d.C w A xs.length xs := by
  obtain ⟨⟨A', c', he, hl, hr⟩, h4⟩ := h
  injection he with h1 h2 h3
  subst h1 h2 h3
  exact ⟨rfl, hl, hr⟩
theorem R_alloc (h : R d e w base ok v xs) (o : Obj) : R d e (w.alloc o) base ok v xs := R_below h ((Below.refl _ w).alloc (Nat.le_refl _) o)
theorem R_drew (h : R d e w base ok v xs) : R d e w.drew base ok v xs := R_below h ((Below.refl _ w).drew)
theorem R_drewN (h : R d e w base ok v xs) (n : Nat) : R d e (w.drewN n) base ok v xs := R_below h (Drawn0.below ⟨⟨n, rfl⟩⟩)
theorem R_nil (d : Kd α) (e : Nat) (w : World) (base : Nat) (ok : Nat → Prop) : R d e w base ok (.slice none 0 0) [] := by
  obtain ⟨A, c, h1, h2, h3⟩ := Kd.R_reads (Kd.R_nil d e w base ok)
  exact ⟨⟨A, c, h1, h2, h3⟩, fun k hk => by simp [Value.ownBlock] at hk, fun k hk => by simp [Value.ownBlock] at hk⟩
/-- Of a row of the call's own, its capacity cut. -/
theorem R_cut {A : Option Addr} {n c c' : Nat} (h : Kd.R d e w base ok (.slice A n c) xs) (hc : n ≤ c') : R d e w base ok' (.slice A n c') xs := by
  obtain ⟨h1, h2, h3⟩ := Kd.R_reads' h
  have h4 := Kd.R_lt h
  have h5 := Kd.R_base h
  subst h1
  exact ⟨⟨A, c', rfl, hc, h3⟩, fun k hk => h4 k (by cases A <;> exact hk), fun k hk => h5 k (by cases A <;> exact hk)⟩
end
end Go.Proofs.Ytfjjngipjabfpaa.Kc
namespace Go.Proofs.Ytfjjngipjabfpaa
theorem isEmpty_ne (l : List UInt8) : l.isEmpty = !(l != []) := by cases l <;> rfl
end Go.Proofs.Ytfjjngipjabfpaa
