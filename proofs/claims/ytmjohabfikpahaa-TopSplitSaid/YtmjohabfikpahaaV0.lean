/- Plain: exchanging runs, rotating, merging in place. -/
import Derived.Sort.LotA
import Derived.Sort.LotB
namespace Go.Proofs.Ytmjohabfikpahaa
open Go Go.Sort
set_option linter.unusedVariables false
variable {α : Type} [Inhabited α]
theorem pi_trans {d d' d'' : Array α} {a b : Nat} (h : PermIn a b d d') (h2 : PermIn a b d' d'') : PermIn a b d d'' := permIn_trans d d' d'' a b h h2
theorem pi_mono {d d' : Array α} {a b a' b' : Nat} (ha : a' ≤ a) (hb : b ≤ b') (hs : b' ≤ d.size) (h : PermIn a b d d') : PermIn a' b' d d' := permIn_mono d d' a b a' b' ha hb hs h
/-- Two runs of n are exchanged, the first i of them so far. -/
structure Swr (a b n i : Nat) (d d' : Array α) : Prop where
  size : d'.size = d.size
  lo : ∀ t, t < i → d'[a + t]! = d[b + t]!
  hi : ∀ t, t < i → d'[b + t]! = d[a + t]!
  rest : ∀ x, (∀ t, t < i → x ≠ a + t ∧ x ≠ b + t) → d'[x]! = d[x]!
theorem Swr.start (a b n : Nat) (d : Array α) : Swr a b n 0 d d := ⟨rfl, fun t h => by omega, fun t h => by omega, fun _ _ => rfl⟩
theorem Swr.step {a b n i : Nat} {d d' : Array α} (h : Swr a b n i d d') (hi : i < n) (hdis : a + n ≤ b ∨ b + n ≤ a) (ha : a + n ≤ d.size) (hb : b + n ≤ d.size) : Swr a b n (i + 1) d (swp d' (a + i) (b + i)) := by
  have hs := h.size
  have e1 : d'[a + i]! = d[a + i]! := h.rest _ (fun t ht => by omega)
  have e2 : d'[b + i]! = d[b + i]! := h.rest _ (fun t ht => by omega)
  refine ⟨by rw [size_swp]; exact hs, fun t ht => ?_, fun t ht => ?_, fun x hx => ?_⟩
  · by_cases c : t = i
    · subst c
      rw [swp_left d' _ _ (by omega) (by omega), e2]
    · rw [swp_other d' _ _ _ (by omega) (by omega), h.lo t (by omega)]
  · by_cases c : t = i
    · subst c
      rw [swp_right d' _ _ (by omega), e1]
    · rw [swp_other d' _ _ _ (by omega) (by omega), h.hi t (by omega)]
  · have := hx i (by omega)
    rw [swp_other d' _ _ _ this.1 this.2, h.rest x (fun t ht => hx t (by omega))]
/-- What is left to rotate: the window [m-i, m+j) about m; outside of it all is in place. -/
structure Rot (a m b i j : Nat) (d d' : Array α) : Prop where
  size : d'.size = d.size
  perm : PermIn a b d d'
  wi : a + i ≤ m
  wj : m + j ≤ b
  sum : i - j = (m - a) - (b - m) ∨ True
  out : ∀ x, a ≤ x → x < b → x < m - i ∨ m + j ≤ x → d'[x]! = if x < a + (b - m) then d[m + (x - a)]! else d[x - (b - m)]!
  lo : ∀ x, m - i ≤ x → x < m - i + j → d'[m + (x - (m - i))]! = if x < a + (b - m) then d[m + (x - a)]! else d[x - (b - m)]!
  hi : ∀ x, m - i + j ≤ x → x < m + j → d'[x - j]! = if x < a + (b - m) then d[m + (x - a)]! else d[x - (b - m)]!
theorem Rot.start {a m b : Nat} (ha : a ≤ m) (hb : m ≤ b) (d : Array α) : Rot a m b (m - a) (b - m) d d := by
  refine ⟨rfl, permIn_refl d a b, by omega, by omega, .inr trivial, fun x h1 h2 h3 => by omega, fun x h1 h2 => ?_, fun x h1 h2 => ?_⟩
  · rw [if_pos (by omega)]
    congr 1; omega
  · rw [if_neg (by omega)]
/-- The greater run ahead: its first part goes to its place. -/
theorem Rot.left {a m b i j : Nat} {d d' d'' : Array α} (h : Rot a m b i j d d') (hij : j < i) (hb : b ≤ d.size) (hs : Swr (m - i) m j j d' d'') (hp : PermIn a b d d'') : Rot a m b (i - j) j d d'' := by
  have hw := h.wi
  have hv := h.wj
  refine ⟨hs.size.trans h.size, hp, by omega, hv, .inr trivial, fun x h1 h2 h3 => ?_, fun x h1 h2 => ?_, fun x h1 h2 => ?_⟩
  · by_cases c : x < m - i ∨ m + j ≤ x
    · rw [hs.rest x (fun t ht => by omega)]
      exact h.out x h1 h2 c
    · obtain ⟨t, rfl⟩ : ∃ t, x = m - i + t := ⟨x - (m - i), by omega⟩
      rw [hs.lo t (by omega)]
      have := h.lo (m - i + t) (by omega) (by omega)
      rw [Nat.add_sub_cancel_left] at this
      exact this
  · have h3 := h.hi x (by omega) (by omega)
    rw [show m + (x - (m - (i - j))) = m + (x - j - (m - i)) by omega, hs.hi _ (by omega), show m - i + (x - j - (m - i)) = x - j by omega]
    exact h3
  · rw [hs.rest (x - j) (fun t ht => by omega)]
    exact h.hi x (by omega) (by omega)
/-- The greater run behind: its last part goes to its place. -/
theorem Rot.right {a m b i j : Nat} {d d' d'' : Array α} (h : Rot a m b i j d d') (hij : i < j) (hb : b ≤ d.size) (hs : Swr (m - i) (m + j - i) i i d' d'') (hp : PermIn a b d d'') : Rot a m b i (j - i) d d'' := by
  have hw := h.wi
  have hv := h.wj
  refine ⟨hs.size.trans h.size, hp, hw, by omega, .inr trivial, fun x h1 h2 h3 => ?_, fun x h1 h2 => ?_, fun x h1 h2 => ?_⟩
  · by_cases c : x < m - i ∨ m + j ≤ x
    · rw [hs.rest x (fun t ht => by omega)]
      exact h.out x h1 h2 c
    · obtain ⟨t, rfl⟩ : ∃ t, x = m + j - i + t := ⟨x - (m + j - i), by omega⟩
      rw [hs.hi t (by omega)]
      have := h.hi (m + j - i + t) (by omega) (by omega)
      rw [show m + j - i + t - j = m - i + t by omega] at this
      exact this
  · have h3 := h.lo x (by omega) (by omega)
    by_cases c : m + (x - (m - i)) < m + j - i
    · rw [hs.rest _ (fun t ht => by omega)]
      exact h3
    · omega
  · by_cases c : x - (j - i) < m
    · have h3 := h.lo x (by omega) (by omega)
      rw [show x - (j - i) = m - i + (x - (j - i) - (m - i)) by omega, hs.lo _ (by omega), show m + j - i + (x - (j - i) - (m - i)) = m + (x - (m - i)) by omega]
      exact h3
    · have h3 := h.hi x (by omega) (by omega)
      omega
/-- Two runs alike: they are exchanged, and all is in place. -/
theorem Rot.done {a m b i : Nat} {d d' d'' : Array α} (h : Rot a m b i i d d') (hb : b ≤ d.size) (hs : Swr (m - i) m i i d' d'') : ∀ x, a ≤ x → x < b → d''[x]! = if x < a + (b - m) then d[m + (x - a)]! else d[x - (b - m)]! := by
  have hw := h.wi
  have hv := h.wj
  intro x h1 h2
  by_cases c : x < m - i ∨ m + i ≤ x
  · rw [hs.rest x (fun t ht => by omega)]
    exact h.out x h1 h2 c
  · by_cases c2 : x < m
    · obtain ⟨t, rfl⟩ : ∃ t, x = m - i + t := ⟨x - (m - i), by omega⟩
      rw [hs.lo t (by omega)]
      have := h.lo (m - i + t) (by omega) (by omega)
      rw [Nat.add_sub_cancel_left] at this
      exact this
    · obtain ⟨t, rfl⟩ : ∃ t, x = m + t := ⟨x - m, by omega⟩
      rw [hs.hi t (by omega)]
      have := h.hi (m + t) (by omega) (by omega)
      rw [show m + t - i = m - i + t by omega] at this
      exact this
variable {lt : α → α → Bool}
set_option linter.unusedSectionVars false
theorem swo_asym (h : SWO lt) {x y : α} (hxy : lt x y = true) : lt y x = false := by
  cases c : lt y x with
  | false => rfl
  | true => exact absurd (h.trans x y x hxy c) (by rw [h.irrefl]; decide)
theorem sorted_le (h : SWO lt) {a b : Nat} {d : Array α} (hs : SortedIn lt a b d) {x y : Nat} (h1 : a ≤ x) (h2 : x ≤ y) (h3 : y < b) : lt d[y]! d[x]! = false := by
  by_cases c : x = y
  · subst c; exact h.irrefl _
  · exact hs x y h1 (by omega) h3
/-- Behind the rotation: each half is two sorted runs, and none of the second is less than one of the first. -/
theorem merge_split (h : SWO lt) {a m b s e mid : Nat} {d d' : Array α} (ha : a ≤ s) (hsm : s ≤ m) (hme : m ≤ e) (heb : e ≤ b) (hmid : s + e = mid + m) (hu : SortedIn lt a m d) (hv : SortedIn lt m b d)
    (hlo : s = a ∨ e = b ∨ lt d[e]! d[s - 1]! = false) (hhi : s = m ∨ e = m ∨ lt d[e - 1]! d[s]! = true)
    (hin : ∀ x, s ≤ x → x < e → d'[x]! = if x < s + (e - m) then d[m + (x - s)]! else d[x - (e - m)]!) (hout : ∀ x, x < s ∨ e ≤ x → d'[x]! = d[x]!) :
    SortedIn lt a s d' ∧ SortedIn lt s mid d' ∧ SortedIn lt mid e d' ∧ SortedIn lt e b d' ∧ (∀ x y, a ≤ x → x < mid → mid ≤ y → y < b → lt d'[y]! d'[x]! = false) := by
  have hm1 : s + (e - m) = mid := by omega
  rw [hm1] at hin
  have g1 : ∀ x, s ≤ x → x < mid → d'[x]! = d[m + (x - s)]! := fun x h1 h2 => by rw [hin x h1 (by omega), if_pos h2]
  have g2 : ∀ x, mid ≤ x → x < e → d'[x]! = d[x - (e - m)]! := fun x h1 h2 => by rw [hin x (by omega) h2, if_neg (by omega)]
  refine ⟨fun i j h1 h2 h3 => ?_, fun i j h1 h2 h3 => ?_, fun i j h1 h2 h3 => ?_, fun i j h1 h2 h3 => ?_, fun x y h1 h2 h3 h4 => ?_⟩
  · rw [hout i (by omega), hout j (by omega)]; exact hu i j h1 h2 (by omega)
  · rw [g1 i (by omega) (by omega), g1 j (by omega) h3]; exact hv _ _ (by omega) (by omega) (by omega)
  · rw [g2 i h1 (by omega), g2 j (by omega) h3]; exact hu _ _ (by omega) (by omega) (by omega)
  · rw [hout i (by omega), hout j (by omega)]; exact hv i j (by omega) h2 h3
  · by_cases c1 : x < s
    · rw [hout x (by omega)]
      by_cases c2 : y < e
      · rw [g2 y h3 c2]
        exact hu _ _ h1 (by omega) (by omega)
      · rw [hout y (by omega)]
        rcases hlo with q | q | q
        · omega
        · omega
        · exact h.ntrans _ _ _ (h.ntrans _ _ _ (sorted_le h hv (x := e) (by omega) (by omega) h4) q) (sorted_le h hu (y := s - 1) h1 (by omega) (by omega))
    · rw [g1 x (by omega) h2]
      by_cases c2 : y < e
      · rw [g2 y h3 c2]
        rcases hhi with q | q | q
        · omega
        · omega
        · exact h.ntrans _ _ _ (h.ntrans _ _ _ (sorted_le h hu (x := s) ha (by omega) (by omega)) (swo_asym h q)) (sorted_le h hv (y := e - 1) (by omega) (by omega) (by omega))
      · rw [hout y (by omega)]
        exact hv _ _ (by omega) (by omega) h4
/-- Two runs, none of the second less than one of the first, each sorted among itself. -/
theorem merge_glue {a mid b : Nat} {d d1 d2 : Array α} (h1 : a ≤ mid) (h2 : mid ≤ b) (hb : b ≤ d.size) (hc : ∀ x y, a ≤ x → x < mid → mid ≤ y → y < b → lt d[y]! d[x]! = false)
    (p1 : PermIn a mid d d1) (s1 : SortedIn lt a mid d1) (p2 : PermIn mid b d1 d2) (s2 : SortedIn lt mid b d2) : PermIn a b d d2 ∧ SortedIn lt a b d2 := by
  have z1 := p1.1
  refine ⟨pi_trans (pi_mono (Nat.le_refl _) h2 hb p1) (pi_mono h1 (Nat.le_refl _) (by omega) p2), fun i j g1 g2 g3 => ?_⟩
  by_cases c : j < mid
  · rw [p2.2.1 i (by omega), p2.2.1 j (by omega)]; exact s1 i j g1 g2 c
  · by_cases c2 : i < mid
    · have q1 : ∀ y, mid ≤ y → y < b → ∀ x, a ≤ x → x < mid → lt d1[y]! d1[x]! = false := fun y y1 y2 => by
        refine permIn_all d d1 a mid (fun v => lt d1[y]! v = false) (by omega) p1 fun x x1 x2 => ?_
        show lt d1[y]! d[x]! = false
        rw [p1.2.1 y (by omega)]
        exact hc x y x1 x2 y1 y2
      have q2 := permIn_all d1 d2 mid b (fun v => lt v d1[i]! = false) (by omega) p2 fun y y1 y2 => q1 y y1 y2 i g1 c2
      rw [p2.2.1 i (by omega)]
      exact q2 j (by omega) g3
    · exact s2 i j (by omega) g2 g3
/-- One element ahead of a sorted run goes to its place. -/
theorem merge_one (h : SWO lt) {a b i : Nat} {d d' : Array α} (hv : SortedIn lt (a + 1) b d) (h1 : a + 1 ≤ i) (h2 : i ≤ b) (hlo : i = a + 1 ∨ lt d[i - 1]! d[a]! = true) (hhi : i = b ∨ lt d[i]! d[a]! = false)
    (g1 : ∀ x, a ≤ x → x < i - 1 → d'[x]! = d[x + 1]!) (g2 : d'[i - 1]! = d[a]!) (g3 : ∀ x, i ≤ x → d'[x]! = d[x]!) : SortedIn lt a b d' := by
  intro x y hx hxy hy
  by_cases c1 : y < i - 1
  · rw [g1 x hx (by omega), g1 y (by omega) c1]; exact hv _ _ (by omega) (by omega) (by omega)
  · by_cases c2 : y = i - 1
    · rw [c2, g2, g1 x hx (by omega)]
      rcases hlo with q | q
      · omega
      · exact h.ntrans _ _ _ (swo_asym h q) (sorted_le h hv (y := i - 1) (by omega) (by omega) (by omega))
    · rw [g3 y (by omega)]
      by_cases c3 : x < i - 1
      · rw [g1 x hx c3]; exact hv _ _ (by omega) (by omega) hy
      · by_cases c4 : x = i - 1
        · rw [c4, g2]
          rcases hhi with q | q
          · omega
          · exact h.ntrans _ _ _ (sorted_le h hv (x := i) (by omega) (by omega) hy) q
        · rw [g3 x (by omega)]; exact hv _ _ (by omega) hxy hy
/-- One element behind a sorted run goes to its place. -/
theorem merge_last (h : SWO lt) {a m i : Nat} {d d' : Array α} (hu : SortedIn lt a m d) (h1 : a ≤ i) (h2 : i ≤ m) (hlo : i = a ∨ lt d[m]! d[i - 1]! = false) (hhi : i = m ∨ lt d[m]! d[i]! = true)
    (g1 : ∀ x, i < x → x ≤ m → d'[x]! = d[x - 1]!) (g2 : d'[i]! = d[m]!) (g3 : ∀ x, x < i → d'[x]! = d[x]!) : SortedIn lt a (m + 1) d' := by
  intro x y hx hxy hy
  by_cases c1 : y < i
  · rw [g3 x (by omega), g3 y c1]; exact hu _ _ hx hxy (by omega)
  · by_cases c2 : y = i
    · rw [c2, g2, g3 x (by omega)]
      rcases hlo with q | q
      · omega
      · exact h.ntrans _ _ _ q (sorted_le h hu (y := i - 1) hx (by omega) (by omega))
    · rw [g1 y (by omega) (by omega)]
      by_cases c3 : x < i
      · rw [g3 x c3]; exact hu _ _ hx (by omega) (by omega)
      · by_cases c4 : x = i
        · rw [c4, g2]
          rcases hhi with q | q
          · omega
          · exact h.ntrans _ _ _ (sorted_le h hu (x := i) h1 (by omega) (by omega)) (swo_asym h q)
        · rw [g1 x (by omega) (by omega)]; exact hu _ _ (by omega) (by omega) (by omega)
end Go.Proofs.Ytmjohabfikpahaa
