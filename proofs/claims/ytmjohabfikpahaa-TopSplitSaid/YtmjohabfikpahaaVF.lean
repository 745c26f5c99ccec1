/- Plain: the slices of a total by weights: quotients, and the units that are left to the greatest rests. -/
import Derived.Test.YtmjohabfikpahaaVE
set_option linter.unusedVariables false
set_option linter.unusedSimpArgs false
namespace Go.Proofs.Ytmjohabfikpahaa
open Go Go.Sort
def qN (T S : Nat) (W : List Nat) (x : Nat) : Nat := T * W.getD x 0 / S
def rN (T S : Nat) (W : List Nat) (x : Nat) : Nat := T * W.getD x 0 % S
def share (T S : Nat) (W : List Nat) (x : Nat) : Shr := ⟨(qN T S W x : Int), (rN T S W x : Int), Fin.ofNat 4096 x⟩
def shares (T S : Nat) (W : List Nat) (i : Nat) : List Shr := (List.range i).map (share T S W)
theorem share_pl (T S : Nat) (W : List Nat) {x : Nat} (h : x < 4096) : (share T S W x).pl.val = x := by
  show x % 4096 = x
  exact Nat.mod_eq_of_lt h
theorem shares_len (T S : Nat) (W : List Nat) (i : Nat) : (shares T S W i).length = i := by unfold shares; simp
theorem shares_succ (T S : Nat) (W : List Nat) (i : Nat) : shares T S W (i + 1) = shares T S W i ++ [share T S W i] := by unfold shares; rw [List.range_succ, List.map_append]; rfl
/-- The sum of f up to n. -/
def usum (f : Nat → Nat) : Nat → Nat
  | 0 => 0
  | n + 1 => usum f n + f n
theorem usum_eq (f : Nat → Nat) (n : Nat) : ((List.range n).map f).sum = usum f n := by
  induction n with
  | zero => rfl
  | succ n ih => rw [List.range_succ, List.map_append, List.sum_append, ih]; simp [usum]
theorem usum_le {f : Nat → Nat} {S : Nat} (h : ∀ x, f x < S) (n : Nat) : usum f n + n ≤ S * n := by
  induction n with
  | zero => simp [usum]
  | succ n ih =>
    have := h n
    rw [Nat.mul_succ]
    show usum f n + f n + (n + 1) ≤ _
    omega
theorem usum_mono (f : Nat → Nat) {i n : Nat} (h : i ≤ n) : usum f i ≤ usum f n := by
  induction n with
  | zero => obtain rfl : i = 0 := by omega
            exact Nat.le_refl _
  | succ n ih =>
    by_cases c : i = n + 1
    · rw [c]; exact Nat.le_refl _
    · exact Nat.le_trans (ih (by omega)) (Nat.le_add_right _ _)
theorem getD_sum (W : List Nat) : usum (fun x => W.getD x 0) W.length = W.sum := by
  rw [← usum_eq]
  congr 1
  refine List.ext_getElem (by simp) fun j h1 h2 => ?_
  simp only [List.getElem_map, List.getElem_range]
  rw [List.getD_eq_getElem?_getD, List.getElem?_eq_getElem h2]
  rfl
theorem parts_sum (T S : Nat) (W : List Nat) (n : Nat) : usum (qN T S W) n * S + usum (rN T S W) n = T * usum (fun x => W.getD x 0) n := by
  induction n with
  | zero => simp [usum]
  | succ n ih =>
    show (usum (qN T S W) n + qN T S W n) * S + (usum (rN T S W) n + rN T S W n) = T * (usum (fun x => W.getD x 0) n + W.getD n 0)
    rw [Nat.mul_add, ← ih, Nat.add_mul]
    have e : qN T S W n * S + rN T S W n = T * W.getD n 0 := by
      unfold qN rN
      have := Nat.div_add_mod (T * W.getD n 0) S
      rw [Nat.mul_comm S] at this
      exact this
    omega
/-- What is left for the rests. -/
theorem left_over {T S : Nat} {W : List Nat} (hS : S = W.sum) (h0 : 0 < S) : usum (qN T S W) W.length ≤ T ∧ usum (rN T S W) W.length = S * (T - usum (qN T S W) W.length) ∧ T - usum (qN T S W) W.length ≤ W.length := by
  have h := parts_sum T S W W.length
  rw [getD_sum, ← hS] at h
  have h1 : usum (qN T S W) W.length * S ≤ T * S := by omega
  have h2 := Nat.le_of_mul_le_mul_right h1 h0
  have h3 : usum (rN T S W) W.length = S * (T - usum (qN T S W) W.length) := by
    rw [Nat.mul_sub, Nat.mul_comm S T, Nat.mul_comm S]; omega
  refine ⟨h2, h3, ?_⟩
  have h4 := usum_le (f := rN T S W) (S := S) (fun x => Nat.mod_lt _ h0) W.length
  rw [h3] at h4
  have h5 : S * (T - usum (qN T S W) W.length) ≤ S * W.length := by omega
  exact Nat.le_of_mul_le_mul_left h5 h0
/-- The shares, in an order. -/
structure Sorted (T S : Nat) (W : List Nat) (D : List Shr) : Prop where
  perm : D.Perm (shares T S W W.length)
  ord : ∀ i j, i < j → j < D.length → ltOf cfS D[j]! D[i]! = false
  len : W.length ≤ 4096
namespace Sorted
variable {T S : Nat} {W : List Nat} {D : List Shr}
theorem size (h : Sorted T S W D) : D.length = W.length := by rw [h.perm.length_eq, shares_len]
theorem share_at (h : Sorted T S W D) {j : Nat} (hj : j < W.length) : D[j]! = share T S W D[j]!.pl.val ∧ D[j]!.pl.val < W.length := by
  have hl := h.size
  rw [getElem!_pos D j (by omega)]
  have hm : D[j]'(by omega) ∈ shares T S W W.length := h.perm.mem_iff.1 (List.getElem_mem _)
  unfold shares at hm
  obtain ⟨x, hx, e⟩ := List.mem_map.1 hm
  have hx2 := List.mem_range.1 hx
  rw [← e, share_pl T S W (by have := h.len; omega)]
  exact ⟨rfl, hx2⟩
theorem nodup (h : Sorted T S W D) : (D.map (fun x => x.pl.val)).Nodup := by
  have hp := h.perm.map (fun x => x.pl.val)
  refine hp.nodup_iff.2 ?_
  unfold shares
  rw [List.map_map]
  have e : (List.range W.length).map ((fun x : Shr => x.pl.val) ∘ share T S W) = List.range W.length := by
    have : ∀ x ∈ List.range W.length, ((fun x : Shr => x.pl.val) ∘ share T S W) x = x := fun x hx => share_pl T S W (by have := List.mem_range.1 hx; have := h.len; omega)
    rw [List.map_congr_left this]; simp
  rw [e]
  exact List.nodup_range
theorem inj (h : Sorted T S W D) {i j : Nat} (hi : i < W.length) (hj : j < W.length) (he : D[i]!.pl.val = D[j]!.pl.val) : i = j := by
  have hl := h.size
  have hn := h.nodup
  rw [getElem!_pos D i (by omega), getElem!_pos D j (by omega)] at he
  have h1 : (D.map (fun x => x.pl.val))[i]'(by simp; omega) = (D.map (fun x => x.pl.val))[j]'(by simp; omega) := by simpa using he
  exact (List.getElem_inj hn).1 h1
theorem place (h : Sorted T S W D) {x : Nat} (hx : x < W.length) : ∃ j, j < W.length ∧ D[j]! = share T S W x := by
  have hl := h.size
  have hm : share T S W x ∈ D := h.perm.mem_iff.2 (by unfold shares; exact List.mem_map.2 ⟨x, List.mem_range.2 hx, rfl⟩)
  obtain ⟨j, hj, e⟩ := List.getElem_of_mem hm
  exact ⟨j, by omega, by rw [getElem!_pos D j hj]; exact e⟩
end Sorted
/-- x is among the first m. -/
def Ch (D : List Shr) (m x : Nat) : Prop := ∃ j, j < m ∧ D[j]!.pl.val = x
open Classical in
noncomputable def outAt (T S : Nat) (W : List Nat) (D : List Shr) (m x : Nat) : Nat := qN T S W x + if Ch D m x then 1 else 0
noncomputable def outs (T S : Nat) (W : List Nat) (D : List Shr) (m : Nat) : List Int := (List.range W.length).map fun x => (outAt T S W D m x : Int)
section
variable {T S : Nat} {W : List Nat} {D : List Shr}
theorem outs_len (m : Nat) : (outs T S W D m).length = W.length := by unfold outs; simp
theorem outs_at (m : Nat) {x : Nat} (hx : x < W.length) : (outs T S W D m).getD x 0 = (outAt T S W D m x : Int) := by
  unfold outs
  rw [List.getD_eq_getElem?_getD, List.getElem?_map, List.getElem?_range hx]
  rfl
theorem outs_get (m x : Nat) (hx : x < (outs T S W D m).length) : (outs T S W D m)[x] = (outAt T S W D m x : Int) := by simp [outs]
theorem outAt_zero (x : Nat) : outAt T S W D 0 x = qN T S W x := by
  unfold outAt
  rw [if_neg (fun ⟨j, hj, _⟩ => by omega)]
  rfl
theorem not_ch (h : Sorted T S W D) {m : Nat} (hm : m < W.length) : ¬ Ch D m D[m]!.pl.val := fun ⟨j, hj, e⟩ => by
  have := h.inj (by omega) hm e
  omega
theorem outAt_new (h : Sorted T S W D) {m : Nat} (hm : m < W.length) : outAt T S W D m D[m]!.pl.val = qN T S W D[m]!.pl.val := by
  unfold outAt
  rw [if_neg (not_ch h hm)]
  rfl
theorem outs_set (h : Sorted T S W D) {m : Nat} (hm : m < W.length) : (outs T S W D m).set D[m]!.pl.val ((qN T S W D[m]!.pl.val : Int) + 1) = outs T S W D (m + 1) := by
  refine List.ext_getElem (by rw [List.length_set, outs_len, outs_len]) fun x h1 h2 => ?_
  rw [outs_len] at h2
  rw [List.getElem_set, outs_get, outs_get]
  split
  · rename_i e
    subst e
    unfold outAt
    rw [if_pos ⟨m, by omega, rfl⟩]
    omega
  · rename_i e
    have : Ch D m x ↔ Ch D (m + 1) x := ⟨fun ⟨j, hj, e2⟩ => ⟨j, by omega, e2⟩, fun ⟨j, hj, e2⟩ => ⟨j, by
      have : j ≠ m := fun e3 => e (by rw [← e3]; exact e2)
      omega, e2⟩⟩
    unfold outAt
    by_cases c : Ch D m x
    · rw [if_pos c, if_pos (this.1 c)]
    · rw [if_neg c, if_neg (fun c2 => c (this.2 c2))]
theorem sum_set (l : List Int) (x : Nat) (v : Int) (hx : x < l.length) : (l.set x v).sum = l.sum - l.getD x 0 + v := by
  induction l generalizing x with
  | nil => simp at hx
  | cons a l ih =>
    cases x with
    | zero => simp; omega
    | succ x =>
      have := ih x (by simpa using hx)
      simp only [List.set_cons_succ, List.sum_cons, List.getD_cons_succ]
      omega
theorem outs_sum (h : Sorted T S W D) : ∀ m, m ≤ W.length → (outs T S W D m).sum = (usum (qN T S W) W.length : Int) + (m : Int) := by
  intro m
  induction m with
  | zero =>
    intro _
    have e : outs T S W D 0 = ((List.range W.length).map (qN T S W)).map (fun n : Nat => (n : Int)) := by
      unfold outs
      rw [List.map_map]
      refine List.map_congr_left fun x _ => ?_
      rw [outAt_zero]; rfl
    rw [e, ← usum_eq]
    generalize (List.range W.length).map (qN T S W) = l
    induction l with
    | nil => rfl
    | cons a l ih =>
      simp only [List.map_cons, List.sum_cons]
      omega
  | succ m ih =>
    intro hm
    have h1 := ih (by omega)
    have hp := (h.share_at (j := m) (by omega)).2
    rw [← outs_set h (by omega), sum_set _ _ _ (by rw [outs_len]; exact hp), outs_at m hp, outAt_new h (by omega), h1]
    omega
/-- What the slices are, as the law asks. -/
structure Told (T S : Nat) (W : List Nat) (o : List Int) : Prop where
  len : o.length = W.length
  sum : o.sum = (T : Int)
  each : ∀ x, x < W.length → o.getD x 0 = (qN T S W x : Int) ∨ (o.getD x 0 = (qN T S W x : Int) + 1 ∧ rN T S W x ≠ 0)
  ord : ∀ x y, x < W.length → y < W.length → o.getD x 0 = (qN T S W x : Int) + 1 → o.getD y 0 = (qN T S W y : Int) → rN T S W y < rN T S W x ∨ (rN T S W y = rN T S W x ∧ x < y)
theorem sum_zeros (S : Nat) : ∀ (l : List Nat) (a : Nat), (∀ v ∈ l, v < S) → (∀ j, a ≤ j → j < l.length → l[j]! = 0) → l.sum ≤ a * S := by
  intro l
  induction l with
  | nil => intro a _ _; simp
  | cons v l ih =>
    intro a h1 h2
    have hv := h1 v (by simp)
    cases a with
    | zero =>
      have e := ih 0 (fun u hu => h1 u (by simp [hu])) (fun j _ hj => by have := h2 (j + 1) (by omega) (by simpa using hj); simpa using this)
      have e0 := h2 0 (by omega) (by simp)
      simp at e0
      simp only [List.sum_cons]
      omega
    | succ a =>
      have e := ih a (fun u hu => h1 u (by simp [hu])) (fun j h3 hj => by have := h2 (j + 1) (by omega) (by simpa using hj); simpa using this)
      rw [Nat.add_mul]
      simp only [List.sum_cons]
      omega
theorem told (h : Sorted T S W D) (hS : S = W.sum) (h0 : 0 < S) : Told T S W (outs T S W D (T - usum (qN T S W) W.length)) := by
  obtain ⟨l1, l2, l3⟩ := left_over (T := T) hS h0
  generalize hm : T - usum (qN T S W) W.length = m at *
  have hr : ∀ j, j < W.length → D[j]!.r = (rN T S W D[j]!.pl.val : Int) := fun j hj => by
    have := (h.share_at hj).1
    generalize D[j]! = d at *
    rw [this]
    show (rN T S W d.pl.val : Int) = (rN T S W (share T S W d.pl.val).pl.val : Int)
    rw [share_pl T S W (by omega)]
  have hord : ∀ i j, i < j → j < W.length → D[j]!.r < D[i]!.r ∨ (D[j]!.r = D[i]!.r ∧ D[i]!.pl.val ≤ D[j]!.pl.val) := fun i j hij hj => by
    have := h.ord i j hij (by rw [h.size]; exact hj)
    have h2 : ¬ (D[i]!.r < D[j]!.r ∨ (D[j]!.r = D[i]!.r ∧ D[j]!.pl.val < D[i]!.pl.val)) := by rw [← cfS_neg, this]; decide
    omega
  -- those that are chosen have a rest
  have hpos : ∀ a, a < m → rN T S W D[a]!.pl.val ≠ 0 := fun a ha hz => by
    have e1 : (D.map (fun x => x.r.toNat)).sum = usum (rN T S W) W.length := by
      rw [(h.perm.map (fun x => x.r.toNat)).sum_nat, ← usum_eq]
      unfold shares
      rw [List.map_map]
      rfl
    have e2 := sum_zeros S (D.map (fun x => x.r.toNat)) a (fun v hv => by
      obtain ⟨x, hx, e⟩ := List.mem_map.1 hv
      have hm2 := h.perm.mem_iff.1 hx
      unfold shares at hm2
      obtain ⟨y, hy, e3⟩ := List.mem_map.1 hm2
      rw [← e, ← e3]
      show ((rN T S W y : Int)).toNat < S
      rw [Int.toNat_natCast]
      exact Nat.mod_lt _ h0) (fun j h1 h2 => by
      rw [List.length_map, h.size] at h2
      rw [getElem!_pos _ j (by rw [List.length_map, h.size]; exact h2), List.getElem_map]
      have hjr := hr j h2
      rw [getElem!_pos D j (by rw [h.size]; exact h2)] at hjr
      by_cases c : j = a
      · subst c
        rw [getElem!_pos D j (by rw [h.size]; exact h2)] at hz
        rw [hjr, hz]; rfl
      · have h3 := hord a j (by omega) h2
        have h4 := hr a (by omega)
        rw [hz] at h4
        rw [getElem!_pos D j (by rw [h.size]; exact h2), hjr] at h3
        rw [hjr, Int.toNat_natCast]
        omega)
    rw [e1, l2, Nat.mul_comm] at e2
    have := Nat.le_of_mul_le_mul_right e2 h0
    omega
  refine ⟨outs_len _, ?_, fun x hx => ?_, fun x y hx hy e1 e2 => ?_⟩
  · rw [outs_sum h m l3]; omega
  · rw [outs_at m hx]
    unfold outAt
    by_cases c : Ch D m x
    · rw [if_pos c]
      obtain ⟨j, hj, e⟩ := c
      exact .inr ⟨by omega, by rw [← e]; exact hpos j hj⟩
    · rw [if_neg c]; exact .inl rfl
  · rw [outs_at m hx] at e1
    rw [outs_at m hy] at e2
    unfold outAt at e1 e2
    have c1 : Ch D m x := by
      by_cases c : Ch D m x
      · exact c
      · rw [if_neg c] at e1; omega
    have c2 : ¬ Ch D m y := fun c => by rw [if_pos c] at e2; omega
    obtain ⟨a, ha, ea⟩ := c1
    obtain ⟨b, hb, eb⟩ := h.place hy
    have eb2 : D[b]!.pl.val = y := by rw [eb]; exact share_pl T S W (by have := h.len; omega)
    have hab : a < b := by
      by_cases c : b < m
      · exact absurd ⟨b, c, eb2⟩ c2
      · omega
    have h3 := hord a b hab hb
    rw [hr a (by omega), hr b hb, ea, eb2] at h3
    have hne : x ≠ y := fun e => by
      have := h.inj (i := a) (j := b) (by omega) hb (by rw [ea, eb2, e])
      omega
    omega
end
end Go.Proofs.Ytmjohabfikpahaa
