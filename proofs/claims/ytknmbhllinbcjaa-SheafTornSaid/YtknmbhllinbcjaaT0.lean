/- Numbers as bytes of the package tally, plain. -/
namespace Go.Proofs.Ytknmbhllinbcjaa
/-- The bytes ahead: of the number a less one, all of them at least 128; none for 0. -/
def hA (a : Nat) : List UInt8 := if a = 0 then [] else hA ((a - 1) / 128) ++ [UInt8.ofNat (128 + (a - 1) % 128)]
termination_by a
decreasing_by exact Nat.lt_of_le_of_lt (Nat.div_le_self _ _) (by omega)
theorem hA_zero : hA 0 = [] := by rw [hA]; rfl
theorem hA_pos {a : Nat} (h : a ≠ 0) : hA a = hA ((a - 1) / 128) ++ [UInt8.ofNat (128 + (a - 1) % 128)] := by rw [hA, if_neg h]
/-- A number's bytes. -/
def tnum (n : Nat) : List UInt8 := hA (n / 128) ++ [UInt8.ofNat (n % 128)]
def edge : Nat := 144115188075855872
/-- What is taken: a is one more than what was read, 0 at the start. -/
def tk (a : Nat) : List UInt8 → Option (Nat × List UInt8)
  | [] => none
  | c :: l => if edge ≤ a then none else if c.toNat < 128 then some (128 * a + c.toNat, l) else tk (128 * a + c.toNat % 128 + 1) l
def takeN (l : List UInt8) : Option (Nat × List UInt8) := tk 0 l
theorem hA_ge (a : Nat) : ∀ c ∈ hA a, 128 ≤ c.toNat := by
  induction a using Nat.strongRecOn with
  | ind a ih =>
    by_cases h : a = 0
    · subst h; rw [hA_zero]; intro c hc; cases hc
    · rw [hA_pos h]
      intro c hc
      rcases List.mem_append.1 hc with hc | hc
      · exact ih _ (Nat.lt_of_le_of_lt (Nat.div_le_self _ _) (by omega)) c hc
      · rw [List.mem_singleton.1 hc, UInt8.toNat_ofNat']
        omega
theorem tk_none (l : List UInt8) : ∀ a, (∀ c ∈ l, 128 ≤ c.toNat) → tk a l = none := by
  induction l with
  | nil => intro a _; rfl
  | cons c l ih =>
    intro a h
    have hc := h c (List.mem_cons_self ..)
    rw [tk, if_neg (show ¬ c.toNat < 128 by omega), ih _ (fun c hc => h c (List.mem_cons_of_mem _ hc)), ite_self]
theorem tk_hA (a : Nat) (ha : a ≤ edge) (rest : List UInt8) : tk 0 (hA a ++ rest) = tk a rest := by
  induction a using Nat.strongRecOn generalizing rest with
  | ind a ih =>
    by_cases h : a = 0
    · subst h; rw [hA_zero]; rfl
    · have hl : (a - 1) / 128 < a := Nat.lt_of_le_of_lt (Nat.div_le_self _ _) (by omega)
      rw [hA_pos h, List.append_assoc, ih _ hl (by omega), List.singleton_append, tk, if_neg (by unfold edge at *; omega), UInt8.toNat_ofNat', if_neg (by omega)]
      congr 1
      omega
theorem takeN_tnum (n : Nat) (hn : n < 18446744073709551616) (rest : List UInt8) : takeN (tnum n ++ rest) = some (n, rest) := by
  unfold takeN tnum
  rw [List.append_assoc, tk_hA _ (by unfold edge; omega), List.singleton_append, tk, if_neg (by unfold edge; omega), UInt8.toNat_ofNat', if_pos (by omega)]
  congr 2
  omega
theorem tk_once (l : List UInt8) : ∀ a n r, tk a l = some (n, r) → n < 18446744073709551616 ∧ hA a ++ l = tnum n ++ r := by
  induction l with
  | nil => intro a n r h; cases h
  | cons c l ih =>
    intro a n r h
    rw [tk] at h
    by_cases he : edge ≤ a
    · rw [if_pos he] at h; cases h
    · rw [if_neg he] at h
      have hc := c.toNat_lt
      by_cases h8 : c.toNat < 128
      · rw [if_pos h8] at h
        obtain ⟨rfl, rfl⟩ := Prod.mk.inj (Option.some.inj h)
        refine ⟨by unfold edge at he; omega, ?_⟩
        unfold tnum
        rw [show (128 * a + c.toNat) / 128 = a by omega, show (128 * a + c.toNat) % 128 = c.toNat by omega, List.append_assoc, List.singleton_append, UInt8.ofNat_toNat]
      · rw [if_neg h8] at h
        obtain ⟨h1, h2⟩ := ih _ _ _ h
        refine ⟨h1, ?_⟩
        rw [← h2, hA_pos (a := 128 * a + c.toNat % 128 + 1) (by omega), List.append_assoc, List.singleton_append]
        rw [show (128 * a + c.toNat % 128 + 1 - 1) / 128 = a by omega, show 128 + (128 * a + c.toNat % 128 + 1 - 1) % 128 = c.toNat by omega, UInt8.ofNat_toNat]
theorem takeN_once {l : List UInt8} {n : Nat} {r : List UInt8} (h : takeN l = some (n, r)) : n < 18446744073709551616 ∧ l = tnum n ++ r := by
  obtain ⟨h1, h2⟩ := tk_once l 0 n r h
  rw [hA_zero] at h2
  exact ⟨h1, h2⟩
theorem tnum_length_pos (n : Nat) : 0 < (tnum n).length := by unfold tnum; simp
/-- No beginning of a number is a number. -/
theorem takeN_short (n j : Nat) (hj : j < (tnum n).length) : takeN ((tnum n).take j) = none := by
  unfold takeN
  refine tk_none _ _ fun c hc => ?_
  unfold tnum at hc hj
  rw [List.length_append, List.length_singleton] at hj
  rw [List.take_append_of_le_length (by omega)] at hc
  exact hA_ge _ c (List.mem_of_mem_take hc)
/-- The number that bytes ahead say, and one more. -/
def vA (a : Nat) : List UInt8 → Nat
  | [] => a
  | c :: l => vA (128 * a + c.toNat % 128 + 1) l
theorem vA_snoc (l : List UInt8) (c : UInt8) : ∀ a, vA a (l ++ [c]) = 128 * vA a l + c.toNat % 128 + 1 := by
  induction l with
  | nil => intro a; rfl
  | cons d l ih => intro a; exact ih _
theorem vA_hA (a : Nat) : vA 0 (hA a) = a := by
  induction a using Nat.strongRecOn with
  | ind a ih =>
    by_cases h : a = 0
    · subst h; rw [hA_zero]; rfl
    · have hl : (a - 1) / 128 < a := Nat.lt_of_le_of_lt (Nat.div_le_self _ _) (by omega)
      rw [hA_pos h, vA_snoc, ih _ hl, UInt8.toNat_ofNat']
      omega
theorem hA_vA (l : List UInt8) : ∀ a, (∀ c ∈ l, 128 ≤ c.toNat) → hA (vA a l) = hA a ++ l := by
  induction l with
  | nil => intro a _; rw [List.append_nil]; rfl
  | cons c l ih =>
    intro a h
    have hc := h c (List.mem_cons_self ..)
    have hc2 := c.toNat_lt
    rw [vA, ih _ (fun c hc => h c (List.mem_cons_of_mem _ hc)), hA_pos (a := 128 * a + c.toNat % 128 + 1) (by omega), List.append_assoc, List.singleton_append]
    rw [show (128 * a + c.toNat % 128 + 1 - 1) / 128 = a by omega, show 128 + (128 * a + c.toNat % 128 + 1 - 1) % 128 = c.toNat by omega, UInt8.ofNat_toNat]
theorem vA_le (l : List UInt8) : ∀ a, a ≤ vA a l := by
  induction l with
  | nil => intro a; exact Nat.le_refl _
  | cons c l ih => intro a; exact Nat.le_trans (by omega) (ih _)
theorem vA_pow (l : List UInt8) : ∀ a, a * 128 ^ l.length ≤ vA a l := by
  induction l with
  | nil => intro a; simp [vA]
  | cons c l ih =>
    intro a
    refine Nat.le_trans ?_ (ih _)
    rw [List.length_cons, Nat.pow_succ, Nat.mul_comm (128 ^ l.length) 128, ← Nat.mul_assoc]
    exact Nat.mul_le_mul_right _ (by omega)
theorem hA_inj {a b : Nat} (h : hA a = hA b) : a = b := by rw [← vA_hA a, h, vA_hA]
theorem tnum_inj {a b : Nat} (h : tnum a = tnum b) : a = b := by
  unfold tnum at h
  obtain ⟨h1, h2⟩ := List.append_inj' h rfl
  have h3 := hA_inj h1
  have h4 : (UInt8.ofNat (a % 128)).toNat = (UInt8.ofNat (b % 128)).toNat := by rw [(List.cons.inj h2).1]
  rw [UInt8.toNat_ofNat', UInt8.toNat_ofNat'] at h4
  omega
/-- Bytes ahead and a last one are the number that they say. -/
theorem tnum_vA (p : List UInt8) (hp : ∀ c ∈ p, 128 ≤ c.toNat) (c : UInt8) (hc : c.toNat < 128) : tnum (128 * vA 0 p + c.toNat) = p ++ [c] := by
  unfold tnum
  rw [show (128 * vA 0 p + c.toNat) / 128 = vA 0 p by omega, show (128 * vA 0 p + c.toNat) % 128 = c.toNat by omega, hA_vA p 0 hp, hA_zero, UInt8.ofNat_toNat]
  rfl
theorem tk_edge (a : Nat) (l : List UInt8) (h : edge ≤ a) : tk a l = none := by
  cases l with
  | nil => rfl
  | cons c l => rw [tk, if_pos h]
/-- How bytes behind bytes ahead are read. -/
theorem tk_ahead (p l : List UInt8) (hp : ∀ c ∈ p, 128 ≤ c.toNat) : ∀ a, tk a (p ++ l) = tk (vA a p) l := by
  induction p with
  | nil => intro a; rfl
  | cons c p ih =>
    intro a
    have hc := hp c (List.mem_cons_self ..)
    rw [List.cons_append, tk, vA, if_neg (show ¬ c.toNat < 128 by omega), ih (fun c hc => hp c (List.mem_cons_of_mem _ hc))]
    by_cases he : edge ≤ a
    · rw [if_pos he, tk_edge]
      have := vA_le p (128 * a + c.toNat % 128 + 1)
      omega
    · rw [if_neg he]
end Go.Proofs.Ytknmbhllinbcjaa
