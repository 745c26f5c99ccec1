import Derived.Orders
import Derived.RegionTactic
import Derived.WalkKit
import Derived.KernelRfl
import Derived.Test.YtnhgakmnkpjpdaaGreatD7
import Derived.Deep.RegionLaw
/- A general law, over any program: a region that draws its order, proved operation by operation out of what the operations behind it have left, whatever the order. -/
set_option linter.unusedVariables false
set_option linter.unusedSimpArgs false
namespace Go.Proofs.YtnhgakmnkpjpdaaGreat
open Go
/-- No guards; each operation has a slot of its own, or none; waits are for elder ones. -/
def wfOps (ops : Array Oper) (n : Nat) : Bool := (List.range ops.size).all fun i => match ops[i]? with
  | none => true
  | some o => o.guard.isNone && (match o.dst with | some d => decide (d < n) && (List.range ops.size).all (fun j => j == i || ((ops[j]?).bind (·.dst) != some d)) | none => true) && o.after.all (fun e => decide (e.on < i))
theorem wfOps_at {ops : Array Oper} {n : Nat} (h : wfOps ops n = true) {i : Nat} {o : Oper} (ho : ops[i]? = some o) :
    o.guard = none ∧ (∀ d, o.dst = some d → d < n ∧ ∀ j oj, ops[j]? = some oj → j ≠ i → oj.dst ≠ some d) ∧ ∀ e ∈ o.after, e.on < i := by
  have hi : i < ops.size := (Array.getElem?_eq_some_iff.1 ho).1
  have h1 := List.all_eq_true.1 h i (List.mem_range.2 hi)
  rw [ho] at h1
  simp only [Bool.and_eq_true] at h1
  obtain ⟨⟨h1, h2⟩, h3⟩ := h1
  refine ⟨Option.isNone_iff_eq_none.1 h1, fun d hd => ?_, fun e he => ?_⟩
  · rw [hd] at h2
    simp only [Bool.and_eq_true, decide_eq_true_eq] at h2
    refine ⟨h2.1, fun j oj hj hne e => ?_⟩
    have h4 := List.all_eq_true.1 h2.2 j (List.mem_range.2 (Array.getElem?_eq_some_iff.1 hj).1)
    rw [hj] at h4
    simp only [Option.bind_some, Bool.or_eq_true, beq_iff_eq, bne_iff_ne, ne_eq] at h4
    rcases h4 with h4 | h4
    · exact hne h4
    · exact h4 e
  · have := Array.all_eq_true_iff_forall_mem.1 h3 e he
    simpa using this
/-- The frame a is a0 with what the operations have left. -/
structure At (ops : Array Oper) (a0 : Act) (us : Nat → Option Value) (a : Act) : Prop where
  defers : a.defers = a0.defers
  size : a.tmps.size = a0.tmps.size
  done : ∀ i o v d, ops[i]? = some o → us i = some v → o.dst = some d → a.tmps[d]? = some v
  old : ∀ t, (∀ i o, ops[i]? = some o → (us i).isSome = true → o.dst ≠ some t) → a.tmps[t]? = a0.tmps[t]?
def upd (us : Nat → Option Value) (i : Nat) (v : Value) : Nat → Option Value := fun j => if j = i then some v else us j
theorem upd_same (us : Nat → Option Value) (i : Nat) (v : Value) : upd us i v i = some v := if_pos rfl
theorem upd_ne (us : Nat → Option Value) {i j : Nat} (v : Value) (h : j ≠ i) : upd us i v j = us j := if_neg h
theorem At.put {ops : Array Oper} {a0 a : Act} {us : Nat → Option Value} (h : At ops a0 us a) (hw : wfOps ops a0.tmps.size = true) {i : Nat} {o : Oper} (ho : ops[i]? = some o) (hu : us i = none) (v : Value) :
    At ops a0 (upd us i v) (a.put o.dst v) := by
  obtain ⟨-, hd, -⟩ := wfOps_at hw ho
  cases hdst : o.dst with
  | none =>
    refine ⟨h.defers, h.size, fun j oj u d hj huj hdj => ?_, fun t ht => h.old t (fun j oj hj huj => ?_)⟩
    · by_cases e : j = i
      · subst e; rw [ho] at hj; cases hj; rw [hdst] at hdj; cases hdj
      · rw [upd_ne _ _ e] at huj; exact h.done j oj u d hj huj hdj
    · by_cases e : j = i
      · subst e; rw [ho] at hj; cases hj; rw [hdst]; simp
      · exact ht j oj hj (by rw [upd_ne _ _ e]; exact huj)
  | some d =>
    obtain ⟨hlt, hne⟩ := hd d hdst
    refine ⟨h.defers, (Array.size_setIfInBounds ..).trans h.size, fun j oj u d' hj huj hdj => ?_, fun t ht => ?_⟩
    · show (a.tmps.setIfInBounds d v)[d']? = some u
      by_cases e : j = i
      · subst e; rw [ho] at hj; cases hj
        rw [hdst] at hdj; cases hdj
        rw [upd_same] at huj; cases huj
        rw [Array.getElem?_setIfInBounds_self_of_lt (by rw [h.size]; exact hlt)]
      · rw [upd_ne _ _ e] at huj
        have : d ≠ d' := fun e2 => hne j oj hj e (by rw [hdj, e2])
        rw [Array.getElem?_setIfInBounds_ne this]
        exact h.done j oj u d' hj huj hdj
    · show (a.tmps.setIfInBounds d v)[t]? = _
      have : d ≠ t := fun e2 => ht i o ho (by rw [upd_same]; rfl) (by rw [hdst, e2])
      rw [Array.getElem?_setIfInBounds_ne this]
      refine h.old t (fun j oj hj huj => ?_)
      by_cases e : j = i
      · subst e; rw [hu] at huj; cases huj
      · exact ht j oj hj (by rw [upd_ne _ _ e]; exact huj)
/-- What the operations leave, all of them. -/
def putAll (vs : Nat → Value) : List Oper → Nat → Act → Act
  | [], _, a => a
  | o :: l, n, a => putAll vs l (n + 1) (a.put o.dst (vs n))
theorem putAll_spec (vs : Nat → Value) : ∀ (l : List Oper) (n : Nat) (a : Act), (putAll vs l n a).defers = a.defers ∧ (putAll vs l n a).tmps.size = a.tmps.size ∧
    (∀ t, (∀ o ∈ l, o.dst ≠ some t) → (putAll vs l n a).tmps[t]? = a.tmps[t]?) ∧
    ∀ i o d, l[i]? = some o → o.dst = some d → d < a.tmps.size → (∀ j oj, l[j]? = some oj → i < j → oj.dst ≠ some d) → (putAll vs l n a).tmps[d]? = some (vs (n + i)) := by
  intro l
  induction l with
  | nil => intro n a; exact ⟨rfl, rfl, fun _ _ => rfl, fun i o d h => by simp at h⟩
  | cons o l ih =>
    intro n a
    obtain ⟨h1, h2, h3, h4⟩ := ih (n + 1) (a.put o.dst (vs n))
    have hs : (a.put o.dst (vs n)).tmps.size = a.tmps.size := by cases o.dst <;> simp [Act.put]
    refine ⟨h1.trans (by cases o.dst <;> rfl), h2.trans hs, fun t ht => ?_, fun i oi d hi hd hlt hlast => ?_⟩
    · refine (h3 t (fun o' ho' => ht o' (List.mem_cons_of_mem _ ho'))).trans ?_
      have := ht o (List.mem_cons_self ..)
      cases hdst : o.dst with
      | none => rfl
      | some d =>
        rw [hdst] at this
        show (a.tmps.setIfInBounds d (vs n))[t]? = _
        rw [Array.getElem?_setIfInBounds_ne (fun e => this (by rw [e]))]
    · cases i with
      | zero =>
        simp only [List.getElem?_cons_zero, Option.some.injEq] at hi
        subst hi
        refine (h3 d (fun o' ho' e => ?_)).trans ?_
        · obtain ⟨j, hj⟩ := List.getElem?_of_mem ho'
          exact hlast (j + 1) o' (by simpa using hj) (by omega) e
        · rw [hd]
          show (a.tmps.setIfInBounds d (vs n))[d]? = _
          rw [Array.getElem?_setIfInBounds_self_of_lt hlt]
          rfl
      | succ i =>
        have := h4 i oi d (by simpa using hi) hd (by rw [hs]; exact hlt) (fun j oj hj hij => hlast (j + 1) oj (by simpa using hj) (by omega))
        show (putAll vs l (n + 1) (a.put o.dst (vs n))).tmps[d]? = _
        rw [this]
        congr 2
        omega
theorem At.all {ops : Array Oper} {a0 a : Act} {vs : Nat → Value} {us : Nat → Option Value} (h : At ops a0 us a) (hv : ∀ i, i < ops.size → us i = some (vs i)) (hw : wfOps ops a0.tmps.size = true) : a = putAll vs ops.toList 0 a0 := by
  obtain ⟨h1, h2, h3, h4⟩ := putAll_spec vs ops.toList 0 a0
  have ht : a.tmps = (putAll vs ops.toList 0 a0).tmps := by
    apply Array.ext_getElem?
    intro t
    by_cases hex : ∃ (i : Nat) (o : Oper), ops[i]? = some o ∧ o.dst = some t
    · obtain ⟨i, o, ho, hd⟩ := hex
      obtain ⟨-, hd', -⟩ := wfOps_at hw ho
      obtain ⟨hlt, hne⟩ := hd' t hd
      have hi : i < ops.size := (Array.getElem?_eq_some_iff.1 ho).1
      rw [h.done i o (vs i) t ho (hv i hi) hd, h4 i o t (by rw [Array.getElem?_toList]; exact ho) hd hlt (fun j oj hj hij => hne j oj (by rw [← Array.getElem?_toList]; exact hj) (by omega)), Nat.zero_add]
    · rw [h.old t (fun i o ho _ hd => hex ⟨i, o, ho, hd⟩), h3 t (fun o ho hd => by
        obtain ⟨i, hi⟩ := List.getElem?_of_mem ho
        exact hex ⟨i, o, by rw [← Array.getElem?_toList]; exact hi, hd⟩)]
  cases a with
  | mk t d =>
    cases hp : putAll vs ops.toList 0 a0 with
    | mk t' d' =>
      rw [hp] at ht h1
      have hd := h.defers
      simp only at ht h1 hd
      rw [ht, hd, h1]
/-- Each of some operations, with its number. -/
def Each (S : Nat → Oper → Prop) : List Oper → Nat → Prop
  | [], _ => True
  | o :: l, n => S n o ∧ Each S l (n + 1)
theorem Each.at {S : Nat → Oper → Prop} : ∀ {l : List Oper} {n : Nat}, Each S l n → ∀ i o, l[i]? = some o → S (n + i) o := by
  intro l
  induction l with
  | nil => intro n _ i o h; simp at h
  | cons o l ih =>
    intro n h i oi hi
    cases i with
    | zero => simp only [List.getElem?_cons_zero, Option.some.injEq] at hi; subst hi; exact h.1
    | succ i =>
      have := ih h.2 i oi (by simpa using hi)
      rw [show n + (i + 1) = n + 1 + i by omega]
      exact this
section
variable {P : Program} {ops : Array Oper} {Q : Exit → Act → World → Prop}
/-- One operation of the region, out of what is there. -/
def FlowStep (P : Program) (ops : Array Oper) (Q : Exit → Act → World → Prop) (a0 : Act) (J : (Nat → Option Value) → World → Prop) (i : Nat) (o : Oper) : Prop :=
  ∀ us a w, J us w → us i = none → (∀ e ∈ o.after, Region.binds .any e = true → (us e.on).isSome = true) → At ops a0 us a → o.wp P a w (fun a' w' => ∃ v, a' = a.put o.dst v ∧ J (upd us i v) w') Q
theorem flow_any {a0 : Act} (hw : wfOps ops a0.tmps.size = true) (J : (Nat → Option Value) → World → Prop) (hs : Each (FlowStep P ops Q a0 J) ops.toList 0)
    (hfin : ∀ (vs : Nat → Value) (us : Nat → Option Value) (w' : World), (∀ i, i < ops.size → us i = some (vs i)) → J us w' → Q .normal (putAll vs ops.toList 0 a0) w') :
    ∀ (fuel : Nat) (listed : Array Bool) (us : Nat → Option Value) (a : Act) (w : World), listed.size = ops.size → (∀ i, i < ops.size → listed[i]? = some (us i).isSome) → listed.toList.countP (!·) = fuel → At ops a0 us a → J us w →
      wpAny P .any ops Q fuel listed a w := by
  have hend : ∀ (listed : Array Bool) (us : Nat → Option Value) (a : Act) (w : World), listed.size = ops.size → (∀ i, i < ops.size → listed[i]? = some (us i).isSome) → At ops a0 us a → J us w → Region.ready .any ops listed = [] → Q .normal a w := by
    intro listed us a w hsz hl hat hJ hr
    have hall : ∀ i, i < ops.size → (us i).isSome = true := by
      intro i
      induction i using Nat.strongRecOn with
      | ind i ih =>
        intro hi
        by_cases hc : (us i).isSome = true
        · exact hc
        · exfalso
          have hi' := hl i hi
          obtain ⟨o, ho⟩ : ∃ o, ops[i]? = some o := ⟨_, Array.getElem?_eq_getElem hi⟩
          have : i ∈ Region.ready .any ops listed := by
            rw [mem_ready]
            refine ⟨?_, o, ho, fun e he _ => ?_⟩
            · rw [Array.getD_eq_getD_getElem?, hi']; simpa using hc
            · have hlt := (wfOps_at hw ho).2.2 e he
              rw [Array.getD_eq_getD_getElem?, hl e.on (by omega), ih e.on hlt (by omega)]
              rfl
          rw [hr] at this
          cases this
    have hv : ∀ i, i < ops.size → us i = some ((us i).getD undef) := fun i hi => by
      obtain ⟨v, hv⟩ := Option.isSome_iff_exists.1 (hall i hi)
      rw [hv]; rfl
    have e := hat.all (vs := fun i => (us i).getD undef) hv hw
    rw [e]
    exact hfin _ us w hv hJ
  intro fuel
  induction fuel with
  | zero =>
    intro listed us a w hsz hl hc hat hJ
    have hr : Region.ready .any ops listed = [] := by
      rw [List.eq_nil_iff_forall_not_mem]
      intro i hi
      obtain ⟨h0, o, ho, -⟩ := mem_ready.1 hi
      have hlt : i < ops.size := (Array.getElem?_eq_some_iff.1 ho).1
      rw [List.countP_eq_zero] at hc
      have hb := hl i hlt
      rw [Array.getD_eq_getD_getElem?, hb] at h0
      have hm : (us i).isSome ∈ listed.toList := List.mem_of_getElem? (by rw [Array.getElem?_toList]; exact hb)
      have := hc _ hm
      simp only [Option.getD_some] at h0
      rw [h0] at this
      exact this rfl
    exact ⟨hr, hend listed us a w hsz hl hat hJ hr⟩
  | succ fuel ih =>
    intro listed us a w hsz hl hc hat hJ
    refine ⟨hend listed us a w hsz hl hat hJ, fun i hi => ?_⟩
    obtain ⟨h0, o, ho, hall⟩ := mem_ready.1 hi
    have hlt : i < ops.size := (Array.getElem?_eq_some_iff.1 ho).1
    have hb := hl i hlt
    rw [Array.getD_eq_getD_getElem?, hb] at h0
    simp only [Option.getD_some] at h0
    have hu : us i = none := by cases h : us i with | none => rfl | some v => rw [h] at h0; cases h0
    have hg := (wfOps_at hw ho).1
    have hst : FlowStep P ops Q a0 J i o := by
      have := hs.at i o (by rw [Array.getElem?_toList]; exact ho)
      rwa [Nat.zero_add] at this
    have hwp := hst us a w hJ hu (fun e he hb' => by
      have h1 := hall e he hb'
      have h2 := (wfOps_at hw ho).2.2 e he
      rw [Array.getD_eq_getD_getElem?, hl e.on (by omega)] at h1
      exact h1) hat
    unfold wpOp
    simp only [ho]
    rw [if_pos (by simp [Region.wanted, hg])]
    refine .inl (Oper.wp_mono (fun a' w' h => ?_) hwp)
    obtain ⟨v, rfl, hJ'⟩ := h
    refine ih _ (upd us i v) _ _ (by rw [Array.size_setIfInBounds]; exact hsz) (fun j hj => ?_) ?_ (hat.put hw ho hu v) hJ'
    · by_cases e : j = i
      · subst e; rw [Array.getElem?_setIfInBounds_self_of_lt (by omega), upd_same]; rfl
      · rw [Array.getElem?_setIfInBounds_ne (Ne.symm e), upd_ne _ _ e]; exact hl j hj
    · rw [Array.toList_setIfInBounds, List.countP_set (by rw [Array.length_toList]; omega)]
      have hel : listed.toList[i]'(by rw [Array.length_toList]; omega) = false := by
        have h3 : listed.toList[i]? = some (us i).isSome := by rw [Array.getElem?_toList]; exact hb
        rw [List.getElem?_eq_getElem (by rw [Array.length_toList]; omega)] at h3
        have h4 := Option.some.inj h3
        rw [h4, hu]; rfl
      rw [hel, hc]
      rfl
/-- THE LAW. J: what holds of the values that are there (by the operations' numbers) and of the world. -/
theorem wp_region_flow {id : Nat} {a0 : Act} {w : World} (J : (Nat → Option Value) → World → Prop) (hm : P.follows .mixedOrders = true) (hw : wfOps ops a0.tmps.size = true) (h0 : J (fun _ => none) w.drew)
    (hs : Each (FlowStep P ops Q a0 J) ops.toList 0)
    (hfin : ∀ (vs : Nat → Value) (us : Nat → Option Value) (w' : World), (∀ i, i < ops.size → us i = some (vs i)) → J us w' → Q .normal (putAll vs ops.toList 0 a0) w') : (Code.region id ops true).wp P Q a0 w :=
  wp_region_any hm (flow_any hw J hs hfin ops.size _ (fun _ => none) a0 w.drew (by simp) (fun i hi => by simp [hi]) (by simp [List.countP_replicate]) ⟨rfl, rfl, (fun i o v d _ h => by cases h), fun _ _ => rfl⟩ h0)
/-- An operation that yields a value. -/
theorem flow_ok {o : Oper} {a : Act} {w : World} {K : Act → World → Prop} (v : Value) (w' : World) (hr : (execOp a.eval o).run P w = .ok (.value v) w') (hk : K (a.put o.dst v) w') : o.wp P a w K Q := by
  unfold Oper.wp
  rw [hr]
  exact hk
end
end Go.Proofs.YtnhgakmnkpjpdaaGreat

