import Derived.Orders
import Derived.RegionTactic
import Derived.WalkKit
import Derived.KernelRfl
import Derived.Test.YtnhgakmnkpjpdaaD7
import Derived.Deep.RegionLaw
/- A general law, over any program: a region that draws its order, proved operation by operation out of what the operations behind it have left, whatever the order. -/
set_option linter.unusedVariables false
set_option linter.unusedSimpArgs false
namespace Go.Proofs.Ytnhgakmnkpjpdaa
open Go
/-- No guards; each operation has a slot of its own, or none; waits are for elder ones. -/
def wfOps (ops : Array Oper) (n : Nat) : Bool := (List.range ops.size).all fun i => match ops[i]? with
  | none => true
  | some o => o.guard.isNone && (match o.dst with | some d => decide (d < n) && (List.range ops.size).all (fun j => j == i || ((ops[j]?).bind (·.dst) != some d)) | none => true) && o.after.all (fun e => decide (e.on < i))
theorem wfOps_at {ops : Array Oper} {n : Nat} (h : wfOps ops n = true) {i : Nat} {o : Oper} (ho : ops[i]? = some o) :
    o.guard = none ∧ (∀ d, o.dst = some d → d < n ∧ ∀ j oj, ops[j]? = some oj → j ≠ i → oj.dst ≠ some d) ∧ ∀ e ∈ o.after, e.on < i := by
  have hi : i < ops.size := (Array.getElem?_eq_some_iff.1 ho).1
  have h1 := List.all_eq_true.1 h i (List.mem_range.2 hi)
  rw [ho] at h1
  simp only [Bool.and_eq_true] at h1
  obtain ⟨⟨h1, h2⟩, h3⟩ := h1
  refine ⟨Option.isNone_iff_eq_none.1 h1, fun d hd => ?_, fun e he => ?_⟩
  · rw [hd] at h2
    simp only [Bool.and_eq_true, decide_eq_true_eq] at h2
    refine ⟨h2.1, fun j oj hj hne e => ?_⟩
    have h4 := List.all_eq_true.1 h2.2 j (List.mem_range.2 (Array.getElem?_eq_some_iff.1 hj).1)
    rw [hj] at h4
    simp only [Option.bind_some, Bool.or_eq_true, beq_iff_eq, bne_iff_ne, ne_eq] at h4
    rcases h4 with h4 | h4
    · exact hne h4
    · exact h4 e
  · have := Array.all_eq_true_iff_forall_mem.1 h3 e he
    simpa using this
/-- The frame a is a0 with what the operations have left. -/
structure At (ops : Array Oper) (a0 : Act) (us : Nat → Option Value) (a : Act) : Prop where
  defers : a.defers = a0.defers
  size : a.tmps.size = a0.tmps.size
  done : ∀ i o v d, ops[i]? = some o → us i = some v → o.dst = some d → a.tmps[d]? = some v
  old : ∀ t, (∀ i o, ops[i]? = some o → (us i).isSome = true → o.dst ≠ some t) → a.tmps[t]? = a0.tmps[t]?
def upd (us : Nat → Option Value) (i : Nat) (v : Value) : Nat → Option Value := fun j => if j = i then some v else us j
theorem upd_same (us : Nat → Option Value) (i : Nat) (v : Value) : upd us i v i = some v := if_pos rfl
theorem upd_ne (us : Nat → Option Value) {i j : Nat} (v : Value) (h : j ≠ i) : upd us i v j = us j := if_neg h
theorem At.put {ops : Array Oper} {a0 a : Act} {us : Nat → Option Value} (h : At ops a0 us a) (hw : wfOps ops a0.tmps.size = true) {i : Nat} {o : Oper} (ho : ops[i]? = some o) (hu : us i = none) (v : Value) :
    At ops a0 (upd us i v) (a.put o.dst v) := by
  obtain ⟨-, hd, -⟩ := wfOps_at hw ho
  cases hdst : o.dst with
  | none =>
    refine ⟨h.defers, h.size, fun j oj u d hj huj hdj => ?_, fun t ht => h.old t (fun j oj hj huj => ?_)⟩
    · by_cases e : j = i
      · subst e; rw [ho] at hj; cases hj; rw [hdst] at hdj; cases hdj
      · rw [upd_ne _ _ e] at huj; exact h.done j oj u d hj huj hdj
    · by_cases e : j = i
      · subst e; rw [ho] at hj; cases hj; rw [hdst]; simp
      · exact ht j oj hj (by rw [upd_ne _ _ e]; exact huj)
  | some d =>
    obtain ⟨hlt, hne⟩ := hd d hdst
    refine ⟨h.defers, (Array.size_setIfInBounds ..).trans h.size, fun j oj u d' hj huj hdj => ?_, fun t ht => ?_⟩
    · show (a.tmps.setIfInBounds d v)[d']? = some u
      by_cases e : j = i
      · subst e; rw [ho] at hj; cases hj
        rw [hdst] at hdj; cases hdj
        rw [upd_same] at huj; cases huj
        rw [Array.getElem?_setIfInBounds_self_of_lt (by rw [h.size]; exact hlt)]
      · rw [upd_ne _ _ e] at huj
        have : d ≠ d' := fun e2 => hne j oj hj e (by rw [hdj, e2])
        rw [Array.getElem?_setIfInBounds_ne this]
        exact h.done j oj u d' hj huj hdj
    · show (a.tmps.setIfInBounds d v)[t]? = _
      have : d ≠ t := fun e2 => ht i o ho (by rw [upd_same]; rfl) (by rw [hdst, e2])
      rw [Array.getElem?_setIfInBounds_ne this]
      refine h.old t (fun j oj hj huj => ?_)
      by_cases e : j = i
      · subst e; rw [hu] at huj; cases huj
      · exact ht j oj hj (by rw [upd_ne _ _ e]; exact huj)
/-- What the operations leave, all of them. -/
def putAll (vs : Nat → Value) : List Oper → Nat → Act → Act
  | [], _, a => a
  | o :: l, n, a => putAll vs l (n + 1) (a.put o.dst (vs n))
theorem putAll_spec (vs : Nat → Value) : ∀ (l : List Oper) (n : Nat) (a : Act), (putAll vs l n a).defers = a.defers ∧ (putAll vs l n a).tmps.size = a.tmps.size ∧
    (∀ t, (∀ o ∈ l, o.dst ≠ some t) → (putAll vs l n a).tmps[t]? = a.tmps[t]?) ∧
    ∀ i o d, l[i]? = some o → o.dst = some d → d < a.tmps.size → (∀ j oj, l[j]? = some oj → i < j → oj.dst ≠ some d) → (putAll vs l n a).tmps[d]? = some (vs (n + i)) := by
  intro l
  induction l with
  | nil => intro n a; exact ⟨rfl, rfl, fun _ _ => rfl, fun i o d h => by simp at h⟩
  | cons o l ih =>
    intro n a
    obtain ⟨h1, h2, h3, h4⟩ := ih (n + 1) (a.put o.dst (vs n))
    have hs : (a.put o.dst (vs n)).tmps.size = a.tmps.size := by cases o.dst <;> simp [Act.put]
    refine ⟨h1.trans (by cases o.dst <;> rfl), h2.trans hs, fun t ht => ?_, fun i oi d hi hd hlt hlast => ?_⟩
    · refine (h3 t (fun o' ho' => ht o' (List.mem_cons_of_mem _ ho'))).trans ?_
      have := ht o (List.mem_cons_self ..)
      cases hdst : o.dst with
      | none => rfl
      | some d =>
        rw [hdst] at this
        show (a.tmps.setIfInBounds d (vs n))[t]? = _
        rw [Array.getElem?_setIfInBounds_ne (fun e => this (by rw [e]))]
    · cases i with
      | zero =>
        simp only [List.getElem?_cons_zero, Option.some.injEq] at hi
        subst hi
        refine (h3 d (fun o' ho' e => ?_)).trans ?_
        · obtain ⟨j, hj⟩ := List.getElem?_of_mem ho'
          exact hlast (j + 1) o' (by simpa using hj) (by omega) e
        · rw [hd]
          show (a.tmps.setIfInBounds d (vs n))[d]? = _
          rw [Array.getElem?_setIfInBounds_self_of_lt hlt]
          rfl
      | succ i =>
        have := h4 i oi d (by simpa using hi) hd (by rw [hs]; exact hlt) (fun j oj hj hij => hlast (j + 1) oj (by simpa using hj) (by omega))
        show (putAll vs l (n + 1) (a.put o.dst (vs n))).tmps[d]? = _
        rw [this]
        congr 2
        omega
theorem At.all {ops : Array Oper} {a0 a : Act} {vs : Nat → Value} {us : Nat → Option Value} (h : At ops a0 us a) (hv : ∀ i, i < ops.size → us i = some (vs i)) (hw : wfOps ops a0.tmps.size = true) : a = putAll vs ops.toList 0 a0 := by
  obtain ⟨h1, h2, h3, h4⟩ := putAll_spec vs ops.toList 0 a0
  have ht : a.tmps = (putAll vs ops.toList 0 a0).tmps := by
    apply Array.ext_getElem?
    intro t
    by_cases hex : ∃ (i : Nat) (o : Oper), ops[i]? = some o ∧ o.dst = some t
    · obtain ⟨i, o, ho, hd⟩ := hex
      obtain ⟨-, hd', -⟩ := wfOps_at hw ho
      obtain ⟨hlt, hne⟩ := hd' t hd
      have hi : i < ops.size := (Array.getElem?_eq_some_iff.1 ho).1
      rw [h.done i o (vs i) t ho (hv i hi) hd, h4 i o t (by rw [Array.getElem?_toList]; exact ho) hd hlt (fun j oj hj hij => hne j oj (by rw [← Array.getElem?_toList]; exact hj) (by omega)), Nat.zero_add]
    · rw [h.old t (fun i o ho _ hd => hex ⟨i, o, ho, hd⟩), h3 t (fun o ho hd => by
        obtain ⟨i, hi⟩ := List.getElem?_of_mem ho
        exact hex ⟨i, o, by rw [← Array.getElem?_toList]; exact hi, hd⟩)]
  cases a with
  | mk t d =>
    cases hp : putAll vs ops.toList 0 a0 with
    | mk t' d' =>
      rw [hp] at ht h1
      have hd := h.defers
      simp only at ht h1 hd
      rw [ht, hd, h1]
/-- Each of some operations, with its number. -/
def Each (S : Nat → Oper → Prop) : List Oper → Nat → Prop
  | [], _ => True
  | o :: l, n => S n o ∧ Each S l (n + 1)
theorem Each.at {S : Nat → Oper → Prop} : ∀ {l : List Oper} {n : Nat}, Each S l n → ∀ i o, l[i]? = some o → S (n + i) o := by
  intro l
  induction l with
  | nil => intro n _ i o h; simp at h
  | cons o l ih =>
    intro n h i oi hi
    cases i with
    | zero => simp only [List.getElem?_cons_zero, Option.some.injEq] at hi; subst hi; exact h.1
    | succ i =>
      have := ih h.2 i oi (by simpa using hi)
      rw [show n + (i + 1) = n + 1 + i by omega]
      exact this
section
variable {P : Program} {ops : Array Oper} {Q : Exit → Act → World → Prop}
/-- One operation of the region, out of what is there. -/
def FlowStep (P : Program) (ops : Array Oper) (Q : Exit → Act → World → Prop) (a0 : Act) (J : (Nat → Option Value) → World → Prop) (i : Nat) (o : Oper) : Prop :=
  ∀ us a w, J us w → us i = none → (∀ e ∈ o.after, Region.binds .any e = true → (us e.on).isSome = true) → At ops a0 us a → o.wp P a w (fun a' w' => ∃ v, a' = a.put o.dst v ∧ J (upd us i v) w') Q
theorem flow_any {a0 : Act} (hw : wfOps ops a0.tmps.size = true) (J : (Nat → Option Value) → World → Prop) (hs : Each (FlowStep P ops Q a0 J) ops.toList 0)
    (hfin : ∀ (vs : Nat → Value) (us : Nat → Option Value) (w' : World), (∀ i, i < ops.size → us i = some (vs i)) → J us w' → Q .normal (putAll vs ops.toList 0 a0) w') :
    ∀ (fuel : Nat) (listed : Array Bool) (us : Nat → Option Value) (a : Act) (w : World), listed.size = ops.size → (∀ i, i < ops.size → listed[i]? = some (us i).isSome) → listed.toList.countP (!·) = fuel → At ops a0 us a → J us w →
      wpAny P .any ops Q fuel listed a w := by
  have hend : ∀ (listed : Array Bool) (us : Nat → Option Value) (a : Act) (w : World), listed.size = ops.size → (∀ i, i < ops.size → listed[i]? = some (us i).isSome) → At ops a0 us a → J us w → Region.ready .any ops listed = [] → Q .normal a w := by
    intro listed us a w hsz hl hat hJ hr
    have hall : ∀ i, i < ops.size → (us i).isSome = true := by
      intro i
      induction i using Nat.strongRecOn with
      | ind i ih =>
        intro hi
        by_cases hc : (us i).isSome = true
        · exact hc
        · exfalso
          have hi' := hl i hi
          obtain ⟨o, ho⟩ : ∃ o, ops[i]? = some o := ⟨_, Array.getElem?_eq_getElem hi⟩
          have : i ∈ Region.ready .any ops listed := by
            rw [mem_ready]
            refine ⟨?_, o, ho, fun e he _ => ?_⟩
            · rw [Array.getD_eq_getD_getElem?, hi']; simpa using hc
            · have hlt := (wfOps_at hw ho).2.2 e he
              rw [Array.getD_eq_getD_getElem?, hl e.on (by omega), ih e.on hlt (by omega)]
              rfl
          rw [hr] at this
          cases this
    have hv : ∀ i, i < ops.size → us i = some ((us i).getD undef) := fun i hi => by
      obtain ⟨v, hv⟩ := Option.isSome_iff_exists.1 (hall i hi)
      rw [hv]; rfl
    have e := hat.all (vs := fun i => (us i).getD undef) hv hw
    rw [e]
    exact hfin _ us w hv hJ
  intro fuel
  induction fuel with
  | zero =>
    intro listed us a w hsz hl hc hat hJ
    have hr : Region.ready .any ops listed = [] := by
      rw [List.eq_nil_iff_forall_not_mem]
      intro i hi
      obtain ⟨h0, o, ho, -⟩ := mem_ready.1 hi
      have hlt : i < ops.size := (Array.getElem?_eq_some_iff.1 ho).1
      rw [List.countP_eq_zero] at hc
      have hb := hl i hlt
      rw [Array.getD_eq_getD_getElem?, hb] at h0
      have hm : (us i).isSome ∈ listed.toList := List.mem_of_getElem? (by rw [Array.getElem?_toList]; exact hb)
      have := hc _ hm
      simp only [Option.getD_some] at h0
      rw [h0] at this
      exact this rfl
    exact ⟨hr, hend listed us a w hsz hl hat hJ hr⟩
  | succ fuel ih =>
    intro listed us a w hsz hl hc hat hJ
    refine ⟨hend listed us a w hsz hl hat hJ, fun i hi => ?_⟩
    obtain ⟨h0, o, ho, hall⟩ := mem_ready.1 hi
    have hlt : i < ops.size := (Array.getElem?_eq_some_iff.1 ho).1
    have hb := hl i hlt
    rw [Array.getD_eq_getD_getElem?, hb] at h0
    simp only [Option.getD_some] at h0
    have hu : us i = none := by cases h : us i with | none => rfl | some v => rw [h] at h0; cases h0
    have hg := (wfOps_at hw ho).1
    have hst : FlowStep P ops Q a0 J i o := by
      have := hs.at i o (by rw [Array.getElem?_toList]; exact ho)
      rwa [Nat.zero_add] at this
    have hwp := hst us a w hJ hu (fun e he hb' => by
      have h1 := hall e he hb'
      have h2 := (wfOps_at hw ho).2.2 e he
      rw [Array.getD_eq_getD_getElem?, hl e.on (by omega)] at h1
      exact h1) hat
    unfold wpOp
    simp only [ho]
    rw [if_pos (by simp [Region.wanted, hg])]
    refine .inl (Oper.wp_mono (fun a' w' h => ?_) hwp)
    obtain ⟨v, rfl, hJ'⟩ := h
    refine ih _ (upd us i v) _ _ (by rw [Array.size_setIfInBounds]; exact hsz) (fun j hj => ?_) ?_ (hat.put hw ho hu v) hJ'
    · by_cases e : j = i
      · subst e; rw [Array.getElem?_setIfInBounds_self_of_lt (by omega), upd_same]; rfl
      · rw [Array.getElem?_setIfInBounds_ne (Ne.symm e), upd_ne _ _ e]; exact hl j hj
    · rw [Array.toList_setIfInBounds, List.countP_set (by rw [Array.length_toList]; omega)]
      have hel : listed.toList[i]'(by rw [Array.length_toList]; omega) = false := by
        have h3 : listed.toList[i]? = some (us i).isSome := by rw [Array.getElem?_toList]; exact hb
        rw [List.getElem?_eq_getElem (by rw [Array.length_toList]; omega)] at h3
        have h4 := Option.some.inj h3
        rw [h4, hu]; rfl
      rw [hel, hc]
      rfl
/-- THE LAW. J: what holds of the values that are there (by the operations' numbers) and of the world. -/
theorem wp_region_flow {id : Nat} {a0 : Act} {w : World} (J : (Nat → Option Value) → World → Prop) (hm : P.follows .mixedOrders = true) (hw : wfOps ops a0.tmps.size = true) (h0 : J (fun _ => none) w.drew)
    (hs : Each (FlowStep P ops Q a0 J) ops.toList 0)
    (hfin : ∀ (vs : Nat → Value) (us : Nat → Option Value) (w' : World), (∀ i, i < ops.size → us i = some (vs i)) → J us w' → Q .normal (putAll vs ops.toList 0 a0) w') : (Code.region id ops true).wp P Q a0 w :=
  wp_region_any hm (flow_any hw J hs hfin ops.size _ (fun _ => none) a0 w.drew (by simp) (fun i hi => by simp [hi]) (by simp [List.countP_replicate]) ⟨rfl, rfl, (fun i o v d _ h => by cases h), fun _ _ => rfl⟩ h0)
/-- An operation that yields a value. -/
theorem flow_ok {o : Oper} {a : Act} {w : World} {K : Act → World → Prop} (v : Value) (w' : World) (hr : (execOp a.eval o).run P w = .ok (.value v) w') (hk : K (a.put o.dst v) w') : o.wp P a w K Q := by
  unfold Oper.wp
  rw [hr]
  exact hk
end
end Go.Proofs.Ytnhgakmnkpjpdaa

/- A drive: Crash. -/
set_option maxRecDepth 100000
set_option linter.unusedVariables false
set_option linter.unusedSimpArgs false
namespace Go.Proofs.Ytnhgakmnkpjpdaa
open Go Go.RowKit Go.Proofs.YtnhgakmnkpjpdaaW.PrintWords Go.Proofs.YtnhgakmnkpjpdaaW.PrintLast Go.Proofs.YtnhgakmnkpjpdaaW.PrintMore
attribute [local go_sem] Oper.semAt_some max2_int min2_int max_two min_two max_three min_three max_four min_four
/-- A load of a whole open write out of the midst of a row. -/
theorem run_load67_mid (W : World) (b i : Nat) (cs : List Value) (hc : W.rangeAt b i cs) (hl : cs.length = 65) : (load67 (.pointer (some ⟨b, i, none⟩))).run Try.prog W = .ok (.value (.agg cs.toArray)) W := by
  unfold load67
  rw [Sem.run_bind, run_loadAt_mid W b i 72 cs _ hc Try.underlying72 rfl (by rw [hl]; kernel_rfl)]
  rfl
section
variable {P : Program} {ops : Array Oper} {o : Oper} {a : Act} {w : World} {K : Act → World → Prop} {Q : Exit → Act → World → Prop} {E : Prop}
theorem step_copy_rows (hgd : o.guard = none) (x y : Operand) (t t2 : TypeId) (ho : o.op = .call { callee := .builtin .copy, args := #[x, y], argTypes := #[t, t2] })
    (e : TypeId) (ht : P.underlying t = some (.slice e)) (i : TypeInfo) (hi : P.info? e = some i) (size : Nat) (hsz : i.size = size)
    (g off n c : Nat) (hx : a.eval x = .slice (some ⟨g, off, none⟩) n c) (ad : Addr) (m c2 : Nat) (hy : a.eval y = .slice (some ad) m c2)
    (te : TypeId) (cs : Array Value) (hg : w.heap[g]? = some (.cells cs te (0, 0))) (new : List Value) (hl : new.length = Nat.min m n * size) (hsrc : ∀ j v, new[j]? = some v → w.cell? (ad.add j) = some v)
    (hb : off + new.length ≤ cs.size) (h1 : ∀ v ∈ new, v.oneCell' = true)
    (h : ∀ w', Upd w w' g (.cells (cs.toList.take off ++ new ++ cs.toList.drop (off + new.length)).toArray te (0, 0)) → K (a.put o.dst (goInt (Nat.min m n))) w') : if Region.wanted o (yielded ops a.tmps) = true then Oper.wp P o a w K Q else E := by
  have hw : Region.wanted o (yielded ops a.tmps) = true := by simp [Region.wanted, hgd]
  rw [if_pos hw]
  have hld := run_loadCells_list (P := P) w ad new hsrc
  have hst := run_storeCells_at P g off te new 0 cs w hg (by simpa using hb) h1
  rw [hl] at hld
  have hrun : (Builtin.copy_ #[t, t2] o.type #[.slice (some ⟨g, off, none⟩) n c, .slice (some ad) m c2]).run P w = .ok (goInt (Nat.min m n)) (w.setRow g (cs.toList.take off ++ new ++ cs.toList.drop (off + new.length)).toArray) := by
    simp only [Nat.add_zero] at hst
    simp [Builtin.copy_, run_underlying ht, Builtin.lenOf, Builtin.firstCells, sizeOf, typeInfo, hi, hsz, hld, hst]
  unfold Oper.wp execOp
  simp only [ho, resolve, invoke, builtin, Sem.run_bind, Sem.run_pure, Result.andThen_ok, List.map_toArray, List.map_cons, List.map_nil, hx, hy, hrun]
  exact h _ (Upd.setRow w g _ cs te (0, 0) hg)
end
/-- Is an open write kept? -/
def keptB (keep : Int) (i : Nat) : Bool := (keep.toNat / 2 ^ (i % 64)) % 2 == 1
/-- How much of an open write gets through. -/
def toOf (keep torn at_ : Int) (i : Nat) : Nat := if (i : Int) = torn then (min (max at_ 0) 64).toNat else if keptB keep i then 64 else 0
theorem toOf_le (keep torn at_ : Int) (i : Nat) : toOf keep torn at_ i ≤ 64 := by
  unfold toOf
  split
  · omega
  · split <;> omega
def tornL (sure : List (List UInt8)) (x : Nat × List UInt8) (tt : Nat) : List (List UInt8) := sure.set x.1 (x.2.take tt ++ (sure.getD x.1 []).drop tt)
/-- What is sure behind the first k open writes. -/
def sureAt (keep torn at_ : Int) (sure : List (List UInt8)) (opn : List (Nat × List UInt8)) : Nat → List (List UInt8)
  | 0 => sure
  | k + 1 => tornL (sureAt keep torn at_ sure opn k) (opn.getD k (0, [])) (toOf keep torn at_ k)
def crashS (s : DS) (keep torn at_ : Int) : DS := let l := sureAt keep torn at_ s.sure s.opn s.opn.length; ⟨l, l, [], none⟩
theorem sureAt_len (keep torn at_ : Int) (sure : List (List UInt8)) (opn : List (Nat × List UInt8)) (k : Nat) : (sureAt keep torn at_ sure opn k).length = sure.length := by
  induction k with
  | zero => rfl
  | succ k ih => rw [sureAt, tornL, List.length_set, ih]
theorem getD_64 {l : List (List UInt8)} (h : ∀ x ∈ l, x.length = 64) {i : Nat} (hi : i < l.length) : (l.getD i []).length = 64 := by
  rw [List.getD_eq_getElem?_getD, List.getElem?_eq_getElem hi]; exact h _ (List.getElem_mem hi)
theorem tornL_64 {sure : List (List UInt8)} {x : Nat × List UInt8} {tt : Nat} (h : ∀ y ∈ sure, y.length = 64) (hx : x.1 < sure.length) (hl : x.2.length = 64) (ht : tt ≤ 64) : ∀ y ∈ tornL sure x tt, y.length = 64 := by
  intro y hy
  rcases List.mem_or_eq_of_mem_set hy with h' | h'
  · exact h y h'
  · rw [h', List.length_append, List.length_take, List.length_drop, hl, getD_64 h hx]; omega
/-- Behind k open writes. -/
structure CrashAt (base : Nat) (w wr : World) (d : DV) (s : DS) (keep torn at_ : Int) (b k : Nat) : Prop where
  drv : Drv base wr d { s with sure := sureAt keep torn at_ s.sure s.opn k }
  only : Only d.fp w wr
  box : wr.heap[b]? = some (.cells #[.int .u64 keep, .int .i64 torn, .int .i64 at_] 30 (0, 0))
theorem opnC_at (l : List (Nat × List UInt8)) (h : ∀ x ∈ l, x.2.length = 64) (i j : Nat) (hi : i < l.length) (hj : j < 65) : (opnC l)[i * 65 + j]? = (wrC (l.getD i (0, [])))[j]? := by
  have hx : l[i]? = some (l.getD i (0, [])) := by rw [List.getD_eq_getElem?_getD, List.getElem?_eq_getElem hi]; rfl
  exact flat_at wrC 65 l (fun x hx => wrC_length x.1 x.2 (h x hx)) i j _ hx hj
theorem getD_mem {l : List (Nat × List UInt8)} {i : Nat} (hi : i < l.length) : l.getD i (0, []) ∈ l := by
  rw [List.getD_eq_getElem?_getD, List.getElem?_eq_getElem hi]; exact List.getElem_mem hi
theorem CrashAt.opn_range {base : Nat} {w wr : World} {d : DV} {s : DS} {keep torn at_ : Int} {b k : Nat} (h : CrashAt base w wr d s keep torn at_ b k) {g cp : Nat} (hv : d.vo = .slice (some ⟨g, 0, none⟩) s.opn.length cp) {i : Nat} (hi : i < s.opn.length) :
    wr.rangeAt g (i * 65) (wrC (s.opn.getD i (0, []))) := by
  obtain ⟨g', cap, cur, hv', -, hg, hc, -, hsz, hx⟩ := ownsRow_slice h.drv.opn (show 0 < s.opn.length by omega)
  have e : g' = g := by
    have h2 : d.vo = .slice (some ⟨g', 0, none⟩) s.opn.length cap := hv'
    rw [hv] at h2
    simp only [Value.slice.injEq, Option.some.injEq, Addr.mk.injEq] at h2
    exact h2.1.1.symm
  subst e
  intro j v hj
  have hl : (wrC (s.opn.getD i (0, []))).length = 65 := wrC_length _ _ (h.drv.wr (s.opn.getD i (0, [])) (getD_mem hi)).2
  have hjl : j < 65 := by rw [← hl]; exact (List.getElem?_eq_some_iff.1 hj).1
  have hlt : i * 65 + j < s.opn.length * 65 := by have : (i + 1) * 65 ≤ s.opn.length * 65 := Nat.mul_le_mul_right _ hi; omega
  rw [cell_of_row wr _ _ _ _ _ hg, own_at hx (by rw [hsz]; exact Nat.mul_le_mul_right _ hc) _ hlt, opnC_at _ (fun x hx => (h.drv.wr x hx).2) i j hi hjl, hj]
/-- A write that is read out of the list. -/
theorem CrashAt.round {base : Nat} {w wr w1 w2 : World} {d : DV} {s : DS} {keep torn at_ : Int} {b k : Nat} (h : CrashAt base w wr d s keep torn at_ b k) (hb : b < wr.heap.size) {o1 o2 : Obj} (u1 : New wr w1 o1) (u2 : Upd w1 w2 wr.heap.size o2) :
    CrashAt base w w2 d s keep torn at_ b k ∧ w2.heap[wr.heap.size]? = some o2 := by
  have ho : Only [] wr w2 := (Only.of_new u1).trans (Only.of_upd (fp := [wr.heap.size]) u2 (by simp)) (by simp)
  exact ⟨⟨h.drv.kept ho (by simp), h.only.trans ho (by simp), (ho.block b hb (by simp)).trans h.box⟩, u2.at_⟩
theorem kept_bits (keep : Int) (hk : 0 ≤ keep ∧ keep < 18446744073709551616) (K : Nat) : (bits BinOp.and IntKind.u64 (keep / 2 ^ (K % 64)) 1 == 1) = keptB keep K := by
  obtain ⟨m, rfl⟩ : ∃ m : Nat, keep = (m : Int) := ⟨keep.toNat, by omega⟩
  have e : ((m : Int) / 2 ^ (K % 64)) = ((m / 2 ^ (K % 64) : Nat) : Int) := by rw [Int.natCast_ediv, Int.natCast_pow]; rfl
  have hl : m / 2 ^ (K % 64) < 18446744073709551616 := Nat.lt_of_le_of_lt (Nat.div_le_self _ _) (by omega)
  rw [e, show (1 : Int) = ((1 : Nat) : Int) from rfl, u64_and_nat _ _ (by omega) (by omega), Nat.and_one_is_mod]
  unfold keptB
  rw [Int.toNat_natCast]
  by_cases h : m / 2 ^ (K % 64) % 2 = 1
  · rw [h]; rfl
  · have h0 : m / 2 ^ (K % 64) % 2 = 0 := by omega
    rw [h0]; rfl
/-- The rest of one element of a row. -/
theorem row_rest {cur : List Value} {l : List (List UInt8)} (h64 : ∀ x ∈ l, x.length = 64) (hx : cur.take (l.length * 64) = rowC l) {n : Nat} (hn : n < l.length) {tt : Nat} (ht : tt ≤ 64) :
    cur.drop (n * 64 + tt) = ((l.getD n []).drop tt).map cb ++ cur.drop (n * 64 + 64) := by
  have h1 := flat_drop (fun s => s.map cb) 64 l (fun x hx => by rw [List.length_map]; exact h64 x hx) n
  have hl : (l.getD n []).length = 64 := getD_64 h64 hn
  have h2 : (cur.drop (n * 64)).take 64 = (l.getD n []).map cb := by
    have h3 : (rowC l).drop (n * 64) = (l.getD n []).map cb ++ (l.drop (n + 1)).flatMap (fun s => s.map cb) := by
      have : l.getD n [] = l[n] := by rw [List.getD_eq_getElem?_getD, List.getElem?_eq_getElem hn]; rfl
      rw [this]
      unfold rowC
      rw [h1, List.drop_eq_getElem_cons hn, List.flatMap_cons]
    rw [← hx, List.drop_take] at h3
    have h4 : ((cur.drop (n * 64)).take (l.length * 64 - n * 64)).take 64 = (l.getD n []).map cb := by
      rw [h3, List.take_append_of_le_length (by rw [List.length_map]; omega), List.take_of_length_le (by rw [List.length_map]; omega)]
    rw [List.take_take] at h4
    have : min 64 (l.length * 64 - n * 64) = 64 := by
      have : (n + 1) * 64 ≤ l.length * 64 := Nat.mul_le_mul_right _ hn
      omega
    rwa [this] at h4
  rw [← List.drop_drop, ← List.take_append_drop 64 (cur.drop (n * 64)), h2, List.drop_append_of_le_length (by rw [List.length_map]; omega), List.drop_drop, List.map_drop]
/-- One element of what is sure. -/
theorem Drv.sured {base : Nat} {w w4 : World} {d : DV} {s : DS} (h : Drv base w d s) {gs cn : Nat} {cur : Array Value} (hvs : d.vs = .slice (some ⟨gs, 0, none⟩) s.sure.length cn)
    (hbn : base ≤ gs) (hcn : s.sure.length ≤ cn) (hmn : cn ≤ maxLen) (hsz : cur.size = cn * 64) (hx : cur.toList.take (s.sure.length * 64) = rowC s.sure) (n : Nat) (hn : n < s.sure.length) (L : List UInt8) (hL : L.length = 64) (tt : Nat) (ht : tt ≤ 64)
    (u : Upd w w4 gs (.cells (cur.toList.take (n * 64) ++ (L.take tt).map cb ++ cur.toList.drop (n * 64 + ((L.take tt).map cb).length)).toArray 70 (0, 0))) :
    Drv base w4 d { s with sure := tornL s.sure (n, L) tt } := by
  obtain ⟨gn, capn, curn, hvn, -⟩ := ownsRow_slice h.now (by have := h.len; omega)
  obtain ⟨n1, n2, n3, n4, n5, m1, m2, m3⟩ := h.ne hvn hvs
  have ho : Only [gs] w w4 := .of_upd u (by simp)
  have hlt : ((L.take tt).map cb).length = tt := by rw [List.length_map, List.length_take, hL]; omega
  have hL2 : (L.take tt ++ (s.sure.getD n []).drop tt).length = 64 := by rw [List.length_append, List.length_take, List.length_drop, hL, getD_64 h.secS hn]; omega
  have hset := own_set (fun s => s.map cb) 64 hx (fun x hx => by rw [List.length_map]; exact h.secS x hx) n (L.take tt ++ (s.sure.getD n []).drop tt) hn (by rw [List.length_map]; exact hL2)
  have hmem : ∀ x ∈ tornL s.sure (n, L) tt, x.length = 64 := tornL_64 h.secS hn hL ht
  have hlen : (tornL s.sure (n, L) tt).length = s.sure.length := by unfold tornL; rw [List.length_set]
  rw [hlt, row_rest h.secS hx hn ht, ← List.append_assoc, List.append_assoc (cur.toList.take (n * 64)), ← List.map_append] at u
  refine ⟨h.hD, (u.other _ n2).trans h.obj, ownsRow_kept h.now ho (fun k hk e => ?_), ?_, ownsRow_kept h.opn ho (fun k hk e => ?_), h.fuse.kept ho (fun k hk e => ?_), h.nodup, ?_, h.secN, hmem, h.wr⟩
  · rw [hvn] at hk; simp [Value.ownBlock] at hk e; omega
  · show w4.ownsRow base 70 64 d.vs (tornL s.sure (n, L) tt).length (rowC (tornL s.sure (n, L) tt))
    refine ⟨rowC_length _ hmem, .inr ⟨gs, cn, _, by rw [hvs, hlen], hbn, u.at_, by rw [hlen]; exact hcn, hmn, ?_, ?_⟩⟩
    · have e : ((cur.toList.take (n * 64) ++ (L.take tt ++ (s.sure.getD n []).drop tt).map cb ++ cur.toList.drop (n * 64 + 64)).toArray).size = min (n * 64) cur.size + 64 + (cur.size - (n * 64 + 64)) := by
        simp only [List.size_toArray, List.length_append, List.length_take, List.length_drop, List.length_map, Array.length_toList, hL, getD_64 h.secS hn]
        omega
      have : (n + 1) * 64 ≤ cn * 64 := Nat.mul_le_mul_right _ (by omega)
      rw [Nat.succ_mul] at this
      rw [e, hsz]
      omega
    · rw [List.toList_toArray, hlen]
      exact hset
  · rw [List.mem_singleton] at e; exact (n4 k hk).2.2 e
  · rw [List.mem_singleton] at e; exact (n5 k hk).2.2.1 e
  · show (tornL s.sure (n, L) tt).length = s.now.length ∧ _
    rw [hlen]; exact h.len
theorem CrashAt.next {base : Nat} {w w2 w3 : World} {d : DV} {s : DS} {keep torn at_ : Int} {b K : Nat} (h : CrashAt base w w2 d s keep torn at_ b K) {n : Nat} {L : List UInt8} (hx : (n, L) = s.opn.getD K (0, [])) {tt : Nat} (ht : toOf keep torn at_ K = tt)
    {gs cn : Nat} {cur : Array Value} (hvs : d.vs = .slice (some ⟨gs, 0, none⟩) (sureAt keep torn at_ s.sure s.opn K).length cn)
    (hbn : base ≤ gs) (hcn : (sureAt keep torn at_ s.sure s.opn K).length ≤ cn) (hmn : cn ≤ maxLen) (hsz : cur.size = cn * 64) (hxs : cur.toList.take ((sureAt keep torn at_ s.sure s.opn K).length * 64) = rowC (sureAt keep torn at_ s.sure s.opn K)) (hxw : n < s.now.length ∧ L.length = 64) (hbx : b ∉ d.fp)
    (u : Upd w2.drew w3 gs (.cells (cur.toList.take (n * 64) ++ (L.take tt).map cb ++ cur.toList.drop (n * 64 + ((L.take tt).map cb).length)).toArray 70 (0, 0))) : CrashAt base w w3 d s keep torn at_ b (K + 1) := by
  have hd := h.drv.kept (Only.drew [] w2) (by simp)
  have hlen : (sureAt keep torn at_ s.sure s.opn K).length = s.now.length := h.drv.len.1
  have hfp : gs ∈ d.fp := by unfold DV.fp; rw [hvs]; simp [Value.ownBlock]
  have h1 := hd.sured hvs hbn hcn hmn hsz hxs n (by show n < (sureAt keep torn at_ s.sure s.opn K).length; omega) L hxw.2 tt (by rw [← ht]; exact toOf_le ..) u
  have e : sureAt keep torn at_ s.sure s.opn (K + 1) = tornL (sureAt keep torn at_ s.sure s.opn K) (n, L) tt := by rw [sureAt, ← hx, ht]
  refine ⟨?_, (h.only.trans (Only.drew d.fp w2) (fun _ h _ => h)).trans (Only.of_upd u hfp) (fun _ h _ => h), ?_⟩
  · rw [e]; exact h1
  · refine (u.other b (fun e => hbx (e ▸ hfp))).trans h.box
attribute [local go_sem ↓] exec_load67
/-- What is seen is what is sure. -/
theorem Drv.nowed {base : Nat} {w w3 : World} {d : DV} {s : DS} (h : Drv base w d s) {gn cn : Nat} {cur : Array Value} (hvn : d.vn = .slice (some ⟨gn, 0, none⟩) s.now.length cn)
    (hbn : base ≤ gn) (hcn : s.now.length ≤ cn) (hmn : cn ≤ maxLen) (hsz : cur.size = cn * 64)
    (u : Upd w w3 gn (.cells (cur.toList.take 0 ++ rowC s.sure ++ cur.toList.drop (0 + (rowC s.sure).length)).toArray 70 (0, 0))) : Drv base w3 d { s with now := s.sure } := by
  obtain ⟨gs, capn, curn, hvs, -⟩ := ownsRow_slice h.sure (by have := h.len; omega)
  obtain ⟨n1, n2, n3, n4, n5, m1, m2, m3⟩ := h.ne hvn hvs
  have ho : Only [gn] w w3 := .of_upd u (by simp)
  have hlen := h.len
  have hrl := rowC_length s.sure h.secS
  have ugs : w3.heap[gn]? = some (.cells (rowC s.sure ++ cur.toList.drop (rowC s.sure).length).toArray 70 (0, 0)) := by
    rw [u.at_]; simp
  refine ⟨h.hD, (u.other _ n1).trans h.obj, ?_, ownsRow_kept h.sure ho (fun k hk e => ?_), ownsRow_kept h.opn ho (fun k hk e => ?_), h.fuse.kept ho (fun k hk e => ?_), h.nodup, ?_, h.secS, h.secS, ?_⟩
  · show w3.ownsRow base 70 64 d.vn s.sure.length (rowC s.sure)
    refine ⟨hrl, .inr ⟨gn, cn, _, by rw [hvn, hlen.1], hbn, ugs, by omega, hmn, ?_, ?_⟩⟩
    · have e2 : ((rowC s.sure ++ cur.toList.drop (rowC s.sure).length).toArray).size = (rowC s.sure).length + (cur.size - (rowC s.sure).length) := by simp
      have : s.sure.length * 64 ≤ cn * 64 := Nat.mul_le_mul_right _ (by omega)
      rw [e2, hsz, hrl]
      omega
    · rw [List.toList_toArray, ← hrl, List.take_left]
  · rw [hvs] at hk; simp [Value.ownBlock] at hk e; omega
  · rw [List.mem_singleton] at e; exact (n4 k hk).2.1 e
  · rw [List.mem_singleton] at e; exact (n5 k hk).2.1 e
  · exact ⟨rfl, by show 8 ≤ s.sure.length ∧ _; rw [hlen.1]; exact hlen.2⟩
  · intro x hx
    show x.1 < s.sure.length ∧ _
    rw [hlen.1]; exact h.wr x hx
theorem Drv.emptied {base : Nat} {w : World} {d : DV} {s : DS} (h : Drv base w d s) : Drv base (w.setCell ⟨d.D, 2, none⟩ (.slice none 0 0)) { d with vo := .slice none 0 0 } { s with opn := [] } := by
  obtain ⟨gn, cn, _, hvn, -⟩ := ownsRow_slice h.now (by have := h.len; omega)
  obtain ⟨gs, cs, _, hvs, -⟩ := ownsRow_slice h.sure (by have := h.len; omega)
  obtain ⟨n1, n2, n3, n4, n5, m1, m2, m3⟩ := h.ne hvn hvs
  have ho : Only [d.D] w (w.setCell ⟨d.D, 2, none⟩ (.slice none 0 0)) := Only.setCell _ _ _ (by simp)
  refine ⟨h.hD, (setCell_at h.obj 2 _).trans rfl, ownsRow_kept h.now ho (fun k hk e => ?_), ownsRow_kept h.sure ho (fun k hk e => ?_), World.ownsRow_nil _ _ _ _, h.fuse.kept ho (fun k hk e => ?_), (nodup_vo h.nodup).1, h.len, h.secN, h.secS, fun x hx => by cases hx⟩
  · rw [hvn] at hk; simp [Value.ownBlock] at hk e; omega
  · rw [hvs] at hk; simp [Value.ownBlock] at hk e; omega
  · rw [List.mem_singleton] at e; exact (n5 k hk).1 e
theorem Drv.crashed {base : Nat} {w w3 : World} {d : DV} {S : List (List UInt8)} {o : List (Nat × List UInt8)} {f : Option Nat} (hd : Drv base w3 d ⟨S, S, o, f⟩) (ho : Only d.fp w w3) :
    Goes base w ((w3.setCell ⟨d.D, 2, none⟩ (.slice none 0 0)).setCell ⟨d.D, 3, none⟩ (.pointer none)) d ⟨S, S, [], none⟩ := by
  have h1 := hd.emptied
  have hD : d.D ∈ d.fp := by simp [DV.fp]
  have h2 := h1.fused (W := (w3.setCell ⟨d.D, 2, none⟩ (.slice none 0 0)).setCell ⟨d.D, 3, none⟩ (.pointer none)) (Only.setCell _ _ _ (by simp)) none none ((setCell_at h1.obj 3 _).trans rfl) trivial (by simp)
  refine ⟨{ d with vo := .slice none 0 0, fz := none }, rfl, h2, (ho.trans (Only.setCell (fp := d.fp) _ _ _ hD) (fun _ h _ => h)).trans (Only.setCell (fp := d.fp) _ _ _ hD) (fun _ h _ => h), fun k hk => .inl ?_⟩
  unfold DV.fp at hk ⊢
  simp only [Value.ownBlock, Option.toList_none, List.append_nil, List.mem_cons, List.mem_append] at hk ⊢
  rcases hk with e | e | e
  · exact .inl e
  · exact .inr (.inl e)
  · exact .inr (.inr (.inl e))
set_option maxRecDepth 100000 in
set_option maxHeartbeats 1000000 in
theorem Crash_goes {base : Nat} {w : World} {d : DV} {s : DS} (h : Drv base w d s) (hb : base ≤ w.heap.size) (hm : s.opn.length < 1000000) (keep torn at_ : Int) (hk : 0 ≤ keep ∧ keep < 18446744073709551616) :
    Calls Try.prog 25 #[ptr d.D, .agg #[.int .u64 keep, .int .i64 torn, .int .i64 at_]] w fun e w' => e = .returned (.tuple #[]) ∧ Goes base w w' d (crashS s keep torn at_) := by
  have HD := hid h
  have HM := hid hm
  have HK := hid hk
  have HB := hid hb
  have hD1 : Drv base (w.alloc (.cells #[.int .u64 keep, .int .i64 torn, .int .i64 at_] 30)) d s := h.kept (Only.alloc [] _ _) (by simp)
  have HD1 := hid hD1
  obtain ⟨-, -, j2, -, -, -, f2, -⟩ := hD1.cells
  obtain ⟨A, cp, hv⟩ := own_cases h.opn
  have HV := hid hv
  rw [hv] at j2
  clear h hm hk hb hD1 hv
  unfold ptr
  go_enter Try.func25, Try.ntmps25
  go_wp2_with (go_at_call 52; refine (none_calls HD1.out).mono ?_; rintro e w' ⟨rfl, rfl⟩)
  go_loopw [14] (fun q wr => ∃ k : Int, q = .int .i64 k ∧ Aside0 (0 ≤ k ∧ k ≤ (s.opn.length : Int)) ∧ Aside0 (CrashAt base w wr d s keep torn at_ w.heap.size k.toNat)) (fun q _ => s.opn.length - (intOf q).toNat)
  case atStart => exact ⟨0, rfl, ⟨⟨by decide, by omega⟩⟩, ⟨⟨HD1.out, Only.alloc _ _ _, heap_alloc_new _ _⟩⟩⟩
  case round =>
    obtain ⟨k, rfl, HI, HC⟩ := hrel
    clear j2 f2
    by_cases hi : k < (s.opn.length : Int)
    · have p0 : 0 ≤ k := HI.out.1
      obtain ⟨K, rfl⟩ : ∃ K : Nat, k = (K : Int) := ⟨k.toNat, by omega⟩
      have hKl : K < s.opn.length := by omega
      have hkb : (K : Int) ≤ 1000000 := by have := HM.out; omega
      have HKL := hid hKl
      obtain ⟨g, cp', curo, hvo, -, hgo, hco, -, hszo, hxo⟩ := ownsRow_slice HC.out.drv.opn (show 0 < s.opn.length by omega)
      replace hvo : d.vo = .slice (some ⟨g, 0, none⟩) s.opn.length cp' := hvo
      have HVO := hid hvo
      have e1 : A = some ⟨g, 0, none⟩ := by
        have := HV.out
        rw [hvo] at this
        injection this with h1 h2 h3
        exact h1.symm
      subst e1
      have hr := HC.out.opn_range HVO.out hKl
      rw [Int.toNat_natCast] at HC
      obtain ⟨x, hx⟩ : ∃ x, x = s.opn.getD K (0, []) := ⟨_, rfl⟩
      rw [← hx] at hr
      have hxw : x.1 < s.now.length ∧ x.2.length = 64 := HC.out.drv.wr x (by rw [hx, List.getD_eq_getElem?_getD, List.getElem?_eq_getElem hKl]; exact List.getElem_mem _)
      have HX := hid hx
      have HXW := hid hxw
      obtain ⟨n, L⟩ := x
      have hload := run_load67_mid wr g (K * 65) _ hr (wrC_length n L hxw.2)
      obtain ⟨ti, hti, htz, hts, -⟩ := info_three info67
      have HTS := hid hts
      have HWL := hid (wrC_length n L hxw.2)
      clear hr hx hxw hvo hgo hco hszo hxo hts
      have hbl : w.heap.size < wr.heap.size := (Array.getElem?_eq_some_iff.1 HC.out.box).1
      have HBL := hid hbl
      have HCB := hid (show w.heap.size ∉ d.fp from fun e => by have := (HD.out.fp_lt _ e).2; omega)
      clear hbl
      have c0 : decide ((K : Int) < (s.opn.length : Int)) = true := decide_eq_true hi
      by_cases ht : (K : Int) = torn
      · have c1 : ((K : Int) == torn) = true := by rw [beq_iff_eq]; exact ht
        by_cases a1 : at_ < 0
        · have HTT := hid (show toOf keep torn at_ K = 0 by unfold toOf; rw [if_pos ht]; omega)
          clear ht
          go_wp2_with (first
            | (refine wpList_alloc_row rfl 72 rfl ti _ hti htz (wrC (0, z64)).toArray rfl ?_; intro w1 u1)
            | (refine wpList_store_row rfl 72 (.tmp 5) (.tmp 18) rfl ti hti wr.heap.size rfl 72 _ u1.at_ (wrC (n, L)).toArray rfl (HTS.out.trans HWL.out.symm) (HWL.out.trans rfl) (wrC_one n L) ?_; intro w2 u2; have HC2 := hid (HC.out.round HBL.out u1 u2); have kb0 : w2.cell? ⟨w.heap.size, 0, none⟩ = some (.int .u64 keep) := (cell_of_row w2 _ _ _ _ _ HC2.out.1.box).trans rfl; have kb1 : w2.cell? ⟨w.heap.size, 1, none⟩ = some (.int .i64 torn) := (cell_of_row w2 _ _ _ _ _ HC2.out.1.box).trans rfl; have kb2 : w2.cell? ⟨w.heap.size, 2, none⟩ = some (.int .i64 at_) := (cell_of_row w2 _ _ _ _ _ HC2.out.1.box).trans rfl))
          obtain ⟨gs, caps, curs, hvs, hbs, hgs, hcs, hms, hszs, hxs⟩ := ownsRow_slice HC2.out.1.drv.sure (by have := HC2.out.1.drv.len; omega)
          obtain ⟨-, l1, -, -, -, -, -, -⟩ := HC2.out.1.drv.cells
          rw [hvs] at l1
          have hsl : (sureAt keep torn at_ s.sure s.opn K).length = s.now.length := HC2.out.1.drv.len.1
          have l2 : w2.cell? ⟨wr.heap.size, 0, none⟩ = some (.int .i64 (n : Int)) := (cell_of_row w2 _ _ _ _ _ HC2.out.2).trans rfl
          have q1 : (0 ≤ (n : Int)) = True := eq_true (by omega)
          have q2 : ((n : Int) < ((sureAt keep torn at_ s.sure s.opn K).length : Int)) = True := eq_true (by have := HXW.out; omega)
          obtain ⟨ti5, hti5, hts5⟩ : ∃ i, Try.prog.info? 5 = some i ∧ i.size = 1 := by
            have e : (Try.prog.info? 5).map (·.size) = some 1 := by kernel_rfl
            exact Option.map_eq_some_iff.1 e
          have q3 := Try.underlying70
          have HGS := hid hgs
          have HNL := hid (show ((L.take (0)).map cb).length = Nat.min (0) (0) * 1 by simp only [List.length_map, List.length_take, HXW.out.2, Nat.mul_one]; first | done | rfl | (show min _ _ = min _ _; omega))
          have HFI := hid (show n * 64 + ((L.take (0)).map cb).length ≤ curs.size by
            have h1 : (n + 1) * 64 ≤ caps * 64 := Nat.mul_le_mul_right _ (by have h2 : (sureAt keep torn at_ s.sure s.opn K).length ≤ caps := hcs; have := HXW.out; omega)
            rw [List.length_map, List.length_take, HXW.out.2, hszs]
            omega)
          have HSRC := hid (show ∀ j v, ((L.take (0)).map cb)[j]? = some v → w2.drew.cell? ((⟨wr.heap.size, 1, none⟩ : Addr).add j) = some v from fun j v hj => by
            have e : w2.drew.heap[wr.heap.size]? = some (.cells (wrC (n, L)).toArray 72 (0, 0)) := HC2.out.2
            rw [Addr.add_mid, cell_of_row _ _ _ _ _ _ e, List.getElem?_toArray, Nat.add_comm, wrC, List.getElem?_cons_succ]
            rw [List.map_take, List.getElem?_take] at hj
            split at hj
            · exact hj
            · cases hj)
          have HONE := hid (cb_one (L.take (0)))
          have HNX := hid (show ∀ w3, Upd w2.drew w3 gs (.cells (curs.toList.take (n * 64) ++ (L.take (0)).map cb ++ curs.toList.drop (n * 64 + ((L.take (0)).map cb).length)).toArray 70 (0, 0)) → CrashAt base w w3 d s keep torn at_ w.heap.size (K + 1) from fun w3 u =>
            HC2.out.1.next HX.out HTT.out hvs hbs hcs hms hszs hxs HXW.out HCB.out u)
          clear hvs hbs hgs hcs hms hszs hxs hsl kb0 kb1 kb2 hload u1 u2
          go_region_law ((refine step_copy_rows rfl (.tmp 44) (.tmp 47) 73 73 rfl 5 Try.underlying73 ti5 hti5 1 hts5 gs (n * 64) (0) 64 rfl ⟨wr.heap.size, 1, none⟩ (0) 64 rfl 70 curs HGS.out ((L.take (0)).map cb) HNL.out HSRC.out HFI.out HONE.out ?_; intro w3 u3))
          all_goals
            have HN3 := hid (HNX.out w3 u3)
            clear u3 l1 l2
            go_wp2
            go_roundw
            case rel => exact ⟨((K + 1 : Nat) : Int), by go_num, ⟨⟨by omega, by have := HKL.out; omega⟩⟩, ⟨by rw [Int.toNat_natCast]; exact HN3.out⟩⟩
            case measure => simp [intOf]; have := HKL.out; omega
        · by_cases a2 : 64 < at_
          · have HTT := hid (show toOf keep torn at_ K = 64 by unfold toOf; rw [if_pos ht]; omega)
            clear ht
            go_wp2_with (first
              | (refine wpList_alloc_row rfl 72 rfl ti _ hti htz (wrC (0, z64)).toArray rfl ?_; intro w1 u1)
              | (refine wpList_store_row rfl 72 (.tmp 5) (.tmp 18) rfl ti hti wr.heap.size rfl 72 _ u1.at_ (wrC (n, L)).toArray rfl (HTS.out.trans HWL.out.symm) (HWL.out.trans rfl) (wrC_one n L) ?_; intro w2 u2; have HC2 := hid (HC.out.round HBL.out u1 u2); have kb0 : w2.cell? ⟨w.heap.size, 0, none⟩ = some (.int .u64 keep) := (cell_of_row w2 _ _ _ _ _ HC2.out.1.box).trans rfl; have kb1 : w2.cell? ⟨w.heap.size, 1, none⟩ = some (.int .i64 torn) := (cell_of_row w2 _ _ _ _ _ HC2.out.1.box).trans rfl; have kb2 : w2.cell? ⟨w.heap.size, 2, none⟩ = some (.int .i64 at_) := (cell_of_row w2 _ _ _ _ _ HC2.out.1.box).trans rfl))
            obtain ⟨gs, caps, curs, hvs, hbs, hgs, hcs, hms, hszs, hxs⟩ := ownsRow_slice HC2.out.1.drv.sure (by have := HC2.out.1.drv.len; omega)
            obtain ⟨-, l1, -, -, -, -, -, -⟩ := HC2.out.1.drv.cells
            rw [hvs] at l1
            have hsl : (sureAt keep torn at_ s.sure s.opn K).length = s.now.length := HC2.out.1.drv.len.1
            have l2 : w2.cell? ⟨wr.heap.size, 0, none⟩ = some (.int .i64 (n : Int)) := (cell_of_row w2 _ _ _ _ _ HC2.out.2).trans rfl
            have q1 : (0 ≤ (n : Int)) = True := eq_true (by omega)
            have q2 : ((n : Int) < ((sureAt keep torn at_ s.sure s.opn K).length : Int)) = True := eq_true (by have := HXW.out; omega)
            obtain ⟨ti5, hti5, hts5⟩ : ∃ i, Try.prog.info? 5 = some i ∧ i.size = 1 := by
              have e : (Try.prog.info? 5).map (·.size) = some 1 := by kernel_rfl
              exact Option.map_eq_some_iff.1 e
            have q3 := Try.underlying70
            have HGS := hid hgs
            have HNL := hid (show ((L.take (64)).map cb).length = Nat.min (64) (64) * 1 by simp only [List.length_map, List.length_take, HXW.out.2, Nat.mul_one]; first | done | rfl | (show min _ _ = min _ _; omega))
            have HFI := hid (show n * 64 + ((L.take (64)).map cb).length ≤ curs.size by
              have h1 : (n + 1) * 64 ≤ caps * 64 := Nat.mul_le_mul_right _ (by have h2 : (sureAt keep torn at_ s.sure s.opn K).length ≤ caps := hcs; have := HXW.out; omega)
              rw [List.length_map, List.length_take, HXW.out.2, hszs]
              omega)
            have HSRC := hid (show ∀ j v, ((L.take (64)).map cb)[j]? = some v → w2.drew.cell? ((⟨wr.heap.size, 1, none⟩ : Addr).add j) = some v from fun j v hj => by
              have e : w2.drew.heap[wr.heap.size]? = some (.cells (wrC (n, L)).toArray 72 (0, 0)) := HC2.out.2
              rw [Addr.add_mid, cell_of_row _ _ _ _ _ _ e, List.getElem?_toArray, Nat.add_comm, wrC, List.getElem?_cons_succ]
              rw [List.map_take, List.getElem?_take] at hj
              split at hj
              · exact hj
              · cases hj)
            have HONE := hid (cb_one (L.take (64)))
            have HNX := hid (show ∀ w3, Upd w2.drew w3 gs (.cells (curs.toList.take (n * 64) ++ (L.take (64)).map cb ++ curs.toList.drop (n * 64 + ((L.take (64)).map cb).length)).toArray 70 (0, 0)) → CrashAt base w w3 d s keep torn at_ w.heap.size (K + 1) from fun w3 u =>
              HC2.out.1.next HX.out HTT.out hvs hbs hcs hms hszs hxs HXW.out HCB.out u)
            clear hvs hbs hgs hcs hms hszs hxs hsl kb0 kb1 kb2 hload u1 u2
            go_region_law ((refine step_copy_rows rfl (.tmp 44) (.tmp 47) 73 73 rfl 5 Try.underlying73 ti5 hti5 1 hts5 gs (n * 64) (64) 64 rfl ⟨wr.heap.size, 1, none⟩ (64) 64 rfl 70 curs HGS.out ((L.take (64)).map cb) HNL.out HSRC.out HFI.out HONE.out ?_; intro w3 u3))
            all_goals
              have HN3 := hid (HNX.out w3 u3)
              clear u3 l1 l2
              go_wp2
              go_roundw
              case rel => exact ⟨((K + 1 : Nat) : Int), by go_num, ⟨⟨by omega, by have := HKL.out; omega⟩⟩, ⟨by rw [Int.toNat_natCast]; exact HN3.out⟩⟩
              case measure => simp [intOf]; have := HKL.out; omega
          · obtain ⟨tt, rfl⟩ : ∃ tt : Nat, at_ = (tt : Int) := ⟨at_.toNat, by omega⟩
            have HTT := hid (show toOf keep torn (tt : Int) K = tt by unfold toOf; rw [if_pos ht]; omega)
            have HTL := hid (show tt ≤ 64 by omega)
            have m1 : 0 ≤ (tt : Int) := by omega
            have m2 : (tt : Int) ≤ 64 := by omega
            clear ht
            go_wp2_with (first
              | (refine wpList_alloc_row rfl 72 rfl ti _ hti htz (wrC (0, z64)).toArray rfl ?_; intro w1 u1)
              | (refine wpList_store_row rfl 72 (.tmp 5) (.tmp 18) rfl ti hti wr.heap.size rfl 72 _ u1.at_ (wrC (n, L)).toArray rfl (HTS.out.trans HWL.out.symm) (HWL.out.trans rfl) (wrC_one n L) ?_; intro w2 u2; have HC2 := hid (HC.out.round HBL.out u1 u2); have kb0 : w2.cell? ⟨w.heap.size, 0, none⟩ = some (.int .u64 keep) := (cell_of_row w2 _ _ _ _ _ HC2.out.1.box).trans rfl; have kb1 : w2.cell? ⟨w.heap.size, 1, none⟩ = some (.int .i64 torn) := (cell_of_row w2 _ _ _ _ _ HC2.out.1.box).trans rfl; have kb2 : w2.cell? ⟨w.heap.size, 2, none⟩ = some (.int .i64 (tt : Int)) := (cell_of_row w2 _ _ _ _ _ HC2.out.1.box).trans rfl))
            obtain ⟨gs, caps, curs, hvs, hbs, hgs, hcs, hms, hszs, hxs⟩ := ownsRow_slice HC2.out.1.drv.sure (by have := HC2.out.1.drv.len; omega)
            obtain ⟨-, l1, -, -, -, -, -, -⟩ := HC2.out.1.drv.cells
            rw [hvs] at l1
            have hsl : (sureAt keep torn (tt : Int) s.sure s.opn K).length = s.now.length := HC2.out.1.drv.len.1
            have l2 : w2.cell? ⟨wr.heap.size, 0, none⟩ = some (.int .i64 (n : Int)) := (cell_of_row w2 _ _ _ _ _ HC2.out.2).trans rfl
            have q1 : (0 ≤ (n : Int)) = True := eq_true (by omega)
            have q2 : ((n : Int) < ((sureAt keep torn (tt : Int) s.sure s.opn K).length : Int)) = True := eq_true (by have := HXW.out; omega)
            obtain ⟨ti5, hti5, hts5⟩ : ∃ i, Try.prog.info? 5 = some i ∧ i.size = 1 := by
              have e : (Try.prog.info? 5).map (·.size) = some 1 := by kernel_rfl
              exact Option.map_eq_some_iff.1 e
            have q3 := Try.underlying70
            have HGS := hid hgs
            have HNL := hid (show ((L.take (tt)).map cb).length = Nat.min (tt) (tt) * 1 by simp only [List.length_map, List.length_take, HXW.out.2, Nat.mul_one]; have := HTL.out; first | done | rfl | (show min _ _ = min _ _; omega))
            have HFI := hid (show n * 64 + ((L.take (tt)).map cb).length ≤ curs.size by
              have h1 : (n + 1) * 64 ≤ caps * 64 := Nat.mul_le_mul_right _ (by have h2 : (sureAt keep torn (tt : Int) s.sure s.opn K).length ≤ caps := hcs; have := HXW.out; omega)
              rw [List.length_map, List.length_take, HXW.out.2, hszs]
              have := HTL.out
              omega)
            have HSRC := hid (show ∀ j v, ((L.take (tt)).map cb)[j]? = some v → w2.drew.cell? ((⟨wr.heap.size, 1, none⟩ : Addr).add j) = some v from fun j v hj => by
              have e : w2.drew.heap[wr.heap.size]? = some (.cells (wrC (n, L)).toArray 72 (0, 0)) := HC2.out.2
              rw [Addr.add_mid, cell_of_row _ _ _ _ _ _ e, List.getElem?_toArray, Nat.add_comm, wrC, List.getElem?_cons_succ]
              rw [List.map_take, List.getElem?_take] at hj
              split at hj
              · exact hj
              · cases hj)
            have HONE := hid (cb_one (L.take (tt)))
            have HNX := hid (show ∀ w3, Upd w2.drew w3 gs (.cells (curs.toList.take (n * 64) ++ (L.take (tt)).map cb ++ curs.toList.drop (n * 64 + ((L.take (tt)).map cb).length)).toArray 70 (0, 0)) → CrashAt base w w3 d s keep torn (tt : Int) w.heap.size (K + 1) from fun w3 u =>
              HC2.out.1.next HX.out HTT.out hvs hbs hcs hms hszs hxs HXW.out HCB.out u)
            clear hvs hbs hgs hcs hms hszs hxs hsl kb0 kb1 kb2 hload u1 u2
            go_region_law ((refine step_copy_rows rfl (.tmp 44) (.tmp 47) 73 73 rfl 5 Try.underlying73 ti5 hti5 1 hts5 gs (n * 64) (tt) 64 rfl ⟨wr.heap.size, 1, none⟩ (tt) 64 rfl 70 curs HGS.out ((L.take (tt)).map cb) HNL.out HSRC.out HFI.out HONE.out ?_; intro w3 u3))
            all_goals
              have HN3 := hid (HNX.out w3 u3)
              clear u3 l1 l2
              go_wp2
              go_roundw
              case rel => exact ⟨((K + 1 : Nat) : Int), by go_num, ⟨⟨by omega, by have := HKL.out; omega⟩⟩, ⟨by rw [Int.toNat_natCast]; exact HN3.out⟩⟩
              case measure => simp [intOf]; have := HKL.out; omega
      · have c1 : ((K : Int) == torn) = false := by rw [beq_eq_false_iff_ne]; exact ht
        by_cases hb : keptB keep K = true
        · have c2 : (bits BinOp.and IntKind.u64 (keep / 2 ^ (K % 64)) 1 == 1) = true := by rw [kept_bits keep HK.out, hb]
          have HTT := hid (show toOf keep torn at_ K = 64 by unfold toOf; rw [if_neg ht, if_pos hb])
          clear ht hb
          go_wp2_with (first
            | (refine wpList_alloc_row rfl 72 rfl ti _ hti htz (wrC (0, z64)).toArray rfl ?_; intro w1 u1)
            | (refine wpList_store_row rfl 72 (.tmp 5) (.tmp 18) rfl ti hti wr.heap.size rfl 72 _ u1.at_ (wrC (n, L)).toArray rfl (HTS.out.trans HWL.out.symm) (HWL.out.trans rfl) (wrC_one n L) ?_; intro w2 u2; have HC2 := hid (HC.out.round HBL.out u1 u2); have kb0 : w2.cell? ⟨w.heap.size, 0, none⟩ = some (.int .u64 keep) := (cell_of_row w2 _ _ _ _ _ HC2.out.1.box).trans rfl; have kb1 : w2.cell? ⟨w.heap.size, 1, none⟩ = some (.int .i64 torn) := (cell_of_row w2 _ _ _ _ _ HC2.out.1.box).trans rfl; have kb2 : w2.cell? ⟨w.heap.size, 2, none⟩ = some (.int .i64 at_) := (cell_of_row w2 _ _ _ _ _ HC2.out.1.box).trans rfl))
          obtain ⟨gs, caps, curs, hvs, hbs, hgs, hcs, hms, hszs, hxs⟩ := ownsRow_slice HC2.out.1.drv.sure (by have := HC2.out.1.drv.len; omega)
          obtain ⟨-, l1, -, -, -, -, -, -⟩ := HC2.out.1.drv.cells
          rw [hvs] at l1
          have hsl : (sureAt keep torn at_ s.sure s.opn K).length = s.now.length := HC2.out.1.drv.len.1
          have l2 : w2.cell? ⟨wr.heap.size, 0, none⟩ = some (.int .i64 (n : Int)) := (cell_of_row w2 _ _ _ _ _ HC2.out.2).trans rfl
          have q1 : (0 ≤ (n : Int)) = True := eq_true (by omega)
          have q2 : ((n : Int) < ((sureAt keep torn at_ s.sure s.opn K).length : Int)) = True := eq_true (by have := HXW.out; omega)
          obtain ⟨ti5, hti5, hts5⟩ : ∃ i, Try.prog.info? 5 = some i ∧ i.size = 1 := by
            have e : (Try.prog.info? 5).map (·.size) = some 1 := by kernel_rfl
            exact Option.map_eq_some_iff.1 e
          have q3 := Try.underlying70
          have HGS := hid hgs
          have HNL := hid (show ((L.take (64)).map cb).length = Nat.min (64) (64) * 1 by simp only [List.length_map, List.length_take, HXW.out.2, Nat.mul_one]; first | done | rfl | (show min _ _ = min _ _; omega))
          have HFI := hid (show n * 64 + ((L.take (64)).map cb).length ≤ curs.size by
            have h1 : (n + 1) * 64 ≤ caps * 64 := Nat.mul_le_mul_right _ (by have h2 : (sureAt keep torn at_ s.sure s.opn K).length ≤ caps := hcs; have := HXW.out; omega)
            rw [List.length_map, List.length_take, HXW.out.2, hszs]
            omega)
          have HSRC := hid (show ∀ j v, ((L.take (64)).map cb)[j]? = some v → w2.drew.cell? ((⟨wr.heap.size, 1, none⟩ : Addr).add j) = some v from fun j v hj => by
            have e : w2.drew.heap[wr.heap.size]? = some (.cells (wrC (n, L)).toArray 72 (0, 0)) := HC2.out.2
            rw [Addr.add_mid, cell_of_row _ _ _ _ _ _ e, List.getElem?_toArray, Nat.add_comm, wrC, List.getElem?_cons_succ]
            rw [List.map_take, List.getElem?_take] at hj
            split at hj
            · exact hj
            · cases hj)
          have HONE := hid (cb_one (L.take (64)))
          have HNX := hid (show ∀ w3, Upd w2.drew w3 gs (.cells (curs.toList.take (n * 64) ++ (L.take (64)).map cb ++ curs.toList.drop (n * 64 + ((L.take (64)).map cb).length)).toArray 70 (0, 0)) → CrashAt base w w3 d s keep torn at_ w.heap.size (K + 1) from fun w3 u =>
            HC2.out.1.next HX.out HTT.out hvs hbs hcs hms hszs hxs HXW.out HCB.out u)
          clear hvs hbs hgs hcs hms hszs hxs hsl kb0 kb1 kb2 hload u1 u2
          go_region_law ((refine step_copy_rows rfl (.tmp 44) (.tmp 47) 73 73 rfl 5 Try.underlying73 ti5 hti5 1 hts5 gs (n * 64) (64) 64 rfl ⟨wr.heap.size, 1, none⟩ (64) 64 rfl 70 curs HGS.out ((L.take (64)).map cb) HNL.out HSRC.out HFI.out HONE.out ?_; intro w3 u3))
          all_goals
            have HN3 := hid (HNX.out w3 u3)
            clear u3 l1 l2
            go_wp2
            go_roundw
            case rel => exact ⟨((K + 1 : Nat) : Int), by go_num, ⟨⟨by omega, by have := HKL.out; omega⟩⟩, ⟨by rw [Int.toNat_natCast]; exact HN3.out⟩⟩
            case measure => simp [intOf]; have := HKL.out; omega
        · have c2 : (bits BinOp.and IntKind.u64 (keep / 2 ^ (K % 64)) 1 == 1) = false := by rw [kept_bits keep HK.out]; simpa using hb
          have HTT := hid (show toOf keep torn at_ K = 0 by unfold toOf; rw [if_neg ht, if_neg hb])
          clear ht hb
          go_wp2_with (first
            | (refine wpList_alloc_row rfl 72 rfl ti _ hti htz (wrC (0, z64)).toArray rfl ?_; intro w1 u1)
            | (refine wpList_store_row rfl 72 (.tmp 5) (.tmp 18) rfl ti hti wr.heap.size rfl 72 _ u1.at_ (wrC (n, L)).toArray rfl (HTS.out.trans HWL.out.symm) (HWL.out.trans rfl) (wrC_one n L) ?_; intro w2 u2; have HC2 := hid (HC.out.round HBL.out u1 u2); have kb0 : w2.cell? ⟨w.heap.size, 0, none⟩ = some (.int .u64 keep) := (cell_of_row w2 _ _ _ _ _ HC2.out.1.box).trans rfl; have kb1 : w2.cell? ⟨w.heap.size, 1, none⟩ = some (.int .i64 torn) := (cell_of_row w2 _ _ _ _ _ HC2.out.1.box).trans rfl; have kb2 : w2.cell? ⟨w.heap.size, 2, none⟩ = some (.int .i64 at_) := (cell_of_row w2 _ _ _ _ _ HC2.out.1.box).trans rfl))
          obtain ⟨gs, caps, curs, hvs, hbs, hgs, hcs, hms, hszs, hxs⟩ := ownsRow_slice HC2.out.1.drv.sure (by have := HC2.out.1.drv.len; omega)
          obtain ⟨-, l1, -, -, -, -, -, -⟩ := HC2.out.1.drv.cells
          rw [hvs] at l1
          have hsl : (sureAt keep torn at_ s.sure s.opn K).length = s.now.length := HC2.out.1.drv.len.1
          have l2 : w2.cell? ⟨wr.heap.size, 0, none⟩ = some (.int .i64 (n : Int)) := (cell_of_row w2 _ _ _ _ _ HC2.out.2).trans rfl
          have q1 : (0 ≤ (n : Int)) = True := eq_true (by omega)
          have q2 : ((n : Int) < ((sureAt keep torn at_ s.sure s.opn K).length : Int)) = True := eq_true (by have := HXW.out; omega)
          obtain ⟨ti5, hti5, hts5⟩ : ∃ i, Try.prog.info? 5 = some i ∧ i.size = 1 := by
            have e : (Try.prog.info? 5).map (·.size) = some 1 := by kernel_rfl
            exact Option.map_eq_some_iff.1 e
          have q3 := Try.underlying70
          have HGS := hid hgs
          have HNL := hid (show ((L.take (0)).map cb).length = Nat.min (0) (0) * 1 by simp only [List.length_map, List.length_take, HXW.out.2, Nat.mul_one]; first | done | rfl | (show min _ _ = min _ _; omega))
          have HFI := hid (show n * 64 + ((L.take (0)).map cb).length ≤ curs.size by
            have h1 : (n + 1) * 64 ≤ caps * 64 := Nat.mul_le_mul_right _ (by have h2 : (sureAt keep torn at_ s.sure s.opn K).length ≤ caps := hcs; have := HXW.out; omega)
            rw [List.length_map, List.length_take, HXW.out.2, hszs]
            omega)
          have HSRC := hid (show ∀ j v, ((L.take (0)).map cb)[j]? = some v → w2.drew.cell? ((⟨wr.heap.size, 1, none⟩ : Addr).add j) = some v from fun j v hj => by
            have e : w2.drew.heap[wr.heap.size]? = some (.cells (wrC (n, L)).toArray 72 (0, 0)) := HC2.out.2
            rw [Addr.add_mid, cell_of_row _ _ _ _ _ _ e, List.getElem?_toArray, Nat.add_comm, wrC, List.getElem?_cons_succ]
            rw [List.map_take, List.getElem?_take] at hj
            split at hj
            · exact hj
            · cases hj)
          have HONE := hid (cb_one (L.take (0)))
          have HNX := hid (show ∀ w3, Upd w2.drew w3 gs (.cells (curs.toList.take (n * 64) ++ (L.take (0)).map cb ++ curs.toList.drop (n * 64 + ((L.take (0)).map cb).length)).toArray 70 (0, 0)) → CrashAt base w w3 d s keep torn at_ w.heap.size (K + 1) from fun w3 u =>
            HC2.out.1.next HX.out HTT.out hvs hbs hcs hms hszs hxs HXW.out HCB.out u)
          clear hvs hbs hgs hcs hms hszs hxs hsl kb0 kb1 kb2 hload u1 u2
          go_region_law ((refine step_copy_rows rfl (.tmp 44) (.tmp 47) 73 73 rfl 5 Try.underlying73 ti5 hti5 1 hts5 gs (n * 64) (0) 64 rfl ⟨wr.heap.size, 1, none⟩ (0) 64 rfl 70 curs HGS.out ((L.take (0)).map cb) HNL.out HSRC.out HFI.out HONE.out ?_; intro w3 u3))
          all_goals
            have HN3 := hid (HNX.out w3 u3)
            clear u3 l1 l2
            go_wp2
            go_roundw
            case rel => exact ⟨((K + 1 : Nat) : Int), by go_num, ⟨⟨by omega, by have := HKL.out; omega⟩⟩, ⟨by rw [Int.toNat_natCast]; exact HN3.out⟩⟩
            case measure => simp [intOf]; have := HKL.out; omega
    · have c0 : decide (k < (s.opn.length : Int)) = false := decide_eq_false hi
      have hk : k.toNat = s.opn.length := by have := HI.out; omega
      rw [hk] at HC
      obtain ⟨gn, capn, curn, hvn, hbn, hgn, hcn, hmn, hszn, hxn⟩ := ownsRow_slice HC.out.drv.now (by have := HC.out.drv.len; omega)
      obtain ⟨gs, caps, curs, hvs, hbs, hgs, hcs, hms, hszs, hxs⟩ := ownsRow_slice HC.out.drv.sure (by have := HC.out.drv.len; omega)
      obtain ⟨l0, l1, -, -, -, -, -, -⟩ := HC.out.drv.cells
      obtain ⟨S, hS⟩ : ∃ S, S = sureAt keep torn at_ s.sure s.opn s.opn.length := ⟨_, rfl⟩
      have hcr : crashS s keep torn at_ = ⟨S, S, [], none⟩ := by unfold crashS; rw [hS]
      have hdr := HC.out.drv
      have hon := HC.out.only
      rw [← hS] at hvs hcs hxs hdr
      replace hvs : d.vs = .slice (some ⟨gs, 0, none⟩) S.length caps := hvs
      replace hvn : d.vn = .slice (some ⟨gn, 0, none⟩) s.now.length capn := hvn
      rw [hvn] at l0
      rw [hvs] at l1
      have hlen := hdr.len
      replace hlen : S.length = s.now.length ∧ 8 ≤ s.now.length ∧ s.now.length ≤ 4096 := hlen
      have hrl : (rowC S).length = S.length * 64 := rowC_length S hdr.secS
      obtain ⟨ti, hti, htz, hts, -⟩ := info_three info65
      have HGN := hid hgn
      have HNL := hid (show (rowC S).length = Nat.min S.length s.now.length * 64 by rw [hrl, hlen.1]; congr 1; exact (Nat.min_self _).symm)
      have HSRC := hid (src_at (w := wr.drew) (off := 0) hgs hxs (by rw [hszs]; exact Nat.mul_le_mul_right _ hcs))
      have HFI := hid (show 0 + (rowC S).length ≤ curn.size by rw [hrl, hszn]; have h1 : s.now.length ≤ capn := hcn; have : S.length * 64 ≤ capn * 64 := Nat.mul_le_mul_right _ (by omega); omega)
      have HONE := hid (rowC_one S)
      have HFN := hid (show ∀ w3, Upd wr.drew w3 gn (.cells (curn.toList.take 0 ++ rowC S ++ curn.toList.drop (0 + (rowC S).length)).toArray 70 (0, 0)) → Drv base w3 d ⟨S, S, s.opn, s.fuse⟩ ∧ Only d.fp w w3 from fun w3 u =>
        ⟨(hdr.kept (Only.drew [] wr) (by simp)).nowed hvn hbn hcn hmn hszn u, (hon.trans (Only.drew d.fp wr) (fun _ h _ => h)).trans (Only.of_upd u (by unfold DV.fp; rw [hvn]; simp [Value.ownBlock])) (fun _ h _ => h)⟩)
      have HD4 := hid (show ∀ w3, Drv base w3 d ⟨S, S, s.opn, s.fuse⟩ → Only d.fp w w3 → Goes base w ((w3.setCell ⟨d.D, 2, none⟩ (.slice none 0 0)).setCell ⟨d.D, 3, none⟩ (.pointer none)) d (crashS s keep torn at_) from fun w3 h1 h2 => by rw [hcr]; exact Drv.crashed h1 h2)
      clear hvn hbn hgn hcn hmn hszn hxn hvs hbs hgs hcs hms hszs hxs hS hcr hdr hon hlen hrl hk HC
      go_wp2
      go_region_law ((refine step_copy_rows rfl (.tmp 53) (.tmp 57) 62 62 rfl 70 Try.underlying62 ti hti 64 hts gn 0 s.now.length capn rfl ⟨gs, 0, none⟩ S.length caps rfl 70 curn HGN.out (rowC S) HNL.out HSRC.out HFI.out HONE.out ?_; intro w3 u3))
      all_goals
        have HW3 := hid (HFN.out w3 u3)
        clear u3 l0 l1
        obtain ⟨-, -, p2, p3, -, -, g2, g3⟩ := HW3.out.1.cells
        go_wp2
        go_end0
        exact ⟨rfl, HD4.out w3 HW3.out.1 HW3.out.2⟩
end Go.Proofs.Ytnhgakmnkpjpdaa
