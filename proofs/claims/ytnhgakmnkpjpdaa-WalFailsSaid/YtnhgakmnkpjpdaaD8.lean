/- A drive: Copy. -/
import Derived.Test.YtnhgakmnkpjpdaaDA
set_option linter.unusedVariables false
set_option linter.unusedSimpArgs false
namespace Go.Proofs.Ytnhgakmnkpjpdaa
open Go Go.RowKit Go.Proofs.YtnhgakmnkpjpdaaW.PrintWords Go.Proofs.YtnhgakmnkpjpdaaW.PrintLast Go.Proofs.YtnhgakmnkpjpdaaW.PrintMore
attribute [local go_sem] Oper.semAt_some max2_int min2_int max_two min_two max_three min_three max_four min_four
theorem At.val {ops : Array Oper} {a0 a : Act} {us : Nat → Option Value} (h : At ops a0 us a) {i : Nat} {o : Oper} {v : Value} {d : Nat} (ho : ops[i]? = some o) (hd : o.dst = some d) (hv : us i = some v) : a.eval (.tmp d) = v := by
  show a.tmps.getD d undef = v
  rw [Array.getD_eq_getD_getElem?, h.done i o v d ho hv hd]; rfl
theorem At.keep {ops : Array Oper} {a0 a : Act} {us : Nat → Option Value} (h : At ops a0 us a) {t : Nat} (hn : ops.all (fun o => o.dst != some t) = true) : a.eval (.tmp t) = a0.eval (.tmp t) := by
  show a.tmps.getD t undef = a0.tmps.getD t undef
  rw [Array.getD_eq_getD_getElem?, Array.getD_eq_getD_getElem?, h.old t (fun i o ho _ e => by
    have := Array.all_eq_true_iff_forall_mem.1 hn o (Array.mem_of_getElem? ho)
    simp [e] at this)]
/-- Nothing is appended to an empty slice without room: or something, into a block that is new. -/
theorem run_copy {P : Program} (w : World) (t ty e : TypeId) (i : TypeInfo) (z : Value) (size bytes : Nat) (ht : P.underlying t = some (.slice e)) (hi : P.info? e = some i) (hz : i.zero = some z)
    (hsize : i.size = size) (hby : i.bytes = bytes) (hzs : z.cells.size = size) (hsz : 0 < size)
    (base b : Nat) (hb : base ≤ b) (hbb : w.heap[b]? = some (.cells #[] e (0, 0))) (bs : Nat) (sv : Value) (n : Nat) (xs : List Value) (hown : w.ownsRow bs e size sv n xs) (h1 : ∀ u ∈ xs, u.oneCell' = true)
    (h63 : n ≤ maxLen) (hbytes : n * bytes ≤ 140737488355328) (hbase : base ≤ w.heap.size) :
    ∃ v' w', (Builtin.append_ #[t, t] ty #[.slice (some ⟨b, 0, none⟩) 0 0, sv]).run P w = .ok v' w' ∧ w'.ownsRow base e size v' n xs ∧ Only [] w w' ∧ (v'.ownBlock = some b ∨ v'.ownBlock = some w.heap.size) := by
  subst hsize
  subst hby
  have own0 : w.ownsRow base e i.size (.slice (some ⟨b, 0, none⟩) 0 0) 0 [] := ⟨by simp, .inr ⟨b, 0, #[], rfl, hb, hbb, Nat.le_refl _, by unfold maxLen; omega, by simp, by simp⟩⟩
  by_cases hn : n = 0
  · subst hn
    have hx : xs = [] := List.eq_nil_of_length_eq_zero (by simpa using hown.1)
    subst hx
    refine ⟨.slice (some ⟨b, 0, none⟩) 0 0, w, ?_, own0, Only.refl _ _, .inl rfl⟩
    rcases hown.2 with ⟨rfl, _⟩ | ⟨g, cap, cur, rfl, _⟩
    · simp [Builtin.append_, run_underlying ht, sizeOf, typeInfo, hi, Builtin.lenOf, Builtin.firstCells, loadCells, loadCellsFrom, storeCells]
    · simp [Builtin.append_, run_underlying ht, sizeOf, typeInfo, hi, Builtin.lenOf, Builtin.firstCells, loadCells, loadCellsFrom, storeCells]
  · obtain ⟨g, cap, cur, rfl, hbg, hg, hnc, hcm, hcs, htake⟩ : ∃ g cap cur, sv = .slice (some ⟨g, 0, none⟩) n cap ∧ bs ≤ g ∧ w.heap[g]? = some (.cells cur e (0, 0)) ∧ n ≤ cap ∧ cap ≤ maxLen ∧ cur.size = cap * i.size ∧ cur.toList.take (n * i.size) = xs := by
      rcases hown.2 with ⟨_, h0⟩ | h
      · exact absurd h0 hn
      · exact h
    have holds : ∀ j u, xs[j]? = some u → w.cell? ((⟨g, 0, none⟩ : Addr).add j) = some u := hown.cells (g := g) rfl
    have hsmall : n ≤ 9223372036854775807 := by simp only [maxLen] at h63; omega
    have hr := run_append_grow (P := P) w t ty e i z ht hi hz ⟨b, 0, none⟩ 0 0 [] (by simp) (by simp) ⟨g, 0, none⟩ n cap xs hown.1 holds (by omega) (by omega) (growslice_fits (by omega) (by rw [Nat.zero_add]; exact hbytes))
    simp only [Nat.zero_add] at hr
    refine ⟨_, _, hr, ?_, ?_, .inr rfl⟩
    · have hge := grownCap_ge w n 0 e
      have hcm' : grownCap w n 0 e ≤ maxLen := grownCap_le_maxLen w n 0 e h63
      refine ⟨hown.1, .inr ⟨w.heap.size, _, _, rfl, hbase, heap_alloc_new w.drew _, hge, hcm', ?_, ?_⟩⟩
      · simp only [Array.size_append, List.size_toArray, List.length_nil, size_zeroCells, hzs, hown.1, Nat.zero_add, ← Nat.add_mul]
        congr 1
        omega
      · simp only [Array.toList_append, List.append_assoc, List.nil_append]
        rw [← hown.1]
        exact List.take_left
    · exact (Only.drew [] w).trans (Only.alloc [] _ _) (fun _ h _ => h)
/-! What Copy's one statement leaves. -/
def cty (c : Nat) : Nat := if c = 2 then 72 else 70
def csz (c : Nat) : Nat := if c = 2 then 65 else 64
def csrc (d : DV) : Nat → Value
  | 0 => d.vn
  | 1 => d.vs
  | _ => d.vo
def clen (s : DS) : Nat → Nat
  | 0 => s.now.length
  | 1 => s.sure.length
  | _ => s.opn.length
def cxs (s : DS) : Nat → List Value
  | 0 => rowC s.now
  | 1 => rowC s.sure
  | _ => opnC s.opn
/-- What each value is, by its operation's number. -/
def CF (B : Nat) (d : DV) (s : DS) (x : Nat) (v : Value) (w : World) : Prop :=
  if x < 18 then match x % 6 with
    | 0 => ∃ b, v = .slice (some ⟨b, 0, none⟩) 0 0 ∧ B ≤ b ∧ w.heap[b]? = some (.cells #[] (cty (x / 6)) (0, 0))
    | 3 => v = .pointer (some ⟨d.D, x / 6, none⟩)
    | 4 => v = csrc d (x / 6)
    | 5 => w.ownsRow B (cty (x / 6)) (csz (x / 6)) v (clen s (x / 6)) (cxs s (x / 6))
    | _ => v = ptr d.D
  else True
theorem CF.mono {B : Nat} {d : DV} {s : DS} {x : Nat} {v : Value} {w w' : World} (h : CF B d s x v w) (ho : Only [] w w') : CF B d s x v w' := by
  unfold CF at *
  split at h
  · rename_i hx
    rw [if_pos hx]
    split at h
    · obtain ⟨b, h1, h2, h3⟩ := h
      exact ⟨b, h1, h2, (ho.block b (Array.getElem?_eq_some_iff.1 h3).1 (by simp)).trans h3⟩
    · exact h
    · exact h
    · exact ownsRow_kept h ho (by simp)
    · exact h
  · rename_i hx
    rw [if_neg hx]; trivial
def ck : List Nat := [0, 5, 6, 11, 12, 17]
structure CJ (w0 : World) (d : DV) (s : DS) (us : Nat → Option Value) (w : World) : Prop where
  only : Only [] w0 w
  un : ∀ x v, us x = some v → CF w0.heap.size d s x v w
  lt : ∀ x v k, x ∈ ck → us x = some v → v.ownBlock = some k → k < w.heap.size
  nd : ∀ x y v u k, x ∈ ck → y ∈ ck → x / 6 ≠ y / 6 → us x = some v → us y = some u → v.ownBlock = some k → u.ownBlock ≠ some k
  b18 : ∀ v, us 18 = some v → ∃ a b c, us 5 = some a ∧ us 11 = some b ∧ us 17 = some c ∧ v = .agg #[a, b, c, .pointer none]
  b19 : ∀ v, us 19 = some v → ∃ g cs, us 18 = some (.agg cs) ∧ v = ptr g ∧ w0.heap.size ≤ g ∧ w.heap[g]? = some (.cells cs 66 (0, 0)) ∧ ∀ y u, y ∈ [5, 11, 17] → us y = some u → u.ownBlock ≠ some g
  b20 : ∀ v, us 20 = some v → us 19 = some v
theorem CJ.step {w0 : World} {d : DV} {s : DS} {us : Nat → Option Value} {w w' : World} (h : CJ w0 d s us w) {i : Nat} {v : Value} (hu : us i = none) (ho : Only [] w w') (hF : CF w0.heap.size d s i v w')
    (hlt : i ∈ ck → ∀ k, v.ownBlock = some k → k < w'.heap.size ∧ (w.heap.size ≤ k ∨ ∃ u, i / 6 = (i - 5) / 6 ∧ (i - 5) ∈ ck ∧ us (i - 5) = some u ∧ u.ownBlock = some k))
    (h18 : i = 18 → ∃ a b c, us 5 = some a ∧ us 11 = some b ∧ us 17 = some c ∧ v = .agg #[a, b, c, .pointer none])
    (h19 : i = 19 → ∃ g cs, us 18 = some (.agg cs) ∧ v = ptr g ∧ w0.heap.size ≤ g ∧ w'.heap[g]? = some (.cells cs 66 (0, 0)) ∧ w.heap.size ≤ g)
    (h20 : i = 20 → us 19 = some v) : CJ w0 d s (upd us i v) w' := by
  have old : ∀ {x : Nat} {u : Value}, us x = some u → upd us i v x = some u := fun {x u} hx => by
    rw [upd_ne]; exact hx; intro e; rw [e, hu] at hx; cases hx
  have inv : ∀ {x : Nat} {u : Value}, upd us i v x = some u → (x = i ∧ u = v) ∨ (x ≠ i ∧ us x = some u) := fun {x u} hx => by
    by_cases e : x = i
    · subst e; rw [upd_same] at hx; exact .inl ⟨rfl, (Option.some.inj hx).symm⟩
    · rw [upd_ne _ _ e] at hx; exact .inr ⟨e, hx⟩
  refine ⟨h.only.trans ho (fun _ h _ => h), fun x u hx => ?_, fun x u k hk hx hb => ?_, fun x y u1 u2 k hk hl hne hx hy hb => ?_, fun u hx => ?_, fun u hx => ?_, fun u hx => ?_⟩
  · rcases inv hx with ⟨rfl, rfl⟩ | ⟨-, hx⟩
    · exact hF
    · exact (h.un x u hx).mono ho
  · rcases inv hx with ⟨rfl, rfl⟩ | ⟨-, hx⟩
    · exact (hlt hk k hb).1
    · exact Nat.lt_of_lt_of_le (h.lt x u k hk hx hb) ho.size
  · rcases inv hx with ⟨ex, ev⟩ | ⟨-, hx2⟩
    · rcases inv hy with ⟨ey, -⟩ | ⟨-, hy2⟩
      · exact absurd (by rw [ex, ey]) hne
      · rw [ex] at hk hne
        rw [ev] at hb
        rcases (hlt hk k hb).2 with h1 | ⟨u, he, hm, hu', hb'⟩
        · intro e; have := h.lt y u2 k hl hy2 e; omega
        · have hq : (i - 5) / 6 ≠ y / 6 := by rw [← he]; exact hne
          exact h.nd _ y u u2 k hm hl hq hu' hy2 hb'
    · rcases inv hy with ⟨ey, ev⟩ | ⟨-, hy2⟩
      · intro e
        rw [ey] at hl hne
        rw [ev] at e
        rcases (hlt hl k e).2 with h1 | ⟨u, he, hm, hu', hb'⟩
        · have := h.lt x u1 k hk hx2 hb; omega
        · have hq : (i - 5) / 6 ≠ x / 6 := by rw [← he]; exact Ne.symm hne
          exact h.nd _ x u u1 k hm hk hq hu' hx2 hb' hb
      · exact h.nd x y u1 u2 k hk hl hne hx2 hy2 hb
  · rcases inv hx with ⟨e, rfl⟩ | ⟨-, hx⟩
    · obtain ⟨a, b, c, e1, e2, e3, e4⟩ := h18 e.symm
      exact ⟨a, b, c, old e1, old e2, old e3, e4⟩
    · obtain ⟨a, b, c, e1, e2, e3, e4⟩ := h.b18 u hx
      exact ⟨a, b, c, old e1, old e2, old e3, e4⟩
  · rcases inv hx with ⟨e, rfl⟩ | ⟨-, hx⟩
    · obtain ⟨g, cs, e1, e2, e3, e4, e5⟩ := h19 e.symm
      refine ⟨g, cs, old e1, e2, e3, e4, fun y u' hy hu' hb => ?_⟩
      rcases inv hu' with ⟨e', -⟩ | ⟨-, hu'⟩
      · rw [e', ← e] at hy; simp at hy
      · have := h.lt y u' g (by revert hy; unfold ck; simp; omega) hu' hb
        omega
    · obtain ⟨g, cs, e1, e2, e3, e4, e5⟩ := h.b19 u hx
      refine ⟨g, cs, old e1, e2, e3, (ho.block g (Array.getElem?_eq_some_iff.1 e4).1 (by simp)).trans e4, fun y u' hy hu' => ?_⟩
      rcases inv hu' with ⟨e', -⟩ | ⟨-, hu'⟩
      · exfalso
        obtain ⟨a, b, c, f1, f2, f3, -⟩ := h.b18 _ e1
        rw [e'] at hy
        simp at hy
        rcases hy with rfl | rfl | rfl
        · rw [hu] at f1; cases f1
        · rw [hu] at f2; cases f2
        · rw [hu] at f3; cases f3
      · exact e5 y u' hy hu'
  · rcases inv hx with ⟨e, rfl⟩ | ⟨-, hx⟩
    · exact old (h20 e.symm)
    · exact old (h.b20 u hx)
theorem CJ.start {w w' : World} {d : DV} {s : DS} (h : Only [] w w') : CJ w d s (fun _ => none) w' :=
  ⟨h, (fun _ _ h => by cases h), (fun _ _ _ _ h => by cases h), (fun _ _ _ _ _ _ _ _ h => by cases h), (fun _ h => by cases h), (fun _ h => by cases h), (fun _ h => by cases h)⟩
/-- A step that only reckons. -/
theorem CJ.calm {w0 : World} {d : DV} {s : DS} {us : Nat → Option Value} {w : World} (h : CJ w0 d s us w) {i : Nat} {v : Value} (hu : us i = none) (hF : CF w0.heap.size d s i v w) (hi : i ∉ ck) (hi2 : i < 18) : CJ w0 d s (upd us i v) w :=
  h.step hu (Only.refl _ _) hF (fun e => absurd e hi) (fun e => by omega) (fun e => by omega) (fun e => by omega)
section
variable {ops : Array Oper} {Q : Exit → Act → World → Prop} {a0 : Act} {w0 : World} {d : DV} {s : DS} {base : Nat}
theorem cs_build (c : Nat) (hc : c < 3) (o : Oper) (t : TypeId) (ho : o.op = .buildSlice t 0 #[]) (ht : Try.prog.underlying t = some (.slice (cty c))) : FlowStep Try.prog ops Q a0 (CJ w0 d s) (6 * c) o := by
  intro us a w hJ hu hd hat
  obtain ⟨i, hi⟩ : ∃ i, Try.prog.info? (cty c) = some i := by
    unfold cty; split
    · obtain ⟨i, hi, -⟩ := info_three info67; exact ⟨i, hi⟩
    · obtain ⟨i, hi, -⟩ := info_three info65; exact ⟨i, hi⟩
  have hB := hJ.only.size
  refine flow_ok (.slice (some ⟨w.heap.size, 0, none⟩) 0 0) (w.alloc (.cells #[] (cty c))) ?_ ⟨_, rfl, hJ.step hu (Only.alloc [] w _) ?_ (fun _ k hk => ?_) (fun e => by omega) (fun e => by omega) (fun e => by omega)⟩
  · unfold execOp
    simp [ho, Instr.buildSlice, run_underlying ht, sizeOf, typeInfo, hi, Instr.fill, newRow, newObj, Result.andThen, Sem.run_bind, Array.range_zero']
    try rfl
  · unfold CF
    rw [if_pos (by omega), show 6 * c % 6 = 0 by omega, show 6 * c / 6 = c by omega]
    exact ⟨_, rfl, hB, heap_alloc_new w _⟩
  · have : k = w.heap.size := by simpa [Value.ownBlock, eq_comm] using hk
    subst this
    exact ⟨by simp, .inl (Nat.le_refl _)⟩
theorem cs_append (c : Nat) (hc : c < 3) (hD : Drv base w0 d s) (hm : s.opn.length < 1000000) (o o1 o2 : Oper) (x y : Nat) (t : TypeId) (ho : o.op = .call { callee := .builtin .append, args := #[.tmp x, .tmp y], argTypes := #[t, t] }) (ht : Try.prog.underlying t = some (.slice (cty c)))
    (h1 : ops[6 * c]? = some o1) (h1d : o1.dst = some x) (h2 : ops[6 * c + 4]? = some o2) (h2d : o2.dst = some y) (e1 : ∃ e ∈ o.after, Region.binds .any e = true ∧ e.on = 6 * c) (e2 : ∃ e ∈ o.after, Region.binds .any e = true ∧ e.on = 6 * c + 4) : FlowStep Try.prog ops Q a0 (CJ w0 d s) (6 * c + 5) o := by
  intro us a w hJ hu hd hat
  obtain ⟨ed, em, eb, ee⟩ := e1
  obtain ⟨fd, fm, fb, fe⟩ := e2
  have g1 := hd ed em eb
  have g2 := hd fd fm fb
  rw [ee] at g1
  rw [fe] at g2
  obtain ⟨v1, g1⟩ := Option.isSome_iff_exists.1 g1
  obtain ⟨v2, g2⟩ := Option.isSome_iff_exists.1 g2
  have k1 := hat.val h1 h1d g1
  have k2 := hat.val h2 h2d g2
  have f1 := hJ.un _ _ g1
  have f2 := hJ.un _ _ g2
  unfold CF at f1 f2
  rw [if_pos (by omega), show 6 * c % 6 = 0 by omega, show 6 * c / 6 = c by omega] at f1
  rw [if_pos (by omega), show (6 * c + 4) % 6 = 4 by omega, show (6 * c + 4) / 6 = c by omega] at f2
  obtain ⟨b, rfl, hb, hbb⟩ := f1
  simp only at f2
  subst f2
  have hDw : Drv base w d s := hD.kept hJ.only (by simp)
  have hB := hJ.only.size
  have key : ∃ v' w', (Builtin.append_ #[t, t] o.type #[.slice (some ⟨b, 0, none⟩) 0 0, csrc d c]).run Try.prog w = .ok v' w' ∧ w'.ownsRow w0.heap.size (cty c) (csz c) v' (clen s c) (cxs s c) ∧ Only [] w w' ∧ (v'.ownBlock = some b ∨ v'.ownBlock = some w.heap.size) := by
    have hl := hD.len
    have c3 : c = 0 ∨ c = 1 ∨ c = 2 := by omega
    rcases c3 with rfl | rfl | rfl
    · obtain ⟨i, hi, hz, hs, hby⟩ := info_three info65
      exact run_copy w t _ 70 i _ 64 64 ht hi hz hs hby (by rfl) (by decide) w0.heap.size b hb hbb base _ _ _ hDw.now (rowC_one _) (by unfold maxLen; show s.now.length ≤ _; omega) (by show s.now.length * 64 ≤ _; omega) hB
    · obtain ⟨i, hi, hz, hs, hby⟩ := info_three info65
      exact run_copy w t _ 70 i _ 64 64 ht hi hz hs hby (by rfl) (by decide) w0.heap.size b hb hbb base _ _ _ hDw.sure (rowC_one _) (by unfold maxLen; show s.sure.length ≤ _; omega) (by show s.sure.length * 64 ≤ _; omega) hB
    · obtain ⟨i, hi, hz, hs, hby⟩ := info_three info67
      exact run_copy w t _ 72 i _ 65 72 ht hi hz hs hby (by rfl) (by decide) w0.heap.size b hb hbb base _ _ _ hDw.opn (fun u hu => by
        obtain ⟨x, _, hx⟩ := List.mem_flatMap.1 hu
        exact wrC_one x.1 x.2 u hx) (by unfold maxLen; show s.opn.length ≤ _; omega) (by show s.opn.length * 72 ≤ _; omega) hB
  obtain ⟨v', w', hr, hown, hon, hbl⟩ := key
  refine flow_ok v' w' ?_ ⟨_, rfl, hJ.step hu hon ?_ (fun _ k hk => ?_) (fun e => by omega) (fun e => by omega) (fun e => by omega)⟩
  · unfold execOp
    simp only [ho, resolve, invoke, builtin, Sem.run_bind, Sem.run_pure, Result.andThen_ok, List.map_toArray, List.map_cons, List.map_nil, k1, k2, hr]
  · unfold CF
    rw [if_pos (by omega), show (6 * c + 5) % 6 = 5 by omega, show (6 * c + 5) / 6 = c by omega]
    exact hown
  · refine ⟨(hown.lt k (by simpa using hk)).2, ?_⟩
    rcases hbl with e | e
    · refine .inr ⟨_, by omega, ?_, g1, ?_⟩
      · rw [Nat.add_sub_cancel]
        have c3 : c = 0 ∨ c = 1 ∨ c = 2 := by omega
        rcases c3 with rfl | rfl | rfl <;> decide
      · rw [hk] at e; rw [e]; rfl
    · rw [hk] at e; injection e with e; subst e; exact .inl (Nat.le_refl _)
theorem cs_move (i : Nat) (hi : i < 18 ∧ (i % 6 = 1)) (o : Oper) (ho : o.op = .move (.tmp 0)) (hn : ops.all (fun o => o.dst != some 0) = true) (h0 : a0.eval (.tmp 0) = ptr d.D) : FlowStep Try.prog ops Q a0 (CJ w0 d s) i o := by
  intro us a w hJ hu hd hat
  refine flow_ok (ptr d.D) w ?_ ⟨_, rfl, hJ.calm hu ?_ (by unfold ck; simp; omega) hi.1⟩
  · unfold execOp
    simp only [ho, hat.keep hn, h0, Sem.run_pure]
  · unfold CF; rw [if_pos hi.1, hi.2]; rfl
theorem cs_nil (i : Nat) (hi : i < 18 ∧ (i % 6 = 2)) (o o1 : Oper) (x : Nat) (ho : o.op = .nilCheck (.tmp x)) (h1 : ops[i - 1]? = some o1) (h1d : o1.dst = some x) (e1 : ∃ e ∈ o.after, Region.binds .any e = true ∧ e.on = i - 1) : FlowStep Try.prog ops Q a0 (CJ w0 d s) i o := by
  intro us a w hJ hu hd hat
  obtain ⟨ed, em, eb, ee⟩ := e1
  have g1 := hd ed em eb
  rw [ee] at g1
  obtain ⟨v1, g1⟩ := Option.isSome_iff_exists.1 g1
  have k1 := hat.val h1 h1d g1
  have f1 := hJ.un _ _ g1
  unfold CF at f1
  rw [if_pos (by omega), show (i - 1) % 6 = 1 by omega] at f1
  simp only at f1
  rw [f1] at k1
  refine flow_ok (ptr d.D) w ?_ ⟨_, rfl, hJ.calm hu ?_ (by unfold ck; simp; omega) hi.1⟩
  · unfold execOp
    simp [ho, k1, ptr, Instr.sureAddr]
  · unfold CF; rw [if_pos hi.1, hi.2]; rfl
theorem cs_field (c : Nat) (hc : c < 3) (o o1 : Oper) (x : Nat) (ho : o.op = .fieldAddr 66 (.tmp x) c) (h1 : ops[6 * c + 2]? = some o1) (h1d : o1.dst = some x) (e1 : ∃ e ∈ o.after, Region.binds .any e = true ∧ e.on = 6 * c + 2)
    (hr : ∀ w, (Instr.fieldAt 66 (ptr d.D) c).run Try.prog w = .ok (.pointer (some ⟨d.D, c, none⟩)) w) : FlowStep Try.prog ops Q a0 (CJ w0 d s) (6 * c + 3) o := by
  intro us a w hJ hu hd hat
  obtain ⟨ed, em, eb, ee⟩ := e1
  have g1 := hd ed em eb
  rw [ee] at g1
  obtain ⟨v1, g1⟩ := Option.isSome_iff_exists.1 g1
  have k1 := hat.val h1 h1d g1
  have f1 := hJ.un _ _ g1
  unfold CF at f1
  rw [if_pos (by omega), show (6 * c + 2) % 6 = 2 by omega] at f1
  simp only at f1
  rw [f1] at k1
  refine flow_ok (.pointer (some ⟨d.D, c, none⟩)) w ?_ ⟨_, rfl, hJ.calm hu ?_ (by unfold ck; simp; omega) (by omega)⟩
  · unfold execOp
    simp only [ho, k1, Sem.run_bind, hr, Result.andThen_ok, Sem.run_pure]
  · unfold CF; rw [if_pos (by omega), show (6 * c + 3) % 6 = 3 by omega, show (6 * c + 3) / 6 = c by omega]; rfl
theorem cs_load (c : Nat) (hc : c < 3) (hD : Drv base w0 d s) (o o1 : Oper) (x : Nat) (t e : TypeId) (ho : o.op = .load t (.tmp x)) (ht : Try.prog.underlying t = some (.slice e)) (h1 : ops[6 * c + 3]? = some o1) (h1d : o1.dst = some x) (e1 : ∃ e ∈ o.after, Region.binds .any e = true ∧ e.on = 6 * c + 3) : FlowStep Try.prog ops Q a0 (CJ w0 d s) (6 * c + 4) o := by
  intro us a w hJ hu hd hat
  obtain ⟨ed, em, eb, ee⟩ := e1
  have g1 := hd ed em eb
  rw [ee] at g1
  obtain ⟨v1, g1⟩ := Option.isSome_iff_exists.1 g1
  have k1 := hat.val h1 h1d g1
  have f1 := hJ.un _ _ g1
  unfold CF at f1
  rw [if_pos (by omega), show (6 * c + 3) % 6 = 3 by omega, show (6 * c + 3) / 6 = c by omega] at f1
  simp only at f1
  rw [f1] at k1
  have hDw : Drv base w d s := hD.kept hJ.only (by simp)
  have hcell : w.cell? ⟨d.D, c, none⟩ = some (csrc d c) := by
    obtain ⟨q0, q1, q2, -⟩ := hDw.cells
    have c3 : c = 0 ∨ c = 1 ∨ c = 2 := by omega
    rcases c3 with rfl | rfl | rfl
    · exact q0
    · exact q1
    · exact q2
  refine flow_ok (csrc d c) w ?_ ⟨_, rfl, hJ.calm hu ?_ (by unfold ck; simp; omega) (by omega)⟩
  · have hagg : (isAgg t).run Try.prog w = .ok false w := by
      unfold isAgg
      rw [Sem.run_bind, run_underlying ht w]
      rfl
    unfold execOp
    simp [ho, k1, Instr.loadAt, Instr.sureAddr, loadVar, hagg, Go.load, Sem.run, hcell, Result.andThen, Sem.run_bind]
  · unfold CF; rw [if_pos (by omega), show (6 * c + 4) % 6 = 4 by omega, show (6 * c + 4) / 6 = c by omega]; rfl
/-- 'Drive{now: .., sure: .., open: ..}', kept from being taken apart. -/
theorem run_build61 (a b c : Value) (ha : ∃ A n c', a = .slice A n c') (hb : ∃ A n c', b = .slice A n c') (hc : ∃ A n c', c = .slice A n c') (w : World) : (Instr.build 66 #[(0, a), (1, b), (2, c)]).run Try.prog w = .ok (.agg #[a, b, c, .pointer none]) w := by
  obtain ⟨i, hi, hz⟩ : ∃ i, Try.prog.info? 66 = some i ∧ i.zero = some (.agg #[.slice none 0 0, .slice none 0 0, .slice none 0 0, .pointer none]) := by
    have e : (Try.prog.info? 66).map (·.zero) = some (some (.agg #[.slice none 0 0, .slice none 0 0, .slice none 0 0, .pointer none])) := by kernel_rfl
    obtain ⟨i, hi, hz⟩ := Option.map_eq_some_iff.1 e
    exact ⟨i, hi, hz⟩
  have hza : (zeroValue 66).run Try.prog w = .ok (.agg #[.slice none 0 0, .slice none 0 0, .slice none 0 0, .pointer none]) w := by simp [zeroValue, typeInfo, hi, hz, Sem.run_bind]
  obtain ⟨_, _, _, rfl⟩ := ha
  obtain ⟨_, _, _, rfl⟩ := hb
  obtain ⟨_, _, _, rfl⟩ := hc
  simp [Instr.build, hza, go_sem, Try.underlying66, Instr.fill, Value.cells, Sem.run_bind]
end
theorem run_field61 (D c : Nat) (hc : c < 3) (w : World) : (Instr.fieldAt 66 (ptr D) c).run Try.prog w = .ok (.pointer (some ⟨D, c, none⟩)) w := by
  have c3 : c = 0 ∨ c = 1 ∨ c = 2 := by omega
  rcases c3 with rfl | rfl | rfl <;> simp [Instr.fieldAt, go_sem, Try.underlying66, ptr, Instr.sureAddr, Sem.run_bind]
theorem own_slice {w : World} {base : Nat} {e : TypeId} {size : Nat} {v : Value} {n : Nat} {xs : List Value} (h : w.ownsRow base e size v n xs) : ∃ A n' c, v = .slice A n' c := by
  obtain ⟨A, c, h⟩ := own_cases h
  exact ⟨A, n, c, h⟩
section
variable {ops : Array Oper} {Q : Exit → Act → World → Prop} {a0 : Act} {w0 : World} {d : DV} {s : DS} {base : Nat}
theorem cs_make (o o1 o2 o3 : Oper) (x y z : Nat) (ho : o.op = .build 66 #[(0, .tmp x), (1, .tmp y), (2, .tmp z)]) (h1 : ops[5]? = some o1) (h1d : o1.dst = some x) (h2 : ops[11]? = some o2) (h2d : o2.dst = some y) (h3 : ops[17]? = some o3) (h3d : o3.dst = some z)
    (e1 : ∃ e ∈ o.after, Region.binds .any e = true ∧ e.on = 5) (e2 : ∃ e ∈ o.after, Region.binds .any e = true ∧ e.on = 11) (e3 : ∃ e ∈ o.after, Region.binds .any e = true ∧ e.on = 17) : FlowStep Try.prog ops Q a0 (CJ w0 d s) 18 o := by
  intro us a w hJ hu hd hat
  obtain ⟨d1, m1, b1, n1⟩ := e1
  obtain ⟨d2, m2, b2, n2⟩ := e2
  obtain ⟨d3, m3, b3, n3⟩ := e3
  have g1 := hd d1 m1 b1
  have g2 := hd d2 m2 b2
  have g3 := hd d3 m3 b3
  rw [n1] at g1
  rw [n2] at g2
  rw [n3] at g3
  obtain ⟨v1, g1⟩ := Option.isSome_iff_exists.1 g1
  obtain ⟨v2, g2⟩ := Option.isSome_iff_exists.1 g2
  obtain ⟨v3, g3⟩ := Option.isSome_iff_exists.1 g3
  have k1 := hat.val h1 h1d g1
  have k2 := hat.val h2 h2d g2
  have k3 := hat.val h3 h3d g3
  have f1 : w.ownsRow w0.heap.size 70 64 v1 s.now.length (rowC s.now) := hJ.un _ _ g1
  have f2 : w.ownsRow w0.heap.size 70 64 v2 s.sure.length (rowC s.sure) := hJ.un _ _ g2
  have f3 : w.ownsRow w0.heap.size 72 65 v3 s.opn.length (opnC s.opn) := hJ.un _ _ g3
  refine flow_ok _ w ?_ ⟨.agg #[v1, v2, v3, .pointer none], rfl, hJ.step hu (Only.refl _ _) (by unfold CF; rw [if_neg (by decide)]; trivial) (fun e => by simp [ck] at e) (fun _ => ⟨v1, v2, v3, g1, g2, g3, rfl⟩) (fun e => by cases e) (fun e => by cases e)⟩
  unfold execOp
  simp only [ho, Sem.run_bind, List.map_toArray, List.map_cons, List.map_nil, k1, k2, k3, run_build61 v1 v2 v3 (own_slice f1) (own_slice f2) (own_slice f3), Result.andThen_ok, Sem.run_pure]
theorem cs_box (o o1 : Oper) (x : Nat) (ho : o.op = .box 66 (.tmp x)) (h1 : ops[18]? = some o1) (h1d : o1.dst = some x) (e1 : ∃ e ∈ o.after, Region.binds .any e = true ∧ e.on = 18) : FlowStep Try.prog ops Q a0 (CJ w0 d s) 19 o := by
  intro us a w hJ hu hd hat
  obtain ⟨d1, m1, b1, n1⟩ := e1
  have g1 := hd d1 m1 b1
  rw [n1] at g1
  obtain ⟨v1, g1⟩ := Option.isSome_iff_exists.1 g1
  have k1 := hat.val h1 h1d g1
  obtain ⟨a', b', c', q1, q2, q3, rfl⟩ := hJ.b18 _ g1
  refine flow_ok (ptr w.heap.size) (w.alloc (.cells #[a', b', c', .pointer none] 66)) ?_ ⟨_, rfl, hJ.step hu (Only.alloc [] w _) (by unfold CF; rw [if_neg (by decide)]; trivial) (fun e => by simp [ck] at e) (fun e => by cases e) (fun _ => ⟨w.heap.size, _, g1, rfl, hJ.only.size, heap_alloc_new w _, Nat.le_refl _⟩) (fun e => by cases e)⟩
  unfold execOp
  simp [ho, k1, Instr.box, newVar, newRow, newObj, Result.andThen, Sem.run_bind]
  rfl
theorem cs_give (o o1 : Oper) (x : Nat) (ho : o.op = .assign (.tmp x)) (h1 : ops[19]? = some o1) (h1d : o1.dst = some x) (e1 : ∃ e ∈ o.after, Region.binds .any e = true ∧ e.on = 19) : FlowStep Try.prog ops Q a0 (CJ w0 d s) 20 o := by
  intro us a w hJ hu hd hat
  obtain ⟨d1, m1, b1, n1⟩ := e1
  have g1 := hd d1 m1 b1
  rw [n1] at g1
  obtain ⟨v1, g1⟩ := Option.isSome_iff_exists.1 g1
  have k1 := hat.val h1 h1d g1
  refine flow_ok v1 w ?_ ⟨_, rfl, hJ.step hu (Only.refl _ _) (by unfold CF; rw [if_neg (by decide)]; trivial) (fun e => by simp [ck] at e) (fun e => by cases e) (fun e => by cases e) (fun _ => g1)⟩
  unfold execOp
  simp only [ho, k1, Sem.run_pure]
end
/-- A copy is made. -/
def Copied (w w' : World) (s : DS) (v : Value) : Prop := ∃ d' : DV, v = ptr d'.D ∧ Drv w.heap.size w' d' s ∧ Only [] w w'
theorem CJ.made {base : Nat} {w0 w : World} {d : DV} {s : DS} {us : Nat → Option Value} {vs : Nat → Value} (hD : Drv base w0 d s) (h : CJ w0 d s us w) (hv : ∀ i, i < 21 → us i = some (vs i)) :
    ∃ (g : Nat) (a b c : Value), vs 20 = ptr g ∧ w.heap[g]? = some (.cells #[a, b, c, .pointer none] 66 (0, 0)) ∧ Drv w0.heap.size w ⟨g, a, b, c, none⟩ { s with fuse := none } ∧ Only [] w0 w := by
  obtain ⟨g, cs, e1, e2, e3, e4, e5⟩ := h.b19 _ (h.b20 _ (hv 20 (by omega)))
  obtain ⟨a, b, c, q1, q2, q3, q4⟩ := h.b18 _ e1
  injection q4 with q4
  subst q4
  have f1 : w.ownsRow w0.heap.size 70 64 a s.now.length (rowC s.now) := h.un _ _ q1
  have f2 : w.ownsRow w0.heap.size 70 64 b s.sure.length (rowC s.sure) := h.un _ _ q2
  have f3 : w.ownsRow w0.heap.size 72 65 c s.opn.length (opnC s.opn) := h.un _ _ q3
  have hv20 : vs 20 = ptr g := e2
  refine ⟨g, a, b, c, hv20, e4, ⟨e3, e4, f1, f2, f3, trivial, ?_, hD.len, hD.secN, hD.secS, hD.wr⟩, h.only⟩
  have n1 : ∀ k, a.ownBlock = some k → b.ownBlock ≠ some k := fun k => h.nd 5 11 a b k (by decide) (by decide) (by decide) q1 q2
  have n2 : ∀ k, a.ownBlock = some k → c.ownBlock ≠ some k := fun k => h.nd 5 17 a c k (by decide) (by decide) (by decide) q1 q3
  have n3 : ∀ k, b.ownBlock = some k → c.ownBlock ≠ some k := fun k => h.nd 11 17 b c k (by decide) (by decide) (by decide) q2 q3
  have m1 := e5 5 a (by decide) q1
  have m2 := e5 11 b (by decide) q2
  have m3 := e5 17 c (by decide) q3
  unfold DV.fp
  simp only [Option.toList_none, List.append_nil]
  cases ha : a.ownBlock <;> cases hb : b.ownBlock <;> cases hc : c.ownBlock <;> simp_all <;> omega
theorem Copied.fused {w w2 : World} {g : Nat} {a b c : Value} {s : DS} (ho : Only [] w w2) (hd : Drv w.heap.size w2 ⟨g, a, b, c, none⟩ { s with fuse := none }) (hg : w2.heap[g]? = some (.cells #[a, b, c, .pointer none] 66 (0, 0)))
    {n : Nat} (hk : s.fuse = some n) (hn : n < 9223372036854775808) :
    Copied w ((w2.setCell ⟨g, 3, none⟩ (ptr w2.heap.size)).alloc (.cells #[.int .i64 (n : Int)] 3)) s (ptr g) := by
  have hgl := (Array.getElem?_eq_some_iff.1 hg).1
  have hwg : w.heap.size ≤ g := hd.hD
  have ho2 : Only [g] w2 ((w2.setCell ⟨g, 3, none⟩ (ptr w2.heap.size)).alloc (.cells #[.int .i64 (n : Int)] 3)) := (Only.setCell (fp := [g]) _ _ _ (by simp)).trans (Only.alloc [g] _ _) (fun _ h _ => h)
  have hs : (w2.setCell ⟨g, 3, none⟩ (ptr w2.heap.size)).heap.size = w2.heap.size := by simp [World.setCell]
  have hobj : ((w2.setCell ⟨g, 3, none⟩ (ptr w2.heap.size)).alloc (.cells #[.int .i64 (n : Int)] 3)).heap[g]? = some (.cells #[a, b, c, fzV (some w2.heap.size)] 66 (0, 0)) := by
    rw [heap_alloc_old _ _ (by rw [hs]; exact hgl), setCell_at hg]; rfl
  have hnew := heap_alloc_new (w2.setCell ⟨g, 3, none⟩ (ptr w2.heap.size)) (.cells #[.int .i64 (n : Int)] 3)
  rw [hs] at hnew
  have hf := hd.fused ho2 (some w2.heap.size) (some n) hobj ⟨ho.size, hn, hnew⟩ (fun f hf => by
    have : f = w2.heap.size := by simpa [eq_comm] using hf
    omega)
  have e : ({ ({ s with fuse := none } : DS) with fuse := some n } : DS) = s := by cases s; simp only at hk; rw [hk]
  rw [e] at hf
  exact ⟨_, rfl, hf, ho.trans ho2 (fun k hk hl => by rw [List.mem_singleton] at hk; omega)⟩
set_option maxRecDepth 100000 in
theorem Copy_calls {base : Nat} {w : World} {d : DV} {s : DS} (h : Drv base w d s) (hm : s.opn.length < 1000000) :
    Calls Try.prog 26 #[ptr d.D] w fun e w' => ∃ v, e = .returned v ∧ Copied w w' s v := by
  have HD := hid h
  have HM := hid hm
  clear h hm
  unfold ptr
  go_enter Try.func26, Try.ntmps26
  go_wp2_with (go_at_call 52; refine (none_calls HD.out).mono ?_; rintro e w' ⟨rfl, rfl⟩)
  refine wp_region_flow (CJ w' d s) (by kernel_rfl) (by kernel_rfl) (CJ.start (Only.drew [] _)) ?_ ?_
  · refine ⟨cs_build 0 (by decide) _ 62 rfl Try.underlying62, cs_move 1 (by decide) _ rfl (by kernel_rfl) rfl, cs_nil 2 (by decide) _ _ 8 rfl rfl rfl ⟨⟨1, .data⟩, by simp, rfl, rfl⟩, cs_field 0 (by decide) _ _ 9 rfl rfl rfl ⟨⟨2, .data⟩, by simp, rfl, rfl⟩ (run_field61 _ _ (by decide)), cs_load 0 (by decide) HD.out _ _ 10 62 70 rfl Try.underlying62 rfl rfl ⟨⟨3, .data⟩, by simp, rfl, rfl⟩, cs_append 0 (by decide) HD.out HM.out _ _ _ 7 11 62 rfl Try.underlying62 rfl rfl rfl rfl ⟨⟨0, .data⟩, by simp, rfl, rfl⟩ ⟨⟨4, .data⟩, by simp, rfl, rfl⟩, cs_build 1 (by decide) _ 62 rfl Try.underlying62, cs_move 7 (by decide) _ rfl (by kernel_rfl) rfl, cs_nil 8 (by decide) _ _ 14 rfl rfl rfl ⟨⟨7, .data⟩, by simp, rfl, rfl⟩, cs_field 1 (by decide) _ _ 15 rfl rfl rfl ⟨⟨8, .data⟩, by simp, rfl, rfl⟩ (run_field61 _ _ (by decide)), cs_load 1 (by decide) HD.out _ _ 16 62 70 rfl Try.underlying62 rfl rfl ⟨⟨9, .data⟩, by simp, rfl, rfl⟩, cs_append 1 (by decide) HD.out HM.out _ _ _ 13 17 62 rfl Try.underlying62 rfl rfl rfl rfl ⟨⟨6, .data⟩, by simp, rfl, rfl⟩ ⟨⟨10, .data⟩, by simp, rfl, rfl⟩, cs_build 2 (by decide) _ 63 rfl Try.underlying63, cs_move 13 (by decide) _ rfl (by kernel_rfl) rfl, cs_nil 14 (by decide) _ _ 20 rfl rfl rfl ⟨⟨13, .data⟩, by simp, rfl, rfl⟩, cs_field 2 (by decide) _ _ 21 rfl rfl rfl ⟨⟨14, .data⟩, by simp, rfl, rfl⟩ (run_field61 _ _ (by decide)), cs_load 2 (by decide) HD.out _ _ 22 63 72 rfl Try.underlying63 rfl rfl ⟨⟨15, .data⟩, by simp, rfl, rfl⟩, cs_append 2 (by decide) HD.out HM.out _ _ _ 19 23 63 rfl Try.underlying63 rfl rfl rfl rfl ⟨⟨12, .data⟩, by simp, rfl, rfl⟩ ⟨⟨16, .data⟩, by simp, rfl, rfl⟩,
      cs_make _ _ _ _ 12 18 24 rfl rfl rfl rfl rfl rfl rfl ⟨⟨5, .data⟩, by simp, rfl, rfl⟩ ⟨⟨11, .data⟩, by simp, rfl, rfl⟩ ⟨⟨17, .data⟩, by simp, rfl, rfl⟩, cs_box _ _ 25 rfl rfl rfl ⟨⟨18, .data⟩, by simp, rfl, rfl⟩, cs_give _ _ 26 rfl rfl rfl ⟨⟨19, .data⟩, by simp, rfl, rfl⟩, trivial⟩
  · intro vs us w2 hv hJ
    simp only [putAll, Act.put, List.setIfInBounds_toArray, List.set_cons_zero, List.set_cons_succ]
    obtain ⟨g, a, b, c, e20, hg, hd', ho⟩ := hJ.made HD.out hv
    rw [e20]
    unfold ptr
    have HD' := hid hd'
    have HO := hid ho
    have HG := hid hg
    have hk := HD.out.kept ho (by simp)
    have hlg : d.D < w2.heap.size := (hk.fp_lt d.D (by simp [DV.fp])).2
    have HK := hid hk
    obtain ⟨-, -, -, j3, -, -, -, f3⟩ := hk.cells
    have hB := hid ho.size
    clear hJ hv hd' ho hk e20
    rcases fuse_cases HK.out.fuse with ⟨hz, hk⟩ | ⟨f, n, hz, hk, hcell⟩
    · rw [hz] at j3
      unfold fzV at j3
      have HZ := hid hk
      clear hz hk hg hlg
      go_wp2
      go_ret
      refine ⟨_, rfl, ⟨g, a, b, c, none⟩, rfl, ?_, HO.out⟩
      have e : ({ s with fuse := none } : DS) = s := by cases s; simp only at HZ; rw [HZ.out]
      rw [← e]
      exact HD'.out
    · rw [hz] at j3
      unfold fzV at j3
      have hcf : w2.cell? ⟨f, 0, none⟩ = some (.int .i64 (n : Int)) := (cell_of_row w2 _ _ _ _ _ hcell).trans rfl
      have HZ := hid hk
      have hn : n < 9223372036854775808 := by
        have := HK.out.fuse
        rw [hz, hk] at this
        exact this.2.1
      have HN := hid hn
      have gl := (Array.getElem?_eq_some_iff.1 hg).1
      have hgf : w2.frozen? ⟨g, 3, none⟩ = false := frozen_of_row w2 _ _ _ _ hg
      have hgc : w2.cell? ⟨g, 3, none⟩ = some (.pointer none) := (cell_of_row w2 _ _ _ _ _ hg).trans rfl
      clear hz hk hcell hn hg hlg
      go_wp2
      go_ret
      exact ⟨_, rfl, Copied.fused HO.out HD'.out HG.out HZ.out HN.out⟩
theorem Dr.copy {w0 w : World} {l : List (Nat × DS)} {F : List Nat} {i D : Nat} {s : DS} (h : Dr w0 w l F) (hi : l[i]? = some (D, s)) (hm : s.opn.length < 1000000) :
    Calls Try.prog 26 #[ptr D] w fun e w' => ∃ v, e = .returned v ∧ Given w0 w' l s F w v := by
  obtain ⟨d, e, hd⟩ := h.at hi
  rw [← e]
  exact (Copy_calls hd hm).mono fun e w' ⟨v, he, d', hv, hd', ho⟩ => ⟨v, he, d'.D, hv, h.more d' s hd' ho⟩
end Go.Proofs.Ytnhgakmnkpjpdaa
