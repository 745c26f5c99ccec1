import Derived.Test.YthbbdilcclepoaaR7
import Derived.Deep.RegionLaw
import Derived.Deep.RegionHeld3
import Derived.Lib.LazyBuf
/- A row: Add and Begin. -/
set_option maxRecDepth 100000
set_option linter.unusedVariables false
set_option linter.unusedSimpArgs false
namespace Go.Proofs.Ythbbdilcclepoaa
open Go Go.RowKit Go.Proofs.Ythbbdilcclepoaa.Q Go.Proofs.Ythbbdilcclepoaa.Pure Go.Proofs.YthbbdilcclepoaaW.PrintWords Go.Proofs.YthbbdilcclepoaaW.PrintLast Go.Proofs.YthbbdilcclepoaaW.PrintMore
attribute [local go_sem] Oper.semAt_some max2_int min2_int max_two min_two max_three min_three max_four min_four
/-- What a call leaves: the drive, the row, the error. -/
structure ActR where
  s : DS
  r : RS
  e : Int
def addR (s : DS) (r : RS) (st : Nat) (S : ByteArray) : ActR :=
  if (putR s r r.en st S).e = 0 then ⟨(putR s r r.en st S).s, { (putR s r r.en st S).r with first := if (putR s r r.en st S).r.en = 0 then st else (putR s r r.en st S).r.first, texts := (putR s r r.en st S).r.texts ++ [S], en := (putR s r r.en st S).r.en + (putR s r r.en st S).n }, 0⟩
  else ⟨(putR s r r.en st S).s, (putR s r r.en st S).r, (putR s r r.en st S).e⟩
def beginR (s : DS) (r : RS) (st : Nat) (S : ByteArray) : ActR :=
  if (putR s r 0 st S).e = 0 then ⟨(putR s r 0 st S).s, { (putR s r 0 st S).r with first := st, texts := [S], en := (putR s r 0 st S).n }, 0⟩
  else ⟨(putR s r 0 st S).s, (putR s r 0 st S).r, (putR s r 0 st S).e⟩
/-- The drive and the row have gone on; what else there was is as it was. -/
structure Went (w0 w w' : World) (l : List (Nat × DS)) (F : List Nat) (i D : Nat) (s' : DS) (R : Nat) (tv tv' : Value) (r' : RS) : Prop where
  rw : Rw w0 w' (l.set i (D, s')) (tv'.ownBlock.toList ++ F) i D s' R tv' r'
  same : ∀ k ∈ F, k ∉ rwFp R tv → w'.heap[k]? = w.heap[k]?
  fresh : ∀ k ∈ tv'.ownBlock.toList, k ∈ rwFp R tv ∨ k ∉ F
theorem PutAt.went {w0 w w' : World} {l : List (Nat × DS)} {F : List Nat} {i D : Nat} {s' : DS} {R : Nat} {tv : Value} {r' : RS} (h : PutAt w0 w w' l F i D s' R tv r') : Went w0 w w' l F i D s' R tv tv r' := by
  refine ⟨⟨?_, h.rw.hi, h.rw.row, fun k hk => List.mem_append_right _ (h.rw.fp k hk)⟩, h.same, fun k hk => .inl (List.mem_cons_of_mem _ hk)⟩
  exact h.rw.dr.less _ (fun k hk => (List.mem_append.1 hk).elim (fun e => h.rw.fp k (List.mem_cons_of_mem _ e)) id)
/-- A row's struct and texts have been written, out of a world where it was whole. -/
theorem PutAt.turned {w0 w w1 W : World} {l : List (Nat × DS)} {F : List Nat} {i D : Nat} {s' : DS} {R : Nat} {tv tv' : Value} {r r' : RS} (h : PutAt w0 w w1 l F i D s' R tv r) (hob : Ob w0.heap.size W R 75 (r'.cs D tv') (r'.rows tv')) (ho : Only (rwFp R tv) w1 W)
    (hf : ∀ k ∈ tv'.ownBlock.toList, k ∈ rwFp R tv ∨ w1.heap.size ≤ k) (hl : r'.fr + r'.mn ≤ 4096 ∧ r'.en ≤ r'.mn ∧ r'.texts.length ≤ r'.en) (hn : r'.first < 18446744073709551616 ∧ r'.top < 18446744073709551616) : Went w0 w W l F i D s' R tv tv' r' := by
  have hlt : ∀ k ∈ tv'.ownBlock.toList, k < W.heap.size := fun k hk => (hob.fp_lt k (by rw [rwFp_eq]; exact List.mem_cons_of_mem _ hk)).2
  refine ⟨⟨h.rw.dr.grow (rwFp R tv) _ ho (fun k hk => ⟨h.rw.fp k hk, (h.rw.row.fp_lt k hk).1⟩) (fun k hk => ?_), h.rw.hi, ⟨hob, hl, hn⟩, fun k hk => ?_⟩, fun k hk hn => ?_, fun k hk => ?_⟩
  · rcases List.mem_append.1 hk with hk | hk
    · rcases hf k hk with e | e
      · exact .inl (h.rw.fp k e)
      · exact .inr ⟨e, hlt k hk⟩
    · exact .inl hk
  · rcases List.mem_cons.1 hk with rfl | hk
    · exact List.mem_append_right _ (h.rw.fp _ (by simp [rwFp]))
    · exact List.mem_append_left _ hk
  · exact (ho.block k (h.rw.dr.lt k hk) hn).trans (h.same k hk hn)
  · rcases hf k hk with e | e
    · exact .inl e
    · refine .inr (fun hF => ?_)
      have := h.rw.dr.lt k hF
      omega
theorem putR_keeps (s : DS) (r : RS) (a st : Nat) (S : ByteArray) (h : (putR s r a st S).e = 0) : (putR s r a st S).r = { r with top := st } ∧ (putR s r a st S).n = nP (txt S.data.toList) ∧ a + (putR s r a st S).n ≤ max r.mn a ∧ r.down = false ∧ r.top < st := by
  unfold putR at *
  split at h
  · cases h
  rename_i c1
  rw [if_neg c1]
  split at h
  · cases h
  rename_i c2
  rw [if_neg c2]
  split at h
  · cases h
  rename_i c3
  rw [if_neg c3]
  split at h
  · cases h
  rename_i c4
  rw [if_neg c4]
  split at h
  · rename_i c5
    rw [if_pos c5]
    exact ⟨rfl, rfl, by show a + nP _ ≤ _; omega, by simpa using c1, by omega⟩
  · rename_i c5
    exact absurd h c5
end Go.Proofs.Ythbbdilcclepoaa

/- A row: Begin. -/
set_option maxRecDepth 100000
set_option linter.unusedVariables false
set_option linter.unusedSimpArgs false
namespace Go.Proofs.Ythbbdilcclepoaa
open Go Go.RowKit Go.Proofs.Ythbbdilcclepoaa.Q Go.Proofs.Ythbbdilcclepoaa.Pure Go.Proofs.YthbbdilcclepoaaW.PrintWords Go.Proofs.YthbbdilcclepoaaW.PrintLast Go.Proofs.YthbbdilcclepoaaW.PrintMore
attribute [local go_sem] Oper.semAt_some max2_int min2_int max_two min_two max_three min_three max_four min_four
section
variable {w0 w : World} {l : List (Nat × DS)} {F : List Nat} {i D : Nat} {s : DS} {R : Nat} {tv : Value} {r : RS}
theorem PutAt.begun {w1 : World} {s' : DS} {r1 : RS} {st n : Nat} {S : ByteArray} (h : PutAt w0 w w1 l F i D s' R tv r1) (hst : st < 18446744073709551616) (hn1 : 0 < n) (hn : n ≤ r1.mn) :
    Went w0 w ((((w1.alloc (.cells #[.string S] 9)).setCell ⟨R, 3, none⟩ (.slice (some ⟨w1.heap.size, 0, none⟩) 1 1)).setCell ⟨R, 4, none⟩ (.int .u64 (st : Int))).setCell ⟨R, 6, none⟩ (.int .i64 (n : Int))) l F i D s' R tv (.slice (some ⟨w1.heap.size, 0, none⟩) 1 1)
      { r1 with first := st, texts := [S], en := n } := by
  have ho1 : Only (rwFp R tv) w1 (w1.alloc (.cells #[.string S] 9)) := Only.alloc _ _ _
  have hb := h.rw.dr.below.size
  have hnew : (w1.alloc (.cells #[.string S] 9)).ownsRow w0.heap.size 9 1 (.slice (some ⟨w1.heap.size, 0, none⟩) 1 1) 1 [.string S] :=
    ⟨rfl, .inr ⟨w1.heap.size, 1, #[.string S], rfl, hb, heap_alloc_new w1 _, Nat.le_refl _, by decide, rfl, rfl⟩⟩
  have hob0 : Ob w0.heap.size w1 R 75 (r1.cs D tv) ([] ++ (⟨tv, 9, 1, r1.texts.length, strV r1.texts⟩ : RowV) :: []) := h.rw.row.ob
  have hob := hob0.turn (r' := ⟨.slice (some ⟨w1.heap.size, 0, none⟩) 1 1, 9, 1, 1, [.string S]⟩) (w' := w1.alloc (.cells #[.string S] 9)) ((Only.alloc _ _ _)) hnew
    (fun k hk => .inr (by have e : k = w1.heap.size := by simpa [RowV.fp, Value.ownBlock, eq_comm] using hk
                          omega))
  have h3 := hob.set 3 (.slice (some ⟨w1.heap.size, 0, none⟩) 1 1)
  have h4 := h3.1.set 4 (.int .u64 (st : Int))
  have h6 := h4.1.set 6 (.int .i64 (n : Int))
  have hR : ∀ k ∈ [R], k ∈ rwFp R tv := by simp [rwFp]
  refine h.turned h6.1 (((ho1.trans (h3.2.mono hR) (fun _ h _ => h)).trans (h4.2.mono hR) (fun _ h _ => h)).trans (h6.2.mono hR) (fun _ h _ => h)) (fun k hk => ?_) ⟨h.rw.row.lay.1, hn, hn1⟩ ⟨hst, h.rw.row.num.2⟩
  have e : k = w1.heap.size := by simpa [Value.ownBlock, eq_comm] using hk
  exact .inr (by omega)
set_option maxHeartbeats 2000000 in
theorem Row_Begin (h : Rw w0 w l F i D s R tv r) (st : Nat) (S : ByteArray) (hst : st < 18446744073709551616) (hm : s.opn.length < 900000) :
    Calls Try.prog 19 #[ptr R, .int .u64 (st : Int), .string S] w fun e w' => e = .returned (.int .i64 (beginR s r st S).e) ∧ ∃ tv', Went w0 w w' l F i D (beginR s r st S).s R tv tv' (beginR s r st S).r := by
  have HPC := hid (Row_put h 0 st S hst (Nat.zero_le _) hm)
  have HK := hid (putR_keeps s r 0 st S)
  have HLAY := hid h.row.lay
  unfold beginR
  obtain ⟨P, hP⟩ : ∃ P, P = putR s r 0 st S := ⟨_, rfl⟩
  rw [← hP] at HPC HK ⊢
  have HST := hid hst
  unfold ptr at *
  clear h hP hst
  by_cases c1 : P.e = 0
  · obtain ⟨q1, q2, q3, q4, q5⟩ := HK.out c1
    have e1 : (P.e == 0) = true := by rw [c1]; rfl
    have e2 : (P.e != 0) = false := by rw [c1]; rfl
    have e4 : P.r.mn = r.mn := by rw [q1]
    have hn0 : 0 < P.n := by rw [q2]; exact nP_pos _
    have hn1 : P.n ≤ P.r.mn := by rw [e4]; omega
    have HN := hid (And.intro hn0 hn1)
    rw [if_pos c1]
    clear q1 q2 q3 q4 q5 e4 hn0 hn1 c1 HK
    go_enter Try.func19, Try.ntmps19
    go_wp2_with (go_at_call 40; refine HPC.out.mono ?_; rintro e w1 ⟨rfl, hp⟩; have HPA := hid hp; obtain ⟨-, -, -, k3, k4, -, k6, -, f⟩ := hp.rw.row.cells; have f3 := f 3; have f4 := f 4; have f6 := f 6; have hkk := hp.rw.row.ob.new (Only.alloc [] w1 (.cells #[.string S] 9)); have kk3 : (w1.alloc (.cells #[.string S] 9)).cell? ⟨R, 3, none⟩ = some tv := hkk.cell 3; have kk4 : (w1.alloc (.cells #[.string S] 9)).cell? ⟨R, 4, none⟩ = some (.int .u64 (P.r.first : Int)) := hkk.cell 4; have kk6 : (w1.alloc (.cells #[.string S] 9)).cell? ⟨R, 6, none⟩ = some (.int .i64 (P.r.en : Int)) := hkk.cell 6; have ff3 := hkk.free 3; have ff4 := hkk.free 4; have ff6 := hkk.free 6; clear hkk hp f)
    have hfin := HPA.out.begun (S := S) HST.out HN.out.1 HN.out.2
    go_ret
    exact ⟨rfl, _, hfin⟩
  · have e1 : (P.e == 0) = false := by simpa using c1
    have e2 : (P.e != 0) = true := by simpa [bne] using c1
    rw [if_neg c1]
    clear c1 HK
    go_enter Try.func19, Try.ntmps19
    go_wp2_with (go_at_call 40; refine HPC.out.mono ?_; rintro e w1 ⟨rfl, hp⟩; have HPA := hid hp; clear hp)
    go_ret
    exact ⟨rfl, tv, HPA.out.went⟩
end
end Go.Proofs.Ythbbdilcclepoaa

/- A row: its texts are told. -/
set_option maxRecDepth 100000
set_option linter.unusedVariables false
set_option linter.unusedSimpArgs false
namespace Go.Proofs.Ythbbdilcclepoaa
open Go Go.RowKit Go.Proofs.Ythbbdilcclepoaa.Q Go.Proofs.Ythbbdilcclepoaa.Pure Go.Proofs.YthbbdilcclepoaaW.PrintWords Go.Proofs.YthbbdilcclepoaaW.PrintLast Go.Proofs.YthbbdilcclepoaaW.PrintMore
attribute [local go_sem] Oper.semAt_some max2_int min2_int max_two min_two max_three min_three max_four min_four
/-- Nothing is appended to an empty slice without room: or something, into a block that is new. -/
theorem run_copy {P : Program} (w : World) (t ty e : TypeId) (i : TypeInfo) (z : Value) (size bytes : Nat) (ht : P.underlying t = some (.slice e)) (hi : P.info? e = some i) (hz : i.zero = some z)
    (hsize : i.size = size) (hby : i.bytes = bytes) (hzs : z.cells.size = size) (hsz : 0 < size)
    (base b : Nat) (hb : base ≤ b) (hbb : w.heap[b]? = some (.cells #[] e (0, 0))) (bs : Nat) (sv : Value) (n : Nat) (xs : List Value) (hown : w.ownsRow bs e size sv n xs) (h1 : ∀ u ∈ xs, u.oneCell' = true)
    (h63 : n ≤ maxLen) (hbytes : n * bytes ≤ 140737488355328) (hbase : base ≤ w.heap.size) :
    ∃ v' w', (Builtin.append_ #[t, t] ty #[.slice (some ⟨b, 0, none⟩) 0 0, sv]).run P w = .ok v' w' ∧ w'.ownsRow base e size v' n xs ∧ Only [] w w' ∧ (v'.ownBlock = some b ∨ v'.ownBlock = some w.heap.size) := by
  subst hsize
  subst hby
  have own0 : w.ownsRow base e i.size (.slice (some ⟨b, 0, none⟩) 0 0) 0 [] := ⟨by simp, .inr ⟨b, 0, #[], rfl, hb, hbb, Nat.le_refl _, by unfold maxLen; omega, by simp, by simp⟩⟩
  by_cases hn : n = 0
  · subst hn
    have hx : xs = [] := List.eq_nil_of_length_eq_zero (by simpa using hown.1)
    subst hx
    refine ⟨.slice (some ⟨b, 0, none⟩) 0 0, w, ?_, own0, Only.refl _ _, .inl rfl⟩
    rcases hown.2 with ⟨rfl, _⟩ | ⟨g, cap, cur, rfl, _⟩
    · simp [Builtin.append_, run_underlying ht, sizeOf, typeInfo, hi, Builtin.lenOf, Builtin.firstCells, loadCells, loadCellsFrom, storeCells]
    · simp [Builtin.append_, run_underlying ht, sizeOf, typeInfo, hi, Builtin.lenOf, Builtin.firstCells, loadCells, loadCellsFrom, storeCells]
  · obtain ⟨g, cap, cur, rfl, hbg, hg, hnc, hcm, hcs, htake⟩ : ∃ g cap cur, sv = .slice (some ⟨g, 0, none⟩) n cap ∧ bs ≤ g ∧ w.heap[g]? = some (.cells cur e (0, 0)) ∧ n ≤ cap ∧ cap ≤ maxLen ∧ cur.size = cap * i.size ∧ cur.toList.take (n * i.size) = xs := by
      rcases hown.2 with ⟨_, h0⟩ | h
      · exact absurd h0 hn
      · exact h
    have holds : ∀ j u, xs[j]? = some u → w.cell? ((⟨g, 0, none⟩ : Addr).add j) = some u := hown.cells (g := g) rfl
    have hsmall : n ≤ 9223372036854775807 := by simp only [maxLen] at h63; omega
    have hr := run_append_grow (P := P) w t ty e i z ht hi hz ⟨b, 0, none⟩ 0 0 [] (by simp) (by simp) ⟨g, 0, none⟩ n cap xs hown.1 holds (by omega) (by omega) (growslice_fits (by omega) (by rw [Nat.zero_add]; exact hbytes))
    simp only [Nat.zero_add] at hr
    refine ⟨_, _, hr, ?_, ?_, .inr rfl⟩
    · have hge := grownCap_ge w n 0 e
      have hcm' : grownCap w n 0 e ≤ maxLen := grownCap_le_maxLen w n 0 e h63
      refine ⟨hown.1, .inr ⟨w.heap.size, _, _, rfl, hbase, heap_alloc_new w.drew _, hge, hcm', ?_, ?_⟩⟩
      · simp only [Array.size_append, List.size_toArray, List.length_nil, size_zeroCells, hzs, hown.1, Nat.zero_add, ← Nat.add_mul]
        congr 1
        omega
      · simp only [Array.toList_append, List.append_assoc, List.nil_append]
        rw [← hown.1]
        exact List.take_left
    · exact (Only.drew [] w).trans (Only.alloc [] _ _) (fun _ h _ => h)
section
variable {w0 w : World} {l : List (Nat × DS)} {F : List Nat} {i D : Nat} {s : DS} {R : Nat} {tv : Value} {r : RS}
theorem eql22 (w : World) (a : Option Addr) (l c : Nat) : (binOp .eql 22 (.slice a l c) (.slice none 0 0)).run Try.prog w = .ok (.bool a.isNone) w := by
  exact run_eql_slice_nil w 22 9 a l c Try.underlying22
theorem own_cases' {base : Nat} {w : World} {e : TypeId} {size : Nat} {v : Value} {n : Nat} {xs : List Value} (h : w.ownsRow base e size v n xs) : v = .slice none 0 0 ∨ ∃ g c, v = .slice (some ⟨g, 0, none⟩) n c := by
  rcases h.2 with ⟨h1, h2⟩ | ⟨g, cap, cur, hv, -⟩
  · subst h2; exact .inl h1
  · exact .inr ⟨g, cap, hv⟩
theorem Clone_calls {base : Nat} {v : Value} {n : Nat} {xs : List Value} (h : w.ownsRow base 9 1 v n xs) (hn : n ≤ 4096) (h1 : ∀ u ∈ xs, u.oneCell' = true) :
    Calls Try.prog 44 #[v] w fun e w' => ∃ v', e = .returned v' ∧ w'.ownsRow w.heap.size 9 1 v' n xs ∧ Only [] w w' := by
  rcases own_cases' h with rfl | ⟨g, c, rfl⟩
  · have hn0 : n = 0 := by
      rcases h.2 with ⟨-, hn0⟩ | ⟨g, cap, cur, hv, -⟩
      · exact hn0
      · cases hv
    subst hn0
    have hx : xs = [] := List.eq_nil_of_length_eq_zero (by simpa using h.1)
    subst hx
    have HH := hid h
    clear h
    have hb := eql22 w none 0 0
    go_enter Try.func44, Try.ntmps44
    go_wp2
    go_ret
    exact ⟨_, rfl, World.ownsRow_nil _ _ _ _, Only.refl _ _⟩
  · have hb := eql22 w (some ⟨g, 0, none⟩) n c
    have own0 : (w.alloc (.cells #[] 9)).ownsRow w.heap.size 9 1 (.slice (some ⟨w.heap.size, 0, none⟩) 0 0) 0 [] := ⟨by simp, .inr ⟨w.heap.size, 0, #[], rfl, Nat.le_refl _, heap_alloc_new w _, Nat.le_refl _, by unfold maxLen; omega, by simp, by simp⟩⟩
    have HO0 := hid own0
    by_cases hn0 : n = 0
    · subst hn0
      have hx : xs = [] := List.eq_nil_of_length_eq_zero (by simpa using h.1)
      subst hx
      clear h own0 h1
      go_enter Try.func44, Try.ntmps44
      go_wp2
      go_ret
      exact ⟨_, rfl, HO0.out, Only.alloc [] w _⟩
    · obtain ⟨ti, hti, htz, hts, htb⟩ := info_three Q.info9
      have HTI := hid (And.intro hti (And.intro htz (And.intro hts htb)))
      have hw1 : (w.alloc (.cells #[] 9)).ownsRow base 9 1 (.slice (some ⟨g, 0, none⟩) n c) n xs := h.alloc _
      have HNEW := hid (fun j u (hj : xs[j]? = some u) => World.ownsRow.cells hw1 (g := g) rfl j u hj)
      have HXL := hid (show xs.length = n * 1 from h.1)
      have HX1 := hid h1
      have HN := hid (And.intro (Nat.pos_of_ne_zero hn0) hn)
      clear own0 h hw1 h1 hti htz hts htb hn0
      go_enter Try.func44, Try.ntmps44
      go_wp2_with (at_builtin; refine wpList_append_lies _ rfl (.tmp 5) (.tmp 6) 22 rfl w.heap.size 9 ti _ 1 16 Try.underlying22 HTI.out.1 HTI.out.2.1 HTI.out.2.2.1 HTI.out.2.2.2 rfl (by decide) (.slice (some ⟨w.heap.size, 0, none⟩) 0 0) 0 [] rfl HO0.out ⟨g, 0, none⟩ n c xs rfl HXL.out HNEW.out HX1.out HN.out.1 (by have := HN.out.2; unfold maxLen; omega) (by have := HN.out.2; omega) (by simp) (w.heap.size + 1) (by simp) ?_; intro g4 cap4 W4 hown hgrow hat hgl; have HOW := hid hown; have HGR := hid hgrow; clear hown hgrow hat hgl)
      go_ret
      have ho := HOW.out
      have hg := HGR.out
      rw [Nat.zero_add, List.nil_append] at ho
      refine ⟨_, rfl, by simpa using ho, ?_⟩
      exact ((Only.alloc [] w (.cells #[] 9)).trans (Only.of_grown (fp := [w.heap.size]) hg (fun k hk => by simp [Value.ownBlock] at hk; simp [hk])) (fun k hk hl => by rw [List.mem_singleton.1 hk] at hl; omega))
theorem Row_Texts (h : RowAt w0.heap.size w R D tv r) : Calls Try.prog 22 #[ptr R] w fun e w' => ∃ v, e = .returned v ∧ w'.ownsRow w.heap.size 9 1 v r.texts.length (strV r.texts) ∧ Only [] w w' := by
  obtain ⟨-, -, -, h3, -, -, -, -, f⟩ := h.cells
  have f3 := f 3
  have HD := hid h
  have HCL := hid (Clone_calls h.texts (by have := h.lay; omega) (fun u hu => by obtain ⟨x, -, rfl⟩ := List.mem_map.1 hu; rfl))
  unfold ptr at *
  clear h f
  go_enter Try.func22, Try.ntmps22
  go_wp2_with (first | (go_at_call 43; refine (Row_none HD.out).mono ?_; rintro e w' ⟨rfl, rfl⟩) | (go_at_call 44; refine HCL.out.mono ?_; rintro e w2 ⟨v, rfl, hown, ho⟩; have HH := hid (And.intro hown ho); clear hown ho))
  go_ret
  exact ⟨_, rfl, HH.out⟩
end
end Go.Proofs.Ythbbdilcclepoaa
