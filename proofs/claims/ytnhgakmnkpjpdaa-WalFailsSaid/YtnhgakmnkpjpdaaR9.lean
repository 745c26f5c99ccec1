/- A row: Add. -/
import Derived.Test.YtnhgakmnkpjpdaaR7
set_option maxRecDepth 100000
set_option linter.unusedVariables false
set_option linter.unusedSimpArgs false
namespace Go.Proofs.Ytnhgakmnkpjpdaa
open Go Go.RowKit Go.Proofs.Ytnhgakmnkpjpdaa.Q Go.Proofs.Ytnhgakmnkpjpdaa.Pure Go.Proofs.YtnhgakmnkpjpdaaW.PrintWords Go.Proofs.YtnhgakmnkpjpdaaW.PrintLast Go.Proofs.YtnhgakmnkpjpdaaW.PrintMore
attribute [local go_sem] Oper.semAt_some max2_int min2_int max_two min_two max_three min_three max_four min_four
section
variable {w0 w : World} {l : List (Nat × DS)} {F : List Nat} {i D : Nat} {s : DS} {R : Nat} {tv : Value} {r : RS}
/-- Behind the append: the struct as it was, with the longer texts. -/
theorem PutAt.app {w1 w2 W4 : World} {s' : DS} {r1 r2 : RS} {g cap : Nat} {u : Value} {ob : Obj} (h : PutAt w0 w w1 l F i D s' R tv r1) (hob : Ob w0.heap.size w2 R 97 (r2.cs D tv) (r1.rows tv)) (ho : Only [R] w1 w2)
    (hown : W4.ownsRow w0.heap.size 9 1 (.slice (some ⟨g, 0, none⟩) (r1.texts.length + 1) cap) (r1.texts.length + 1) (strV r1.texts ++ [u])) (hg : (w2.drew.alloc ob).grownBy W4 tv.ownBlock) (hat : tv.ownBlock = some g ∨ g = w2.heap.size + 1) :
    Ob w0.heap.size W4 R 97 (r2.cs D tv) [⟨.slice (some ⟨g, 0, none⟩) (r1.texts.length + 1) cap, 9, 1, r1.texts.length + 1, strV r1.texts ++ [u]⟩] ∧ Only (rwFp R tv) w1 W4 ∧ (g ∈ rwFp R tv ∨ w1.heap.size ≤ g) := by
  have hob' : Ob w0.heap.size w2.drew R 97 (r2.cs D tv) (r1.rows tv) := hob.new (Only.drew [] w2)
  have a := Ob.appended (a := []) (b := []) hob' hown hg hat
  have e : obFp R (r1.rows tv) = rwFp R tv := rwFp_eq r1 R tv
  have a2 : Only (rwFp R tv) w2.drew W4 := by have := a.2.1; rw [show ([] ++ (⟨tv, 9, 1, r1.texts.length, strV r1.texts⟩ : RowV) :: []) = r1.rows tv from rfl, e] at this; exact this
  refine ⟨a.1, ((ho.mono (by simp [rwFp])).trans (Only.drew _ _) (fun _ h _ => h)).trans a2 (fun _ h _ => h), ?_⟩
  rcases hat with q | q
  · exact .inl (by simp [rwFp, q])
  · exact .inr (by have := ho.size; omega)
theorem PutAt.added {w1 W4 : World} {s' : DS} {r1 r2 : RS} {g cap st n : Nat} {S : ByteArray} (h : PutAt w0 w w1 l F i D s' R tv r1) (hr2 : r2 = { r1 with first := if r1.en = 0 then st else r1.first }) (hst : st < 18446744073709551616) (hn1 : 0 < n) (hn : r1.en + n ≤ r1.mn)
    (hob : Ob w0.heap.size W4 R 97 (r2.cs D tv) [⟨.slice (some ⟨g, 0, none⟩) (r1.texts.length + 1) cap, 9, 1, r1.texts.length + 1, strV r1.texts ++ [.string S]⟩]) (ho : Only (rwFp R tv) w1 W4) (hg : g ∈ rwFp R tv ∨ w1.heap.size ≤ g) :
    Went w0 w ((W4.setCell ⟨R, 3, none⟩ (.slice (some ⟨g, 0, none⟩) (r1.texts.length + 1) cap)).setCell ⟨R, 6, none⟩ (.int .i64 ((r1.en + n : Nat) : Int))) l F i D s' R tv (.slice (some ⟨g, 0, none⟩) (r1.texts.length + 1) cap)
      { r1 with first := if r1.en = 0 then st else r1.first, texts := r1.texts ++ [S], en := r1.en + n } := by
  have h2 := hob.set 3 (.slice (some ⟨g, 0, none⟩) (r1.texts.length + 1) cap)
  have h3 := h2.1.set 6 (.int .i64 ((r1.en + n : Nat) : Int))
  have hR : ∀ k ∈ [R], k ∈ rwFp R tv := by simp [rwFp]
  refine h.turned ?_ ((ho.trans (h2.2.mono hR) (fun _ h _ => h)).trans (h3.2.mono hR) (fun _ h _ => h)) (fun k hk => ?_) ⟨h.rw.row.lay.1, hn, ?_⟩ ⟨?_, h.rw.row.num.2⟩
  · subst hr2
    have e1 : (r1.texts ++ [S]).length = r1.texts.length + 1 := by simp
    show Ob _ _ _ _ _ [⟨_, 9, 1, (r1.texts ++ [S]).length, strV (r1.texts ++ [S])⟩]
    rw [e1, strV_snoc]
    exact h3.1
  · have e : k = g := by simpa [Value.ownBlock, eq_comm] using hk
    rw [e]; exact hg
  · show (r1.texts ++ [S]).length ≤ r1.en + n
    have := h.rw.row.lay.2.2
    rw [List.length_append, List.length_singleton]; omega
  · show (if r1.en = 0 then st else r1.first) < _
    split
    · exact hst
    · exact h.rw.row.num.1
theorem wrap_small (n : Nat) (h : n ≤ 4096) : IntKind.i64.wrap (n : Int) = (n : Int) := by rw [IntKind.wrap_i64]; omega
theorem wrap_small2 (a n : Nat) (h : a + n ≤ 4096) : IntKind.i64.wrap ((a : Int) + (n : Int)) = (a : Int) + (n : Int) := by rw [IntKind.wrap_i64]; omega
set_option maxHeartbeats 2000000 in
theorem Row_Add (h : Rw w0 w l F i D s R tv r) (st : Nat) (S : ByteArray) (hst : st < 18446744073709551616) (hm : s.opn.length < 900000) :
    Calls Try.prog 50 #[ptr R, .int .u64 (st : Int), .string S] w fun e w' => e = .returned (.int .i64 (addR s r st S).e) ∧ ∃ tv', Went w0 w w' l F i D (addR s r st S).s R tv tv' (addR s r st S).r := by
  have HPC := hid (Row_put h r.en st S hst h.row.lay.2.1 hm)
  have HEC := hid (Row_End h.row)
  have HK := hid (putR_keeps s r r.en st S)
  have HLAY := hid h.row.lay
  unfold addR
  obtain ⟨P, hP⟩ : ∃ P, P = putR s r r.en st S := ⟨_, rfl⟩
  rw [← hP] at HPC HK ⊢
  have HST := hid hst
  unfold ptr at *
  clear h hP hst
  by_cases c1 : P.e = 0
  · obtain ⟨q1, q2, q3, q4, q5⟩ := HK.out c1
    have e1 : (P.e == 0) = true := by rw [c1]; rfl
    have e2 : (P.e != 0) = false := by rw [c1]; rfl
    have e3 : P.r.en = r.en := by rw [q1]
    have e4 : P.r.mn = r.mn := by rw [q1]
    have hn0 : 0 < P.n := by rw [q2]; exact nP_pos _
    have hn1 : P.r.en + P.n ≤ P.r.mn := by rw [e3, e4]; have := HLAY.out.2.1; omega
    have HN := hid (And.intro hn0 hn1)
    have hmn : P.r.mn ≤ 4096 := by rw [e4]; have := HLAY.out.1; omega
    rw [if_pos c1]
    clear q1 q2 q3 q4 q5 e3 e4 hn0 c1 HK
    have hn2 : P.n ≤ 4096 := by omega
    have HWR := hid (wrap_small P.n hn2)
    have HWR2 := hid (wrap_small2 P.r.en P.n (by omega))
    by_cases c2 : P.r.en = 0
    · have e5 : ((P.r.en : Int) == 0) = true := by rw [beq_iff_eq]; omega
      have e6 : (P.r.en == 0) = true := by rw [beq_iff_eq]; exact c2
      have C2 := hid c2
      clear c2
      go_enter Try.func50, Try.ntmps50
      go_wp2_with (first | (go_at_call 72; refine HEC.out.mono ?_; rintro e w' ⟨rfl, rfl⟩) | (go_at_call 71; refine HPC.out.mono ?_; rintro e w1 ⟨rfl, hp⟩; have HPA := hid hp; obtain ⟨-, -, -, k3, k4, -, k6, -, f⟩ := hp.rw.row.cells; have f3 := f 3; have f4 := f 4; have f6 := f 6; clear hp f))
      obtain ⟨r2, hr2⟩ : ∃ r2 : RS, r2 = { P.r with first := if P.r.en = 0 then st else P.r.first } := ⟨_, rfl⟩
      have HR2 := hid hr2
      have HK6 := hid (show (r2.cs D tv)[6]? = some (.int .i64 (P.r.en : Int)) by rw [hr2]; rfl)
      obtain ⟨w2, hw2⟩ : ∃ w2, w2 = w1.setCell ⟨R, 4, none⟩ (.int .u64 (st : Int)) := ⟨_, rfl⟩
      rw [← hw2]
      have hst4 := HPA.out.rw.row.ob.set 4 (.int .u64 (st : Int))
      rw [← hw2] at hst4
      have HO2 := hid hst4.2
      have HOB := hid (show Ob w0.heap.size w2 R 97 (r2.cs D tv) (P.r.rows tv) by rw [hr2, if_pos C2.out]; exact hst4.1)
      clear k3 k6 f3 f6 hst4
      have k3 : w2.cell? ⟨R, 3, none⟩ = some tv := HOB.out.cell 3
      have k6 : w2.cell? ⟨R, 6, none⟩ = some (.int .i64 (P.r.en : Int)) := (HOB.out.cell 6).trans HK6.out
      have f3 := HOB.out.free 3
      have f6 := HOB.out.free 6
      clear hw2 hr2
      have HTX := hid (HOB.out.own ⟨tv, 9, 1, P.r.texts.length, strV P.r.texts⟩ (by simp [RS.rows]))
      have HTB := hid (show P.r.texts.length ≤ 4096 by have := HPA.out.rw.row.lay; omega)
      obtain ⟨tj, htj, hjz, hjs, hjb⟩ := info_three Q.info9
      have HTJ := hid (And.intro htj (And.intro hjz (And.intro hjs hjb)))
      have HBZ := hid (show w0.heap.size ≤ w2.heap.size by have := HPA.out.rw.dr.below.size; have := HO2.out.size; omega)
      clear htj hjz hjs hjb k4 f4
      have hkk := HOB.out.new (Only.alloc [] w2 (.cells #[.string S] 9))
      have kk3 : (w2.alloc (.cells #[.string S] 9)).cell? ⟨R, 3, none⟩ = some tv := hkk.cell 3
      have kk6 : (w2.alloc (.cells #[.string S] 9)).cell? ⟨R, 6, none⟩ = some (.int .i64 (P.r.en : Int)) := (hkk.cell 6).trans HK6.out
      have ff3 := hkk.free 3
      have ff6 := hkk.free 6
      clear hkk
      go_region_law ((refine step_append_lies _ (by rfl) (.tmp 35) (.tmp 37) 22 (by rfl) w0.heap.size 9 tj _ 1 16 Try.underlying22 HTJ.out.1 HTJ.out.2.1 HTJ.out.2.2.1 HTJ.out.2.2.2 rfl (by decide) tv P.r.texts.length (strV P.r.texts) (by rfl) (World.ownsRow.alloc (w := w2.drew) HTX.out _) ⟨w2.heap.size, 0, none⟩ 1 1 [.string S] (by rfl) rfl (World.news_of_block (heap_alloc_new w2.drew _)) (one_str _) (by decide) (by have := HTB.out; unfold maxLen; omega) (by have := HTB.out; omega) (by have := HBZ.out; simp; omega) (w2.heap.size + 1) (by simp) ?_; intro g cap W4 hown hgrow hat hgl; have HM := hid (HPA.out.app HOB.out HO2.out hown hgrow hat); have k3 := HM.out.1.cell 3; have f3 := HM.out.1.free 3; have k6 := (HM.out.1.cell 6).trans HK6.out; have f6 := HM.out.1.free 6; replace k3 : W4.cell? ⟨R, 3, none⟩ = some tv := k3; replace k6 : W4.cell? ⟨R, 6, none⟩ = some (.int .i64 (P.r.en : Int)) := k6; clear hown hgrow hat hgl))
      all_goals go_wp2_with fail
      all_goals
        have hfin := HPA.out.added HR2.out HST.out HN.out.1 HN.out.2 HM.out.1 HM.out.2.1 HM.out.2.2
        rw [if_pos C2.out, C2.out, Nat.zero_add] at hfin
        rw [HWR.out]
        exact bodyPost_ret (results_tmp rfl _ _ _) rfl ⟨rfl, _, hfin⟩
    · have e5 : ((P.r.en : Int) == 0) = false := by rw [beq_eq_false_iff_ne]; omega
      have e6 : (P.r.en == 0) = false := by rw [beq_eq_false_iff_ne]; exact c2
      have C2 := hid c2
      clear c2
      go_enter Try.func50, Try.ntmps50
      go_wp2_with (first | (go_at_call 72; refine HEC.out.mono ?_; rintro e w' ⟨rfl, rfl⟩) | (go_at_call 71; refine HPC.out.mono ?_; rintro e w1 ⟨rfl, hp⟩; have HPA := hid hp; obtain ⟨-, -, -, k3, k4, -, k6, -, f⟩ := hp.rw.row.cells; have f3 := f 3; have f4 := f 4; have f6 := f 6; clear hp f))
      obtain ⟨r2, hr2⟩ : ∃ r2 : RS, r2 = { P.r with first := if P.r.en = 0 then st else P.r.first } := ⟨_, rfl⟩
      have HR2 := hid hr2
      have HK6 := hid (show (r2.cs D tv)[6]? = some (.int .i64 (P.r.en : Int)) by rw [hr2]; rfl)
      obtain ⟨w2, hw2⟩ : ∃ w2, w2 = w1 := ⟨_, rfl⟩
      rw [← hw2] at k3 k4 k6 f3 f4 f6 ⊢
      have HO2 := hid (show Only [R] w1 w2 by rw [hw2]; exact Only.refl _ _)
      have HOB := hid (show Ob w0.heap.size w2 R 97 (r2.cs D tv) (P.r.rows tv) by rw [hw2, hr2, if_neg C2.out]; exact HPA.out.rw.row.ob)
      clear hw2 hr2
      have HTX := hid (HOB.out.own ⟨tv, 9, 1, P.r.texts.length, strV P.r.texts⟩ (by simp [RS.rows]))
      have HTB := hid (show P.r.texts.length ≤ 4096 by have := HPA.out.rw.row.lay; omega)
      obtain ⟨tj, htj, hjz, hjs, hjb⟩ := info_three Q.info9
      have HTJ := hid (And.intro htj (And.intro hjz (And.intro hjs hjb)))
      have HBZ := hid (show w0.heap.size ≤ w2.heap.size by have := HPA.out.rw.dr.below.size; have := HO2.out.size; omega)
      clear htj hjz hjs hjb k4 f4
      have hkk := HOB.out.new (Only.alloc [] w2 (.cells #[.string S] 9))
      have kk3 : (w2.alloc (.cells #[.string S] 9)).cell? ⟨R, 3, none⟩ = some tv := hkk.cell 3
      have kk6 : (w2.alloc (.cells #[.string S] 9)).cell? ⟨R, 6, none⟩ = some (.int .i64 (P.r.en : Int)) := (hkk.cell 6).trans HK6.out
      have ff3 := hkk.free 3
      have ff6 := hkk.free 6
      clear hkk
      go_region_law ((refine step_append_lies _ (by rfl) (.tmp 35) (.tmp 37) 22 (by rfl) w0.heap.size 9 tj _ 1 16 Try.underlying22 HTJ.out.1 HTJ.out.2.1 HTJ.out.2.2.1 HTJ.out.2.2.2 rfl (by decide) tv P.r.texts.length (strV P.r.texts) (by rfl) (World.ownsRow.alloc (w := w2.drew) HTX.out _) ⟨w2.heap.size, 0, none⟩ 1 1 [.string S] (by rfl) rfl (World.news_of_block (heap_alloc_new w2.drew _)) (one_str _) (by decide) (by have := HTB.out; unfold maxLen; omega) (by have := HTB.out; omega) (by have := HBZ.out; simp; omega) (w2.heap.size + 1) (by simp) ?_; intro g cap W4 hown hgrow hat hgl; have HM := hid (HPA.out.app HOB.out HO2.out hown hgrow hat); have k3 := HM.out.1.cell 3; have f3 := HM.out.1.free 3; have k6 := (HM.out.1.cell 6).trans HK6.out; have f6 := HM.out.1.free 6; replace k3 : W4.cell? ⟨R, 3, none⟩ = some tv := k3; replace k6 : W4.cell? ⟨R, 6, none⟩ = some (.int .i64 (P.r.en : Int)) := k6; clear hown hgrow hat hgl))
      all_goals go_wp2_with fail
      all_goals
        have hfin := HPA.out.added HR2.out HST.out HN.out.1 HN.out.2 HM.out.1 HM.out.2.1 HM.out.2.2
        rw [if_neg C2.out, Int.natCast_add] at hfin
        rw [HWR2.out]
        exact bodyPost_ret (results_tmp rfl _ _ _) rfl ⟨rfl, _, hfin⟩
  · have e1 : (P.e == 0) = false := by simpa using c1
    have e2 : (P.e != 0) = true := by simpa [bne] using c1
    rw [if_neg c1]
    clear c1 HK
    go_enter Try.func50, Try.ntmps50
    go_wp2_with (first | (go_at_call 72; refine HEC.out.mono ?_; rintro e w' ⟨rfl, rfl⟩) | (go_at_call 71; refine HPC.out.mono ?_; rintro e w1 ⟨rfl, hp⟩; have HPA := hid hp; clear hp))
    go_ret
    exact ⟨rfl, tv, HPA.out.went⟩
end
end Go.Proofs.Ytnhgakmnkpjpdaa
