/- A log: Commit. -/
import Derived.Test.YtnhgakmnkpjpdaaX5
set_option maxRecDepth 100000
set_option linter.unusedVariables false
set_option linter.unusedSimpArgs false
namespace Go.Proofs.Ytnhgakmnkpjpdaa
open Go Go.RowKit Go.Proofs.YtnhgakmnkpjpdaaW.PrintWords Go.Proofs.YtnhgakmnkpjpdaaW.PrintLast Go.Proofs.YtnhgakmnkpjpdaaW.PrintMore
attribute [local go_sem] Oper.semAt_some max2_int min2_int max_two min_two max_three min_three max_four min_four
section
variable {w0 w : World} {l : List (Nat × DS)} {F : List Nat} {i D : Nat} {s : DS} {m : WM} {q : WS}
set_option maxHeartbeats 4000000 in
theorem Wal_Commit_z (h : Wl w0 w l F i D s m q) (A : Option Addr) (c : Nat) (x : List ByteArray) (BX : List Nat) (hA : StrAt w BX (.slice A x.length c) x) (hF : ∀ k ∈ BX, Far w0 F m k) (hx : Pure.fine x) (hm : s.opn.length < 900000) (hd : q.down = false) (hz : (q.h q.log).first = 0) :
    Calls Try.prog 20 #[ptr m.O, .slice A x.length c] w fun e w' => e = .returned (.int .i64 (commitW s q x).e) ∧ ∃ F' m', WWent w0 w w' l F F' i D (commitW s q x).s m m' (commitW s q x).q := by
  have e0 : commitW s q x = saveW s q x := by unfold commitW; rw [if_neg (by rw [hd]; decide), if_pos hz]
  rw [e0]
  have hcx : x.length ≤ c ∧ Kd.C Kd.string w A x.length x := by
    obtain ⟨A2, c2, e, h1, h2⟩ := hA.C
    cases e
    exact ⟨h1, h2⟩
  have HM := hid (Wal_may h A c x hcx.2 hcx.1 hx)
  rw [hd] at HM
  have HX := hid hx
  have HXL : Hid (x.length ≤ 4096) := by have := hx.1; show _ ≤ _; omega
  have HW := hid h
  have HA := hid hA
  have HF := hid hF
  have HMM := hid hm
  have e43 : ∀ args w, (callFunc 43 args).run Try.prog w = .ok (.enter 43 args) w := enters_of Try.func43 (by kernel_rfl) rfl
  have e22 : ∀ args w, (callFunc 22 args).run Try.prog w = .ok (.enter 22 args) w := enters_of Try.func22 (by kernel_rfl) rfl
  have e48 : ∀ args w, (callFunc 48 args).run Try.prog w = .ok (.enter 48 args) w := enters_of Try.func48 (by kernel_rfl) rfl
  have e49 : ∀ args w, (callFunc 49 args).run Try.prog w = .ok (.enter 49 args) w := enters_of Try.func49 (by kernel_rfl) rfl
  have e15 : ∀ args w, (callFunc 15 args).run Try.prog w = .ok (.enter 15 args) w := enters_of Try.func15 (by kernel_rfl) rfl
  have e35 : ∀ args w, (callFunc 35 args).run Try.prog w = .ok (.enter 35 args) w := enters_of Try.func35 (by kernel_rfl) rfl
  obtain ⟨P, hP⟩ : ∃ P, P = saveW s q x := ⟨_, rfl⟩
  have HP := hid hP
  rw [← hP]
  obtain ⟨O, hO⟩ : ∃ O, m.O = O := ⟨_, rfl⟩
  have HO := hid hO
  obtain ⟨n, hn⟩ : ∃ n, x.length = n := ⟨_, rfl⟩
  have HN := hid hn
  have HZ := hid hz
  rw [hO, hn] at HM ⊢
  unfold ptr at HM ⊢
  clear h hA hF hx hm hP hO hn hcx hd hz e0
  obtain ⟨ag, hag⟩ : ∃ ag : Nat, ag = (q.h q.log).first := ⟨_, rfl⟩
  have HAGE := hid hag
  have hagz : ((ag : Int) == 0) = true := by rw [hag, HZ.out]; rfl
  clear hag
  go_enter Try.func20, Try.ntmps20
  go_wp2_with fail
  go_at_call 48
  refine HM.out.mono ?_
  rintro e w1 ⟨rfl, ho1⟩
  have HW1 := hid (HW.out.new ho1)
  have HA1 := hid (HA.out.kept ho1 (by simp))
  have HAG := hid (Wal_Age (HW.out.new ho1))
  have HO1 := hid ho1
  rw [HO.out, ← HAGE.out] at HAG
  unfold ptr at HAG
  clear HM ho1
  go_wp2_with fail
  go_at_call 15
  refine HAG.out.mono ?_
  rintro e w2 ⟨rfl, ho2⟩
  have HW2 := hid (HW1.out.new ho2)
  have HA2 := hid (HA1.out.kept ho2 (by simp))
  have HO2 := hid (HO1.out.trans ho2 (fun _ h _ => h))
  clear HAG ho2 HW1 HA1 HO1
  have HSV := hid (Wal_Save HW2.out A c x BX (HN.out ▸ HA2.out) HF.out HX.out HMM.out)
  rw [← HP.out, HO.out, HN.out] at HSV
  unfold ptr at HSV
  go_wp2_with fail
  go_at_call 22
  refine HSV.out.mono ?_
  rintro e w3 ⟨rfl, F1, m1, hwent⟩
  have HG := hid hwent
  clear HSV hwent
  go_wp2_with fail
  go_ret
  exact ⟨rfl, F1, m1, (HW.out.stay HO2.out).trans ((set_self (HW2.out.rw false).hi).symm ▸ HG.out)⟩
set_option maxHeartbeats 4000000 in
theorem Wal_Commit_n (h : Wl w0 w l F i D s m q) (A : Option Addr) (c : Nat) (x : List ByteArray) (BX : List Nat) (hA : StrAt w BX (.slice A x.length c) x) (hF : ∀ k ∈ BX, Far w0 F m k) (hx : Pure.fine x) (hm : s.opn.length < 900000) (ht : q.txns.length ≤ 100000) (hd : q.down = false) (hz : (q.h q.log).first ≠ 0) :
    Calls Try.prog 20 #[ptr m.O, .slice A x.length c] w fun e w' => e = .returned (.int .i64 (commitW s q x).e) ∧ ∃ F' m', WWent w0 w w' l F F' i D (commitW s q x).s m m' (commitW s q x).q := by
  obtain ⟨P, hP⟩ : ∃ P, P = putW addR s q q.log (B (rowL x)) := ⟨_, rfl⟩
  rw [commitW_eq hd hz hP]
  have hcx : x.length ≤ c ∧ Kd.C Kd.string w A x.length x := by
    obtain ⟨A2, c2, e, h1, h2⟩ := hA.C
    cases e
    exact ⟨h1, h2⟩
  have HM := hid (Wal_may h A c x hcx.2 hcx.1 hx)
  rw [hd] at HM
  have HX := hid hx
  have HXL : Hid (x.length ≤ 4096) := by have := hx.1; show _ ≤ _; omega
  have HW := hid h
  have HA := hid hA
  have HF := hid hF
  have HMM := hid hm
  have e43 : ∀ args w, (callFunc 43 args).run Try.prog w = .ok (.enter 43 args) w := enters_of Try.func43 (by kernel_rfl) rfl
  have e22 : ∀ args w, (callFunc 22 args).run Try.prog w = .ok (.enter 22 args) w := enters_of Try.func22 (by kernel_rfl) rfl
  have e48 : ∀ args w, (callFunc 48 args).run Try.prog w = .ok (.enter 48 args) w := enters_of Try.func48 (by kernel_rfl) rfl
  have e49 : ∀ args w, (callFunc 49 args).run Try.prog w = .ok (.enter 49 args) w := enters_of Try.func49 (by kernel_rfl) rfl
  have e15 : ∀ args w, (callFunc 15 args).run Try.prog w = .ok (.enter 15 args) w := enters_of Try.func15 (by kernel_rfl) rfl
  have e35 : ∀ args w, (callFunc 35 args).run Try.prog w = .ok (.enter 35 args) w := enters_of Try.func35 (by kernel_rfl) rfl
  have HP := hid hP
  have HT := hid ht
  have mixed : Try.prog.follows Departure.mixedOrders = true := by kernel_rfl
  obtain ⟨O, hO⟩ : ∃ O, m.O = O := ⟨_, rfl⟩
  have HO := hid hO
  obtain ⟨n, hn⟩ : ∃ n, x.length = n := ⟨_, rfl⟩
  have HN := hid hn
  have HZ := hid hz
  rw [hO, hn] at HM ⊢
  unfold ptr at HM ⊢
  clear h hA hF hx hm hP hO hn hcx hd hz ht
  obtain ⟨ag, hag⟩ : ∃ ag : Nat, ag = (q.h q.log).first := ⟨_, rfl⟩
  have HAGE := hid hag
  have hagz : ((ag : Int) == 0) = false := by rw [beq_eq_false_iff_ne, hag]; have := HZ.out; omega
  by_cases c2 : P.e = 0
  · rw [if_pos c2]
    clear hag
    go_enter Try.func20, Try.ntmps20
    go_wp2_with fail
    go_at_call 48
    refine HM.out.mono ?_
    rintro e w1 ⟨rfl, ho1⟩
    have HW1 := hid (HW.out.new ho1)
    have HA1 := hid (HA.out.kept ho1 (by simp))
    have HAG := hid (Wal_Age (HW.out.new ho1))
    have HO1 := hid ho1
    rw [HO.out, ← HAGE.out] at HAG
    unfold ptr at HAG
    clear HM ho1
    go_wp2_with fail
    go_at_call 15
    refine HAG.out.mono ?_
    rintro e w2 ⟨rfl, ho2⟩
    have HW2 := hid (HW1.out.new ho2)
    have HA2 := hid (HA1.out.kept ho2 (by simp))
    have HO2 := hid (HO1.out.trans ho2 (fun _ h _ => h))
    clear HAG ho2 HW1 HA1 HO1
    have HHF := hid (Wal_half HW2.out)
    rw [HO.out] at HHF
    obtain ⟨Rb, hRb⟩ : ∃ Rb, m.R q.log = Rb := ⟨_, rfl⟩
    have HRB := hid hRb
    rw [hRb] at HHF
    unfold ptr at HHF
    clear hRb
    go_wp2_with fail
    go_at_call 35
    refine HHF.out.mono ?_
    rintro e w2b ⟨rfl, nn, rfl⟩
    have HW3 := hid (HW2.out.new (Only.drewN [] w2 nn))
    have HA3 := hid (HA2.out.kept (Only.drewN [] w2 nn) (by simp))
    have HO3 := hid (HO2.out.trans (Only.drewN [] w2 nn) (fun _ h _ => h))
    have hcx : x.length ≤ c ∧ Kd.C Kd.string (w2.drewN nn) A x.length x := by
      obtain ⟨A2, c2, e, h1, h2⟩ := (HN.out ▸ HA3.out : StrAt (w2.drewN nn) BX (.slice A x.length c) x).C
      cases e
      exact ⟨h1, h2⟩
    have HPU := hid (Wal_put_add HW3.out q.log A c x hcx.2 hcx.1 HX.out HMM.out)
    rw [← HP.out, HO.out, HN.out, HRB.out] at HPU
    unfold ptr at HPU
    clear HHF hcx HW2 HA2 HO2
    generalize w2.drewN nn = w3 at *
    rw [c2] at HPU
    go_wp2_with fail
    go_at_call 49
    refine HPU.out.mono ?_
    rintro e w4 ⟨rfl, F1, m1, hwent, hxv, hvs, hB⟩
    have HG := hid hwent
    have HST := hid (show StrAt w4 BX (.slice A x.length c) x from (HN.out ▸ HA3.out : StrAt w3 BX (.slice A x.length c) x).same (fun k hk => (hwent.far HW3.out.base (HF.out k hk)).1))
    have HCL := hid (Clone_str (HST.out.kept (Only.drew [] w4) (by simp)) HXL.out)
    rw [HN.out] at HCL
    obtain ⟨-, -, -, -, g4, -, f⟩ := hwent.wl.cells
    have f4 := f 4
    have HOM := hid (hwent.obj.1.trans HO.out)
    rw [HOM.out] at g4 f4
    obtain ⟨xv, hxv2⟩ : ∃ xv, m1.xv = xv := ⟨_, rfl⟩
    have HXV := hid hxv2
    rw [hxv2] at g4
    have HPT := hid (putW_log addR s q q.log (B (rowL x))).2
    rw [← HP.out] at HPT
    have HTB := hid (show P.q.txns.length ≤ 100000 by rw [HPT.out]; exact hid (HT.out))
    obtain ⟨tj, htj, hjz, hjs, hjb⟩ := info_three Q.info22
    have HTJ := hid (And.intro htj (And.intro hjz (And.intro hjs hjb)))
    have HOWN := hid (hwent.wl.ob.own ⟨m1.xv, 22, 1, P.q.txns.length, m1.vs⟩ (by simp [WS.rows]))
    rw [hxv2] at HOWN
    have HBASE := hid (hwent.wl.base.size)
    clear HPU hwent f hxv hvs hB hxv2 htj hjz hjs hjb
    go_wp2_with fail
    go_region_law (first | (refine step_append_lies _ (by rfl) (.tmp 29) (.tmp 32) 44 (by rfl) w0.heap.size 22 tj _ 1 24 Try.underlying44 HTJ.out.1 HTJ.out.2.1 HTJ.out.2.2.1 HTJ.out.2.2.2 rfl (by decide) xv P.q.txns.length m1.vs (by rfl) (World.ownsRow.alloc HOW5.out _) ⟨w5.heap.size, 0, none⟩ 1 1 [.slice A5 n c5] (by rfl) rfl (World.news_of_block (heap_alloc_new w5 _)) (by intro u hu; rw [List.mem_singleton] at hu; rw [hu]; rfl) (by decide) (by have := HTB.out; unfold maxLen; omega) (by have := HTB.out; omega) (by have := HBS.out; simp; omega) (w5.heap.size + 1) (by simp) ?_; intro g cap w6 hown hgrow hat hgl; have HFIN := hid (HG.out.wl.appd (x := x) HO5.out (by rw [HN.out]; exact HV.out) hown (by rw [HXV.out]; exact hgrow) (by rw [HXV.out]; exact hat)); have hfz : w6.frozen? ⟨O, 4, none⟩ = false := HFZ.out w6 g cap hown hgrow hat; have hcl6 : w6.cell? ⟨O, 4, none⟩ = some xv := HCZ.out w6 g cap hown hgrow hat; clear hown hgrow hat hgl) | (go_simp; go_at_call 43; refine HCL.out.mono ?_; rintro e w5 ⟨v2, rfl, hown, ho5⟩; obtain ⟨A5, c5, e5⟩ : ∃ A5 c5, v2 = .slice A5 n c5 := (by obtain ⟨A5, c5, e5, -⟩ := StrAt.of_own (HN.out ▸ hown); exact ⟨A5, c5, HN.out ▸ e5⟩); subst e5; have HV := hid hown; have HO5 := hid ((Only.drew [] w4).trans ho5 (fun _ h _ => h)); have HOW5 := hid (ownsRow_kept HOWN.out HO5.out (by simp)); have HBS := hid (show w0.heap.size ≤ w5.heap.size by have := HBASE.out; have := HO5.out.size; omega); have HW5 := hid (HG.out.wl.new HO5.out); obtain ⟨-, -, -, -, k4, -, fk⟩ := HW5.out.cells; have fk4 := fk 4; rw [HOM.out] at k4 fk4; rw [HXV.out] at k4; obtain ⟨-, -, -, -, k4b, -, fkb⟩ := (HW5.out.new (Only.alloc [] w5 (.cells #[.slice A5 n c5] 22))).cells; have fk4b := fkb 4; rw [HOM.out] at k4b fk4b; rw [HXV.out] at k4b; clear fkb; have HFZ : Hid (∀ (w6 : World) (g cap : Nat), w6.ownsRow w0.heap.size 22 1 (.slice (some ⟨g, 0, none⟩) (P.q.txns.length + 1) cap) (P.q.txns.length + 1) (m1.vs ++ [.slice A5 n c5]) → (w5.alloc (.cells #[.slice A5 n c5] 22)).grownBy w6 xv.ownBlock → (xv.ownBlock = some g ∨ g = w5.heap.size + 1) → w6.frozen? ⟨O, 4, none⟩ = false) := (fun w6 g cap h1 h2 h3 => by have a := Ob.appended (a := []) (b := []) HW5.out.ob h1 (by rw [HXV.out]; exact h2) (by rw [HXV.out]; exact h3); have := a.1.free 4; rwa [HOM.out] at this); have HCZ : Hid (∀ (w6 : World) (g cap : Nat), w6.ownsRow w0.heap.size 22 1 (.slice (some ⟨g, 0, none⟩) (P.q.txns.length + 1) cap) (P.q.txns.length + 1) (m1.vs ++ [.slice A5 n c5]) → (w5.alloc (.cells #[.slice A5 n c5] 22)).grownBy w6 xv.ownBlock → (xv.ownBlock = some g ∨ g = w5.heap.size + 1) → w6.cell? ⟨O, 4, none⟩ = some xv) := (fun w6 g cap h1 h2 h3 => by have a := Ob.appended (a := []) (b := []) HW5.out.ob h1 (by rw [HXV.out]; exact h2) (by rw [HXV.out]; exact h3); have := a.1.cell 4; rw [HOM.out, HXV.out] at this; exact this); clear hown ho5 fk))
    all_goals go_wp2_with fail
    all_goals
      have h8 := (HW.out.stay HO3.out).trans ((set_self (HW3.out.rw false).hi).symm ▸ HG.out)
      have h7 := h8.trans HFIN.out
      rw [HOM.out] at h7
      exact bodyPost_ret (results_tmp rfl _ _ _) rfl ⟨rfl, _, _, h7⟩
  · rw [if_neg c2]
    clear hag
    obtain ⟨pe, hpe⟩ : ∃ pe, pe = P.e := ⟨_, rfl⟩
    have HPE := hid hpe
    rw [← hpe] at c2 ⊢
    have q2 : (pe == 0) = false := by rw [beq_eq_false_iff_ne]; exact c2
    clear hpe
    go_enter Try.func20, Try.ntmps20
    go_wp2_with fail
    go_at_call 48
    refine HM.out.mono ?_
    rintro e w1 ⟨rfl, ho1⟩
    have HW1 := hid (HW.out.new ho1)
    have HA1 := hid (HA.out.kept ho1 (by simp))
    have HAG := hid (Wal_Age (HW.out.new ho1))
    have HO1 := hid ho1
    rw [HO.out, ← HAGE.out] at HAG
    unfold ptr at HAG
    clear HM ho1
    go_wp2_with fail
    go_at_call 15
    refine HAG.out.mono ?_
    rintro e w2 ⟨rfl, ho2⟩
    have HW2 := hid (HW1.out.new ho2)
    have HA2 := hid (HA1.out.kept ho2 (by simp))
    have HO2 := hid (HO1.out.trans ho2 (fun _ h _ => h))
    clear HAG ho2 HW1 HA1 HO1
    have HHF := hid (Wal_half HW2.out)
    rw [HO.out] at HHF
    obtain ⟨Rb, hRb⟩ : ∃ Rb, m.R q.log = Rb := ⟨_, rfl⟩
    have HRB := hid hRb
    rw [hRb] at HHF
    unfold ptr at HHF
    clear hRb
    go_wp2_with fail
    go_at_call 35
    refine HHF.out.mono ?_
    rintro e w2b ⟨rfl, nn, rfl⟩
    have HW3 := hid (HW2.out.new (Only.drewN [] w2 nn))
    have HA3 := hid (HA2.out.kept (Only.drewN [] w2 nn) (by simp))
    have HO3 := hid (HO2.out.trans (Only.drewN [] w2 nn) (fun _ h _ => h))
    have hcx : x.length ≤ c ∧ Kd.C Kd.string (w2.drewN nn) A x.length x := by
      obtain ⟨A2, c2, e, h1, h2⟩ := (HN.out ▸ HA3.out : StrAt (w2.drewN nn) BX (.slice A x.length c) x).C
      cases e
      exact ⟨h1, h2⟩
    have HPU := hid (Wal_put_add HW3.out q.log A c x hcx.2 hcx.1 HX.out HMM.out)
    rw [← HP.out, HO.out, HN.out, HRB.out] at HPU
    unfold ptr at HPU
    clear HHF hcx HW2 HA2 HO2
    generalize w2.drewN nn = w3 at *
    rw [← HPE.out] at HPU
    go_wp2_with fail
    go_at_call 49
    refine HPU.out.mono ?_
    rintro e w4 ⟨rfl, F1, m1, hwent, hxv, hvs, hB⟩
    have HG := hid hwent
    clear HPU hwent hxv hvs hB
    go_wp2_with fail
    go_ret
    exact ⟨rfl, F1, m1, (HW.out.stay HO3.out).trans ((set_self (HW3.out.rw false).hi).symm ▸ HG.out)⟩
set_option maxHeartbeats 4000000 in
theorem Wal_Commit (h : Wl w0 w l F i D s m q) (A : Option Addr) (c : Nat) (x : List ByteArray) (BX : List Nat) (hA : StrAt w BX (.slice A x.length c) x) (hF : ∀ k ∈ BX, Far w0 F m k) (hx : Pure.fine x) (hm : s.opn.length < 900000) (ht : q.txns.length ≤ 100000) :
    Calls Try.prog 20 #[ptr m.O, .slice A x.length c] w fun e w' => e = .returned (.int .i64 (commitW s q x).e) ∧ ∃ F' m', WWent w0 w w' l F F' i D (commitW s q x).s m m' (commitW s q x).q := by
  cases hd : q.down with
  | true =>
    have e0 : commitW s q x = ⟨s, q, 30⟩ := by unfold commitW; rw [if_pos hd]
    rw [e0]
    have hcx : x.length ≤ c ∧ Kd.C Kd.string w A x.length x := by
      obtain ⟨A2, c2, e, h1, h2⟩ := hA.C
      cases e
      exact ⟨h1, h2⟩
    have HM := hid (Wal_may h A c x hcx.2 hcx.1 hx)
    rw [hd] at HM
    have HW := hid h
    have e48 : ∀ args w, (callFunc 48 args).run Try.prog w = .ok (.enter 48 args) w := enters_of Try.func48 (by kernel_rfl) rfl
    obtain ⟨O, hO⟩ : ∃ O, m.O = O := ⟨_, rfl⟩
    obtain ⟨n, hn⟩ : ∃ n, x.length = n := ⟨_, rfl⟩
    rw [hO, hn] at HM ⊢
    unfold ptr at HM ⊢
    clear h hA hF hx hm hcx hd e0 hO hn
    go_enter Try.func20, Try.ntmps20
    go_wp2_with fail
    go_at_call 48
    refine HM.out.mono ?_
    rintro e w1 ⟨rfl, ho1⟩
    have HO1 := hid ho1
    clear HM ho1
    go_wp2_with fail
    go_ret
    exact ⟨rfl, F, m, HW.out.stay HO1.out⟩
  | false =>
    by_cases hz : (q.h q.log).first = 0
    · exact Wal_Commit_z h A c x BX hA hF hx hm hd hz
    · exact Wal_Commit_n h A c x BX hA hF hx hm ht hd hz
end
end Go.Proofs.Ytnhgakmnkpjpdaa
