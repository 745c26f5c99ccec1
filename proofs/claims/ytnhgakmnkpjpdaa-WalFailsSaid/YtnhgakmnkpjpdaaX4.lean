/- A log: put, with either act of a row. -/
import Derived.Test.YtnhgakmnkpjpdaaX0
set_option maxRecDepth 100000
set_option linter.unusedVariables false
set_option linter.unusedSimpArgs false
namespace Go.Proofs.Ytnhgakmnkpjpdaa
open Go Go.RowKit Go.Proofs.YtnhgakmnkpjpdaaW.PrintWords Go.Proofs.YtnhgakmnkpjpdaaW.PrintLast Go.Proofs.YtnhgakmnkpjpdaaW.PrintMore
theorem max2_mx (k k' : IntKind) (x y : Int) : Builtin.max2 (.int k x) (.int k' y) = pure (.int k (max x y)) := by
  rw [max2_int]
  congr 2
  split <;> omega
attribute [local go_sem] Oper.semAt_some max2_mx max_two
def topW (q : WS) : Nat := max (q.h false).top (q.h true).top
/-- What put leaves: the drive, the log, the error. -/
structure PW where
  s : DS
  q : WS
  e : Int
def putW (act : DS → RS → Nat → ByteArray → ActR) (s : DS) (q : WS) (b : Bool) (S : ByteArray) : PW :=
  if 9223372036854775807 ≤ topW q then ⟨s, q, 6⟩ else
  if (act s (q.h b) (topW q + 1) S).e = 0 then ⟨(syncR (act s (q.h b) (topW q + 1) S).s).1, { q with h := upd2 q.h b (act s (q.h b) (topW q + 1) S).r, down := (syncR (act s (q.h b) (topW q + 1) S).s).2 == 30 }, (syncR (act s (q.h b) (topW q + 1) S).s).2⟩
  else ⟨(act s (q.h b) (topW q + 1) S).s, { q with h := upd2 q.h b (act s (q.h b) (topW q + 1) S).r, down := (act s (q.h b) (topW q + 1) S).e == 30 }, (act s (q.h b) (topW q + 1) S).e⟩
def WM.fp (m : WM) : List Nat := m.own ++ (rwFp (m.R false) (m.v false) ++ rwFp (m.R true) (m.v true))
theorem WM.fp_row (m : WM) (b : Bool) : ∀ k ∈ rwFp (m.R b) (m.v b), k ∈ m.fp := fun k hk => by
  unfold WM.fp
  cases b
  · exact List.mem_append_right _ (List.mem_append_left _ hk)
  · exact List.mem_append_right _ (List.mem_append_right _ hk)
/-- The drive and the log have gone on; what else there was is as it was. -/
structure WWent (w0 w w' : World) (l : List (Nat × DS)) (F F' : List Nat) (i D : Nat) (s' : DS) (m m' : WM) (q' : WS) : Prop where
  wl : Wl w0 w' (l.set i (D, s')) F' i D s' m' q'
  sub : ∀ k ∈ F, k ∈ F'
  same : ∀ k ∈ F, k ∉ m.fp → w'.heap[k]? = w.heap[k]?
  fresh : ∀ k ∈ m'.fp, k ∈ m.fp ∨ k ∉ F
  obj : m'.O = m.O ∧ m'.R = m.R
section
variable {w0 w w' w2 : World} {l : List (Nat × DS)} {F F' : List Nat} {i D : Nat} {s s' s2 : DS} {m m' : WM} {q q' : WS}
theorem Wl.stay (h : Wl w0 w l F i D s m q) (ho : Only [] w w') : WWent w0 w w' l F F i D s m m q :=
  ⟨by rw [set_self (h.rw false).hi]; exact h.new ho, fun k hk => hk, fun k hk _ => ho.block k ((h.rw false).dr.lt k hk) (by simp), fun k hk => .inl hk, rfl, rfl⟩
theorem Wl.gone (h : Wl w0 w l F i D s m q) {b : Bool} {tv' : Value} {r' : RS} (hw : Went w0 w w' l F i D s' (m.R b) (m.v b) tv' r') :
    WWent w0 w w' l F (tv'.ownBlock.toList ++ F) i D s' m { m with v := upd2 m.v b tv' } { q with h := upd2 q.h b r' } := by
  refine ⟨h.went hw, fun k hk => List.mem_append_right _ hk, fun k hk hn => hw.same k hk (fun e => hn (m.fp_row b k e)), fun k hk => ?_, rfl, rfl⟩
  have hrow : ∀ k ∈ rwFp (m.R b) tv', k ∈ m.fp ∨ k ∉ F := fun k hk => by
    rcases List.mem_cons.1 hk with e | e
    · exact .inl (m.fp_row b k (by rw [e]; simp [rwFp]))
    · rcases hw.fresh k e with e2 | e2
      · exact .inl (m.fp_row b k e2)
      · exact .inr e2
  rcases List.mem_append.1 hk with e | e
  · exact .inl (List.mem_append_left _ e)
  · cases b with
    | false =>
      rcases List.mem_append.1 e with e | e
      · have e2 : k ∈ rwFp (m.R false) (upd2 m.v false tv' false) := e
        rw [upd2_same] at e2
        exact hrow k e2
      · have e2 : k ∈ rwFp (m.R true) (upd2 m.v false tv' true) := e
        rw [upd2_ne _ _ (by decide)] at e2
        exact .inl (m.fp_row true k e2)
    | true =>
      rcases List.mem_append.1 e with e | e
      · have e2 : k ∈ rwFp (m.R false) (upd2 m.v true tv' false) := e
        rw [upd2_ne _ _ (by decide)] at e2
        exact .inl (m.fp_row false k e2)
      · have e2 : k ∈ rwFp (m.R true) (upd2 m.v true tv' true) := e
        rw [upd2_same] at e2
        exact hrow k e2
/-- .. and the drive once more. -/
theorem WWent.drive (h : WWent w0 w w' l F F' i D s' m m' q') (hd : Dr w0 w2 ((l.set i (D, s')).set i (D, s2)) F') (hs : Same F' w' w2) : WWent w0 w w2 l F F' i D s2 m m' q' := by
  have h2 := h.wl.drive hd hs
  rw [List.set_set] at h2
  exact ⟨h2, h.sub, fun k hk hn => (hs k (h.sub k hk)).trans (h.same k hk hn), h.fresh, h.obj⟩
theorem WWent.set (h : WWent w0 w w' l F F' i D s' m m' q') {O : Nat} (hO : m'.O = O) (j : Nat) (x : Value) {q2 : WS} (hc : q2.cs D m'.R m'.xv = (q'.cs D m'.R m'.xv).setIfInBounds j x) (hh : q2.h = q'.h) (ht : q2.txns = q'.txns) :
    WWent w0 w (w'.setCell ⟨O, j, none⟩ x) l F F' i D s' m m' q2 := by
  subst hO
  refine ⟨h.wl.set j x hc hh ht, h.sub, fun k hk hn => ?_, h.fresh, h.obj⟩
  rw [heap_setCell_other _ _ _ _ (fun e => hn (by have e2 : k = m'.O := e; rw [e2, h.obj.1]; simp [WM.fp, WM.own]))]
  exact h.same k hk hn
end
section
variable {w0 w : World} {l : List (Nat × DS)} {F : List Nat} {i D : Nat} {s : DS} {m : WM} {q : WS}
set_option maxHeartbeats 4000000 in
theorem Wal_put_add (h : Wl w0 w l F i D s m q) (b : Bool) (A : Option Addr) (c : Nat) (x : List ByteArray) (hC : Kd.C Kd.string w A x.length x) (hc : x.length ≤ c) (hx : Pure.fine x) (hm : s.opn.length < 900000) :
    Calls Try.prog 49 #[ptr m.O, ptr (m.R b), .func (.func 50) #[] #[], .slice A x.length c] w fun e w' => e = .returned (.int .i64 (putW addR s q b (B (rowL x))).e) ∧ ∃ F' m', WWent w0 w w' l F F' i D (putW addR s q b (B (rowL x))).s m m' (putW addR s q b (B (rowL x))).q ∧ m'.xv = m.xv ∧ m'.vs = m.vs ∧ m'.B = m.B := by
  have HT0 := hid (fun n => Row_Top ((h.new (Only.drewN [] w n)).rw false).row)
  have HT1 := hid (fun n => Row_Top ((h.new (Only.drewN [] w n)).rw true).row)
  have hn0 := ((h.rw false).row).num.2
  have hn1 := ((h.rw true).row).num.2
  obtain ⟨h0, h1, h2, -, -, -, f⟩ := h.cells
  have f1 := f 1
  have f2 := f 2
  have HW := hid h
  have HRW := hid (fun n => tally_Row.calls A c x _ (w.drewN n) (Kd.C_drewN hC n) hc (Pure.Row_f x hx))
  have e50 : ∀ args w, (callFunc 50 args).run Try.prog w = .ok (.enter 50 args) w := enters_of Try.func50 (by kernel_rfl) rfl
  have e68 : ∀ args w, (callFunc 68 args).run Try.prog w = .ok (.enter 68 args) w := enters_of Try.func68 (by kernel_rfl) rfl
  have e69 : ∀ args w, (callFunc 69 args).run Try.prog w = .ok (.enter 69 args) w := enters_of Try.func69 (by kernel_rfl) rfl
  have e70 : ∀ args w, (callFunc 70 args).run Try.prog w = .ok (.enter 70 args) w := enters_of Try.func70 (by kernel_rfl) rfl
  have mixed : Try.prog.follows Departure.mixedOrders = true := by kernel_rfl
  generalize B (rowL x) = S at HRW ⊢
  generalize x.length = n at *
  obtain ⟨t0, ht0⟩ : ∃ t0, t0 = (q.h false).top := ⟨_, rfl⟩
  obtain ⟨t1, ht1⟩ : ∃ t1, t1 = (q.h true).top := ⟨_, rfl⟩
  obtain ⟨tp, htp⟩ : ∃ tp, tp = topW q := ⟨_, rfl⟩
  have htp2 : tp = max t0 t1 := by rw [htp, ht0, ht1]; rfl
  rw [← ht0] at hn0 HT0
  rw [← ht1] at hn1 HT1
  have emax : max (t0 : Int) (t1 : Int) = (tp : Int) := by omega
  have htb : tp < 18446744073709551616 := by omega
  have HTP := hid htp
  unfold putW
  rw [← htp]
  obtain ⟨O, hO⟩ : ∃ O, m.O = O := ⟨_, rfl⟩
  obtain ⟨R0, hR0⟩ : ∃ R0, m.R false = R0 := ⟨_, rfl⟩
  obtain ⟨R1, hR1⟩ : ∃ R1, m.R true = R1 := ⟨_, rfl⟩
  obtain ⟨Rb, hRb⟩ : ∃ Rb, m.R b = Rb := ⟨_, rfl⟩
  have HOE := hid hO
  have HRE := hid hRb
  rw [hO] at h0 h1 h2 f1 f2 ⊢
  rw [hR0] at h1 HT0
  rw [hR1] at h2 HT1
  rw [hRb]
  unfold ptr at h0 h1 h2 HT0 HT1 ⊢
  clear h f hC hc ht0 ht1 htp htp2 hx hO hR0 hR1 hRb
  by_cases c1 : 9223372036854775807 ≤ tp
  · have q1 : decide ((9223372036854775807 : Int) ≤ (tp : Int)) = true := decide_eq_true (by omega)
    rw [if_pos c1]
    go_enter Try.func49, Try.ntmps49
    go_wp2_with fail
    go_quiet (first | (go_at_call 69; with_reducible exact Calls.quiet_of_same (HT0.out _)) | (go_at_call 69; with_reducible exact Calls.quiet_of_same (HT1.out _)))
    go_wp2
    go_ret
    exact ⟨rfl, F, m, HW.out.stay (Only.drewN _ _ _), rfl, rfl, rfl⟩
  · have q1 : decide ((9223372036854775807 : Int) ≤ (tp : Int)) = false := decide_eq_false (by omega)
    rw [if_neg c1]
    have ew : IntKind.u64.wrap ((tp : Int) + 1) = ((tp + 1 : Nat) : Int) := by rw [IntKind.wrap_u64]; omega
    obtain ⟨P, hP⟩ : ∃ P, P = addR s (q.h b) (tp + 1) S := ⟨_, rfl⟩
    rw [← hP]
    obtain ⟨u, hu⟩ : ∃ u, u = tp + 1 := ⟨_, rfl⟩
    rw [← hu] at ew hP
    have hub : u < 18446744073709551616 := by omega
    have HP := hid hP
    have HU := hid hub
    clear hP hu hub
    by_cases c2 : P.e = 0
    · have q2 : (P.e == 0) = true := by rw [beq_iff_eq]; exact c2
      rw [if_pos c2]
      obtain ⟨Y, hY⟩ : ∃ Y, Y = syncR P.s := ⟨_, rfl⟩
      have HY := hid hY
      rw [← hY]
      obtain ⟨ye, hye⟩ : ∃ ye, ye = Y.2 := ⟨_, rfl⟩
      have HYE := hid hye
      rw [← hye]
      clear hY hye
      go_enter Try.func49, Try.ntmps49
      go_wp2_with fail
      go_quiet (first | (go_at_call 69; with_reducible exact Calls.quiet_of_same (HT0.out _)) | (go_at_call 69; with_reducible exact Calls.quiet_of_same (HT1.out _)))
      have HW1 := hid (HW.out.new (Only.drewN [] w nq))
      have hrw := HRW.out nq
      have HSM := hid (fun k (hk : k ∈ F) => (show (w.drewN nq).heap[k]? = w.heap[k]? from rfl))
      clear HT0 HT1 HRW h1 h2 f1 f2
      generalize w.drewN nq = w1 at *
      go_wp2_with fail
      go_at_call 68
      refine hrw.mono ?_
      rintro e w2 ⟨rfl, hb⟩
      have hO2 : Only [] w1 w2 := Only.of_below hb
      have HW2 := hid (HW1.out.new hO2)
      have HSM2 := hid (fun k (hk : k ∈ F) => (hO2.block k ((HW1.out.rw false).dr.lt k hk) (by simp)).trans (HSM.out k hk))
      have hact := Row_Add (HW2.out.rw b) u S HU.out hm
      rw [← HP.out, HRE.out] at hact
      unfold ptr at hact
      clear hrw hb hO2 HW1 HSM
      go_wp2_with fail
      go_at_call 50
      refine hact.mono ?_
      rintro e w3 ⟨rfl, tv', hwent⟩
      have HG := hid (HW2.out.gone (b := b) (tv' := tv') (r' := P.r) (s' := P.s) (w' := w3) (by rw [HRE.out]; exact hwent))
      have HSM3 := HSM2
      clear hact hwent
      obtain ⟨g0, -, -, -, -, g5, gf⟩ := HG.out.wl.cells
      have gf5 := gf 5
      have hOm : ({ m with v := upd2 m.v b tv' } : WM).O = O := HOE.out
      rw [hOm] at g0 g5 gf5
      clear hOm
      unfold ptr at g0
      clear gf
      have HSY := hid (fun (hd : True) => ((HG.out.wl.rw false).dr.sync (HG.out.wl.rw false).hi))
      have HKEEP : Hid (∀ (w9 : World) (s9 : DS) (q9 : WS), WWent w0 w2 w9 l F (tv'.ownBlock.toList ++ F) i D s9 m { m with v := upd2 m.v b tv' } q9 → WWent w0 w w9 l F (tv'.ownBlock.toList ++ F) i D s9 m { m with v := upd2 m.v b tv' } q9) := fun w9 s9 q9 hh =>
        ⟨hh.wl, hh.sub, fun k hk hn => (hh.same k hk hn).trans (HSM3.out k hk), hh.fresh, hh.obj⟩
      have hsy := HSY.out trivial
      rw [← HY.out, ← HYE.out] at hsy
      unfold ptr at hsy
      clear HSY HSM2 HSM3 HRE
      go_wp2_with fail
      go_at_call 70
      refine hsy.mono ?_
      rintro e w4 ⟨rfl, hd4, hs4⟩
      have HG4 := hid (HG.out.drive hd4 hs4)
      obtain ⟨-, -, -, -, -, y5, yf⟩ := HG4.out.wl.cells
      have yf5 := yf 5
      have hOm : ({ m with v := upd2 m.v b tv' } : WM).O = O := HOE.out
      rw [hOm] at y5 yf5
      clear hsy hd4 hs4 yf hOm g0 g5 gf5
      go_wp2_with fail
      go_ret
      refine ⟨rfl, _, _, HKEEP.out _ _ _ ?_, rfl, rfl, rfl⟩
      have h9 := HG4.out.set (O := O) HOE.out (q2 := { q with h := upd2 q.h b P.r, down := ye == 30 }) 5 (.bool (ye == 30)) rfl rfl rfl
      exact h9
    · have q2 : (P.e == 0) = false := by rw [beq_eq_false_iff_ne]; exact c2
      rw [if_neg c2]
      obtain ⟨ye, hye⟩ : ∃ ye, ye = P.e := ⟨_, rfl⟩
      have HYE := hid hye
      rw [← hye] at q2 c2 ⊢
      clear hye
      go_enter Try.func49, Try.ntmps49
      go_wp2_with fail
      go_quiet (first | (go_at_call 69; with_reducible exact Calls.quiet_of_same (HT0.out _)) | (go_at_call 69; with_reducible exact Calls.quiet_of_same (HT1.out _)))
      have HW1 := hid (HW.out.new (Only.drewN [] w nq))
      have hrw := HRW.out nq
      have HSM := hid (fun k (hk : k ∈ F) => (show (w.drewN nq).heap[k]? = w.heap[k]? from rfl))
      clear HT0 HT1 HRW h1 h2 f1 f2
      generalize w.drewN nq = w1 at *
      go_wp2_with fail
      go_at_call 68
      refine hrw.mono ?_
      rintro e w2 ⟨rfl, hb⟩
      have hO2 : Only [] w1 w2 := Only.of_below hb
      have HW2 := hid (HW1.out.new hO2)
      have HSM2 := hid (fun k (hk : k ∈ F) => (hO2.block k ((HW1.out.rw false).dr.lt k hk) (by simp)).trans (HSM.out k hk))
      have hact := Row_Add (HW2.out.rw b) u S HU.out hm
      rw [← HP.out, HRE.out, ← HYE.out] at hact
      unfold ptr at hact
      clear hrw hb hO2 HW1 HSM
      go_wp2_with fail
      go_at_call 50
      refine hact.mono ?_
      rintro e w3 ⟨rfl, tv', hwent⟩
      have HG := hid (HW2.out.gone (b := b) (tv' := tv') (r' := P.r) (s' := P.s) (w' := w3) (by rw [HRE.out]; exact hwent))
      have HSM3 := HSM2
      clear hact hwent
      obtain ⟨g0, -, -, -, -, g5, gf⟩ := HG.out.wl.cells
      have gf5 := gf 5
      have hOm : ({ m with v := upd2 m.v b tv' } : WM).O = O := HOE.out
      rw [hOm] at g0 g5 gf5
      clear hOm
      unfold ptr at g0
      clear gf
      have HSY := hid (fun (hd : True) => ((HG.out.wl.rw false).dr.sync (HG.out.wl.rw false).hi))
      have HKEEP : Hid (∀ (w9 : World) (s9 : DS) (q9 : WS), WWent w0 w2 w9 l F (tv'.ownBlock.toList ++ F) i D s9 m { m with v := upd2 m.v b tv' } q9 → WWent w0 w w9 l F (tv'.ownBlock.toList ++ F) i D s9 m { m with v := upd2 m.v b tv' } q9) := fun w9 s9 q9 hh =>
        ⟨hh.wl, hh.sub, fun k hk hn => (hh.same k hk hn).trans (HSM3.out k hk), hh.fresh, hh.obj⟩
      clear HSY HSM2 HSM3 HRE
      go_wp2_with fail
      go_ret
      refine ⟨rfl, _, _, HKEEP.out _ _ _ ?_, rfl, rfl, rfl⟩
      have h9 := HG.out.set (O := O) HOE.out (q2 := { q with h := upd2 q.h b P.r, down := ye == 30 }) 5 (.bool (ye == 30)) rfl rfl rfl
      exact h9
end
section
variable {w0 w : World} {l : List (Nat × DS)} {F : List Nat} {i D : Nat} {s : DS} {m : WM} {q : WS}
set_option maxHeartbeats 4000000 in
theorem Wal_put_begin (h : Wl w0 w l F i D s m q) (b : Bool) (A : Option Addr) (c : Nat) (x : List ByteArray) (hC : Kd.C Kd.string w A x.length x) (hc : x.length ≤ c) (hx : Pure.fine x) (hm : s.opn.length < 900000) :
    Calls Try.prog 49 #[ptr m.O, ptr (m.R b), .func (.func 51) #[] #[], .slice A x.length c] w fun e w' => e = .returned (.int .i64 (putW beginR s q b (B (rowL x))).e) ∧ ∃ F' m', WWent w0 w w' l F F' i D (putW beginR s q b (B (rowL x))).s m m' (putW beginR s q b (B (rowL x))).q ∧ m'.xv = m.xv ∧ m'.vs = m.vs ∧ m'.B = m.B := by
  have HT0 := hid (fun n => Row_Top ((h.new (Only.drewN [] w n)).rw false).row)
  have HT1 := hid (fun n => Row_Top ((h.new (Only.drewN [] w n)).rw true).row)
  have hn0 := ((h.rw false).row).num.2
  have hn1 := ((h.rw true).row).num.2
  obtain ⟨h0, h1, h2, -, -, -, f⟩ := h.cells
  have f1 := f 1
  have f2 := f 2
  have HW := hid h
  have HRW := hid (fun n => tally_Row.calls A c x _ (w.drewN n) (Kd.C_drewN hC n) hc (Pure.Row_f x hx))
  have e50 : ∀ args w, (callFunc 51 args).run Try.prog w = .ok (.enter 51 args) w := enters_of Try.func51 (by kernel_rfl) rfl
  have e68 : ∀ args w, (callFunc 68 args).run Try.prog w = .ok (.enter 68 args) w := enters_of Try.func68 (by kernel_rfl) rfl
  have e69 : ∀ args w, (callFunc 69 args).run Try.prog w = .ok (.enter 69 args) w := enters_of Try.func69 (by kernel_rfl) rfl
  have e70 : ∀ args w, (callFunc 70 args).run Try.prog w = .ok (.enter 70 args) w := enters_of Try.func70 (by kernel_rfl) rfl
  have mixed : Try.prog.follows Departure.mixedOrders = true := by kernel_rfl
  generalize B (rowL x) = S at HRW ⊢
  generalize x.length = n at *
  obtain ⟨t0, ht0⟩ : ∃ t0, t0 = (q.h false).top := ⟨_, rfl⟩
  obtain ⟨t1, ht1⟩ : ∃ t1, t1 = (q.h true).top := ⟨_, rfl⟩
  obtain ⟨tp, htp⟩ : ∃ tp, tp = topW q := ⟨_, rfl⟩
  have htp2 : tp = max t0 t1 := by rw [htp, ht0, ht1]; rfl
  rw [← ht0] at hn0 HT0
  rw [← ht1] at hn1 HT1
  have emax : max (t0 : Int) (t1 : Int) = (tp : Int) := by omega
  have htb : tp < 18446744073709551616 := by omega
  have HTP := hid htp
  unfold putW
  rw [← htp]
  obtain ⟨O, hO⟩ : ∃ O, m.O = O := ⟨_, rfl⟩
  obtain ⟨R0, hR0⟩ : ∃ R0, m.R false = R0 := ⟨_, rfl⟩
  obtain ⟨R1, hR1⟩ : ∃ R1, m.R true = R1 := ⟨_, rfl⟩
  obtain ⟨Rb, hRb⟩ : ∃ Rb, m.R b = Rb := ⟨_, rfl⟩
  have HOE := hid hO
  have HRE := hid hRb
  rw [hO] at h0 h1 h2 f1 f2 ⊢
  rw [hR0] at h1 HT0
  rw [hR1] at h2 HT1
  rw [hRb]
  unfold ptr at h0 h1 h2 HT0 HT1 ⊢
  clear h f hC hc ht0 ht1 htp htp2 hx hO hR0 hR1 hRb
  by_cases c1 : 9223372036854775807 ≤ tp
  · have q1 : decide ((9223372036854775807 : Int) ≤ (tp : Int)) = true := decide_eq_true (by omega)
    rw [if_pos c1]
    go_enter Try.func49, Try.ntmps49
    go_wp2_with fail
    go_quiet (first | (go_at_call 69; with_reducible exact Calls.quiet_of_same (HT0.out _)) | (go_at_call 69; with_reducible exact Calls.quiet_of_same (HT1.out _)))
    go_wp2
    go_ret
    exact ⟨rfl, F, m, HW.out.stay (Only.drewN _ _ _), rfl, rfl, rfl⟩
  · have q1 : decide ((9223372036854775807 : Int) ≤ (tp : Int)) = false := decide_eq_false (by omega)
    rw [if_neg c1]
    have ew : IntKind.u64.wrap ((tp : Int) + 1) = ((tp + 1 : Nat) : Int) := by rw [IntKind.wrap_u64]; omega
    obtain ⟨P, hP⟩ : ∃ P, P = beginR s (q.h b) (tp + 1) S := ⟨_, rfl⟩
    rw [← hP]
    obtain ⟨u, hu⟩ : ∃ u, u = tp + 1 := ⟨_, rfl⟩
    rw [← hu] at ew hP
    have hub : u < 18446744073709551616 := by omega
    have HP := hid hP
    have HU := hid hub
    clear hP hu hub
    by_cases c2 : P.e = 0
    · have q2 : (P.e == 0) = true := by rw [beq_iff_eq]; exact c2
      rw [if_pos c2]
      obtain ⟨Y, hY⟩ : ∃ Y, Y = syncR P.s := ⟨_, rfl⟩
      have HY := hid hY
      rw [← hY]
      obtain ⟨ye, hye⟩ : ∃ ye, ye = Y.2 := ⟨_, rfl⟩
      have HYE := hid hye
      rw [← hye]
      clear hY hye
      go_enter Try.func49, Try.ntmps49
      go_wp2_with fail
      go_quiet (first | (go_at_call 69; with_reducible exact Calls.quiet_of_same (HT0.out _)) | (go_at_call 69; with_reducible exact Calls.quiet_of_same (HT1.out _)))
      have HW1 := hid (HW.out.new (Only.drewN [] w nq))
      have hrw := HRW.out nq
      have HSM := hid (fun k (hk : k ∈ F) => (show (w.drewN nq).heap[k]? = w.heap[k]? from rfl))
      clear HT0 HT1 HRW h1 h2 f1 f2
      generalize w.drewN nq = w1 at *
      go_wp2_with fail
      go_at_call 68
      refine hrw.mono ?_
      rintro e w2 ⟨rfl, hb⟩
      have hO2 : Only [] w1 w2 := Only.of_below hb
      have HW2 := hid (HW1.out.new hO2)
      have HSM2 := hid (fun k (hk : k ∈ F) => (hO2.block k ((HW1.out.rw false).dr.lt k hk) (by simp)).trans (HSM.out k hk))
      have hact := Row_Begin (HW2.out.rw b) u S HU.out hm
      rw [← HP.out, HRE.out] at hact
      unfold ptr at hact
      clear hrw hb hO2 HW1 HSM
      go_wp2_with fail
      go_at_call 51
      refine hact.mono ?_
      rintro e w3 ⟨rfl, tv', hwent⟩
      have HG := hid (HW2.out.gone (b := b) (tv' := tv') (r' := P.r) (s' := P.s) (w' := w3) (by rw [HRE.out]; exact hwent))
      have HSM3 := HSM2
      clear hact hwent
      obtain ⟨g0, -, -, -, -, g5, gf⟩ := HG.out.wl.cells
      have gf5 := gf 5
      have hOm : ({ m with v := upd2 m.v b tv' } : WM).O = O := HOE.out
      rw [hOm] at g0 g5 gf5
      clear hOm
      unfold ptr at g0
      clear gf
      have HSY := hid (fun (hd : True) => ((HG.out.wl.rw false).dr.sync (HG.out.wl.rw false).hi))
      have HKEEP : Hid (∀ (w9 : World) (s9 : DS) (q9 : WS), WWent w0 w2 w9 l F (tv'.ownBlock.toList ++ F) i D s9 m { m with v := upd2 m.v b tv' } q9 → WWent w0 w w9 l F (tv'.ownBlock.toList ++ F) i D s9 m { m with v := upd2 m.v b tv' } q9) := fun w9 s9 q9 hh =>
        ⟨hh.wl, hh.sub, fun k hk hn => (hh.same k hk hn).trans (HSM3.out k hk), hh.fresh, hh.obj⟩
      have hsy := HSY.out trivial
      rw [← HY.out, ← HYE.out] at hsy
      unfold ptr at hsy
      clear HSY HSM2 HSM3 HRE
      go_wp2_with fail
      go_at_call 70
      refine hsy.mono ?_
      rintro e w4 ⟨rfl, hd4, hs4⟩
      have HG4 := hid (HG.out.drive hd4 hs4)
      obtain ⟨-, -, -, -, -, y5, yf⟩ := HG4.out.wl.cells
      have yf5 := yf 5
      have hOm : ({ m with v := upd2 m.v b tv' } : WM).O = O := HOE.out
      rw [hOm] at y5 yf5
      clear hsy hd4 hs4 yf hOm g0 g5 gf5
      go_wp2_with fail
      go_ret
      refine ⟨rfl, _, _, HKEEP.out _ _ _ ?_, rfl, rfl, rfl⟩
      have h9 := HG4.out.set (O := O) HOE.out (q2 := { q with h := upd2 q.h b P.r, down := ye == 30 }) 5 (.bool (ye == 30)) rfl rfl rfl
      exact h9
    · have q2 : (P.e == 0) = false := by rw [beq_eq_false_iff_ne]; exact c2
      rw [if_neg c2]
      obtain ⟨ye, hye⟩ : ∃ ye, ye = P.e := ⟨_, rfl⟩
      have HYE := hid hye
      rw [← hye] at q2 c2 ⊢
      clear hye
      go_enter Try.func49, Try.ntmps49
      go_wp2_with fail
      go_quiet (first | (go_at_call 69; with_reducible exact Calls.quiet_of_same (HT0.out _)) | (go_at_call 69; with_reducible exact Calls.quiet_of_same (HT1.out _)))
      have HW1 := hid (HW.out.new (Only.drewN [] w nq))
      have hrw := HRW.out nq
      have HSM := hid (fun k (hk : k ∈ F) => (show (w.drewN nq).heap[k]? = w.heap[k]? from rfl))
      clear HT0 HT1 HRW h1 h2 f1 f2
      generalize w.drewN nq = w1 at *
      go_wp2_with fail
      go_at_call 68
      refine hrw.mono ?_
      rintro e w2 ⟨rfl, hb⟩
      have hO2 : Only [] w1 w2 := Only.of_below hb
      have HW2 := hid (HW1.out.new hO2)
      have HSM2 := hid (fun k (hk : k ∈ F) => (hO2.block k ((HW1.out.rw false).dr.lt k hk) (by simp)).trans (HSM.out k hk))
      have hact := Row_Begin (HW2.out.rw b) u S HU.out hm
      rw [← HP.out, HRE.out, ← HYE.out] at hact
      unfold ptr at hact
      clear hrw hb hO2 HW1 HSM
      go_wp2_with fail
      go_at_call 51
      refine hact.mono ?_
      rintro e w3 ⟨rfl, tv', hwent⟩
      have HG := hid (HW2.out.gone (b := b) (tv' := tv') (r' := P.r) (s' := P.s) (w' := w3) (by rw [HRE.out]; exact hwent))
      have HSM3 := HSM2
      clear hact hwent
      obtain ⟨g0, -, -, -, -, g5, gf⟩ := HG.out.wl.cells
      have gf5 := gf 5
      have hOm : ({ m with v := upd2 m.v b tv' } : WM).O = O := HOE.out
      rw [hOm] at g0 g5 gf5
      clear hOm
      unfold ptr at g0
      clear gf
      have HSY := hid (fun (hd : True) => ((HG.out.wl.rw false).dr.sync (HG.out.wl.rw false).hi))
      have HKEEP : Hid (∀ (w9 : World) (s9 : DS) (q9 : WS), WWent w0 w2 w9 l F (tv'.ownBlock.toList ++ F) i D s9 m { m with v := upd2 m.v b tv' } q9 → WWent w0 w w9 l F (tv'.ownBlock.toList ++ F) i D s9 m { m with v := upd2 m.v b tv' } q9) := fun w9 s9 q9 hh =>
        ⟨hh.wl, hh.sub, fun k hk hn => (hh.same k hk hn).trans (HSM3.out k hk), hh.fresh, hh.obj⟩
      clear HSY HSM2 HSM3 HRE
      go_wp2_with fail
      go_ret
      refine ⟨rfl, _, _, HKEEP.out _ _ _ ?_, rfl, rfl, rfl⟩
      have h9 := HG.out.set (O := O) HOE.out (q2 := { q with h := upd2 q.h b P.r, down := ye == 30 }) 5 (.bool (ye == 30)) rfl rfl rfl
      exact h9
end
end Go.Proofs.Ytnhgakmnkpjpdaa
