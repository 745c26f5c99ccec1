/- Chapter 03: a drive and the document's, side by side; same. -/
import Derived.Test.YtlafanbilodafaaDJ
import Derived.Deep.QuietTactic
import Derived.BigQuiet
set_option linter.unusedVariables false
set_option linter.unusedSimpArgs false
namespace Go.Proofs.Ytlafanbilodafaa
open Go Go.RowKit Go.Proofs.YtlafanbilodafaaW.PrintWords Go.Proofs.YtlafanbilodafaaW.PrintLast Go.Proofs.YtlafanbilodafaaW.PrintMore
attribute [local go_sem] Oper.semAt_some max2_int min2_int max_two min_two max_three min_three max_four min_four
/-- The drive and the document's are one state's. -/
structure Play (w0 wr : World) (D : Nat) (q : QV) (s : DS) : Prop where
  dr : Dr w0 wr [(D, s)] (q.fp s)
  rd : Rd w0.heap.size wr q s
theorem Play.new {w0 w w' : World} {D : Nat} {q : QV} {s : DS} (h : Play w0 w D q s) (ho : Only [] w w') : Play w0 w' D q s :=
  ⟨h.dr.new ho, ⟨h.rd.ob.new ho, h.rd.len, h.rd.secN, h.rd.secS, h.rd.wr, h.rd.fuse⟩⟩
theorem Play.drawn {w0 w : World} {D : Nat} {q : QV} {s : DS} (h : Play w0 w D q s) (n : Nat) : Play w0 (w.drewN n) D q s := h.new ⟨rfl, rfl, rfl, Nat.le_refl _, fun _ _ _ => rfl⟩
theorem Rd.same {base : Nat} {w w' : World} {q : QV} {s : DS} (h : Rd base w q s) (hs : Same (q.fp s) w w') : Rd base w' q s := ⟨h.ob.same hs, h.len, h.secN, h.secS, h.wr, h.fuse⟩
/-- The drive has gone on, then the document's. -/
theorem Play.both {w0 w w' w2 : World} {D : Nat} {q : QV} {s s' : DS} (h : Play w0 w D q s) (hd : Dr w0 w' [(D, s')] (q.fp s)) (hs : Same (q.fp s) w w') (hg : Rd w0.heap.size w' q s → RGoes w0.heap.size w' w2 q s s') : ∃ q', q'.Q = q.Q ∧ Play w0 w2 D q' s' := by
  obtain ⟨q', e, hr, ho, hf⟩ := hg (h.rd.same hs)
  refine ⟨q', e, hd.grow (q.fp s) (q'.fp s') ho (fun k hk => ⟨hk, (h.rd.ob.fp_lt k hk).1⟩) (fun k hk => ?_), hr⟩
  rcases hf k hk with e | e
  · exact .inl e
  · exact .inr ⟨e, (hr.ob.fp_lt k hk).2⟩
theorem Play.size {w0 w : World} {D : Nat} {q : QV} {s : DS} (h : Play w0 w D q s) (n : Nat) : Calls Try.prog 29 #[ptr D] (w.drewN n) fun e w' => e = .returned (.int .i64 s.now.length) ∧ w' = w.drewN n := (h.drawn n).dr.size (i := 0) rfl
theorem Play.pending {w0 w : World} {D : Nat} {q : QV} {s : DS} (h : Play w0 w D q s) (n : Nat) : Calls Try.prog 12 #[ptr D] (w.drewN n) fun e w' => e = .returned (.int .i64 s.opn.length) ∧ w' = w.drewN n := (h.drawn n).dr.pending (i := 0) rfl
set_option maxRecDepth 100000 in
theorem same_calls {w0 w : World} {D : Nat} {q : QV} {s : DS} (h : Play w0 w D q s) :
    Calls Try.prog 20 #[ptr D, ptr q.Q] w fun e w' => e = .returned (.bool true) ∧ ∃ n, w' = w.drewN n := by
  obtain ⟨c0, -, -, c3, -, -⟩ := h.rd.cells
  have hrp := h.rd.rp
  obtain ⟨qQ, vN, vS, vA, vO⟩ := q
  have hlen := h.rd.len
  obtain ⟨gN, cN, rfl⟩ : ∃ g cap, vN = .slice (some ⟨g, 0, none⟩) s.now.length cap := by
    obtain ⟨g, c, e⟩ := hrp.formN (by rw [strC_len]; omega)
    exact ⟨g, c, by rw [strC_len] at e; exact e⟩
  obtain ⟨AO, cO, rfl⟩ : ∃ A c, vO = .slice A s.opn.length c := by
    obtain ⟨A, c, e⟩ := own_cases hrp.ownO
    exact ⟨A, c, by rw [opC_len] at e; exact e⟩
  replace c0 : w.cell? ⟨qQ, 0, none⟩ = some (.slice (some ⟨gN, 0, none⟩) s.now.length cN) := c0
  replace c3 : w.cell? ⟨qQ, 3, none⟩ = some (.slice AO s.opn.length cO) := c3
  have HP := hid h
  have HLEN := hid hlen
  have hnb : s.now.length ≤ 4096 := hlen.2.2
  clear h hrp hlen
  unfold ptr
  go_enter Try.func20, Try.ntmps20
  go_wp2_with fail
  go_quiet ((first | (go_at_call 29; exact Calls.quiet_of_same (HP.out.size _)) | (go_at_call 12; exact Calls.quiet_of_same (HP.out.pending _))))
  go_wp2_with fail
  obtain ⟨W, hW⟩ : ∃ W, W = w.drewN nq := ⟨_, rfl⟩
  have hPW := HP.out.drawn nq
  have hc0 : W.cell? ⟨qQ, 0, none⟩ = some (.slice (some ⟨gN, 0, none⟩) s.now.length cN) := by rw [hW]; exact hPW.rd.cells.1
  rw [← hW] at hPW ⊢
  have HPW := hid hPW
  have HW := hid (show ∃ n, W = w.drewN n from ⟨nq, hW⟩)
  clear c0 c3 hPW hW
  go_loop [5] (fun v => ∃ i : Nat, v = .int .i64 (i : Int) ∧ Aside0 (i ≤ s.now.length)) (fun v => s.now.length - (intOf v).toNat)
  case atStart => exact ⟨0, rfl, ⟨Nat.zero_le _⟩⟩
  case round =>
    obtain ⟨i, rfl, HI⟩ := hrel
    by_cases c : i < s.now.length
    · have d1 : decide ((i : Int) < (s.now.length : Int)) = true := decide_eq_true (by omega)
      have d2 : decide (i < s.now.length) = true := decide_eq_true c
      obtain ⟨v, hv, y0, -⟩ := HPW.out.rd.rp.readN (g := gN) (cap := cN) (by show Value.slice _ s.now.length cN = .slice _ (strC s.now).length cN; rw [strC_len]) (i := i) (by rw [strC_len]; exact c)
      obtain ⟨R, hR⟩ : ∃ R, R = readS s (i : Int) := ⟨_, rfl⟩
      have ev : v = .string R := by
        unfold strC at hv
        rw [List.getElem?_map, List.getElem?_eq_getElem c] at hv
        rw [hR]
        unfold readS
        rw [if_pos (by omega), Int.toNat_natCast, List.getD_eq_getElem?_getD, List.getElem?_eq_getElem c]
        exact (Option.some.inj hv).symm
      subst ev
      have HRR := hid hR
      have HE := hid (show hasE s.now.length (i : Int) = 0 by unfold hasE; rw [if_pos (by omega)])
      have p1 : (0 ≤ (i : Int)) = True := eq_true (by omega)
      have p2 : ((i : Int) < (s.now.length : Int)) = True := eq_true (by omega)
      have hib : (i : Int) ≤ 5000 := by omega
      have C1 := hid c
      clear hv hR c
      go_wp2_with (go_at_call 14; refine (HPW.out.dr.read (i := 0) rfl (i : Int)).mono ?_; rintro e w' ⟨rfl, rfl⟩; rw [HE.out, ← HRR.out])
      go_round
      case rel => exact ⟨i + 1, by go_num, ⟨by have := C1.out; omega⟩⟩
      case measure => simp [intOf]; have := C1.out; omega
    · have d1 : decide ((i : Int) < (s.now.length : Int)) = false := decide_eq_false (by omega)
      have d2 : decide (i < s.now.length) = false := decide_eq_false c
      clear c
      go_wp2_with fail
      go_ret
      exact ⟨rfl, HW.out⟩
end Go.Proofs.Ytlafanbilodafaa
