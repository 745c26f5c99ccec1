import Derived.Test.YtnhgakmnkpjpdaaPY
import Derived.Test.YtnhgakmnkpjpdaaX7
import Derived.Test.YtnhgakmnkpjpdaaD8
import Derived.KernelRfl
/- A log, plain: what a commit and a save leave is the document's. -/
set_option linter.unusedVariables false
set_option linter.unusedSimpArgs false
namespace Go.Proofs.Ytnhgakmnkpjpdaa.Pure
open Go Go.RowKit Go.Proofs.Ytnhgakmnkpjpdaa Go.Proofs.Ytnhgakmnkpjpdaa.Q Go.Proofs.YtnhgakmnkpjpdaaW.PrintWords Go.Proofs.YtnhgakmnkpjpdaaW.PrintLast Go.Proofs.YtnhgakmnkpjpdaaW.PrintMore
theorem openL_first {l : List ByteArray} : ∀ (m : Nat) (st : TS), l.length - st.en ≤ m → (st.first ≤ st.last ∧ (st.first = 0 ↔ st.last = 0)) → ((openL l st).first ≤ (openL l st).last ∧ ((openL l st).first = 0 ↔ (openL l st).last = 0)) := by
  intro m
  induction m with
  | zero =>
    intro st hm h
    cases hg : getP (l.drop st.en) with
    | none => rw [openL_none hg]; exact h
    | some p =>
      have h2 := getP_len (n := p.1) (S := p.2) hg
      rw [List.length_drop] at h2
      omega
  | succ m ih =>
    intro st hm h
    cases hg : getP (l.drop st.en) with
    | none => rw [openL_none hg]; exact h
    | some p =>
      obtain ⟨n, S⟩ := p
      rw [openL_some hg]
      have h2 := getP_len hg
      rw [List.length_drop] at h2
      split
      · rename_i hlt
        refine ih _ (by show l.length - (st.en + nP (txt S)) ≤ m; omega) ?_
        have h0 := (getP_some hg).1
        show (if st.last = 0 then n else st.first) ≤ n ∧ ((if st.last = 0 then n else st.first) = 0 ↔ n = 0)
        split <;> omega
      · exact h
theorem rowT_first (l : List ByteArray) : (rowT l).first ≤ topL l 0 ∧ ((rowT l).first = 0 ↔ (rowT l).en = 0) := by
  have h := openL_first (l := l) _ st0 (Nat.le_refl _) ⟨Nat.le_refl _, fun _ => rfl, fun _ => rfl⟩
  have h2 := rowT_last l
  have h3 := rowT_zero l
  have e : rowT l = openL l st0 := rfl
  rw [← e] at h
  exact ⟨Nat.le_trans h.1 h2, h.2.trans h3.symm⟩
/-! A transaction's text -/
theorem one_rowL (x : List ByteArray) (hx : fine x) : one (B (rowL x)) = some x := by
  obtain ⟨l, rfl⟩ := map_B_ex x
  have h1 := hx.1
  rw [List.length_map] at h1
  have hb := takeR_back l [] (by omega) (fun s hs => by
    have := hx.2 (B s) (List.mem_map_of_mem hs)
    rw [B_size] at this
    omega)
  rw [List.append_nil] at hb
  unfold one resR
  rw [B_data, hb]
  exact if_pos ⟨rfl, rfl⟩
theorem rowL_size (x : List ByteArray) (hx : fine x) : (B (rowL x)).size ≤ 4200 := by
  rw [B_size]
  have := rowL_fine x hx
  omega
/-! What the document's functions do -/
def putD (a b : List ByteArray) (c : Bool) (p st : Nat) (S : ByteArray) : (List ByteArray × List ByteArray) × Int :=
  if (rput (if c = true then b else a) p st S).2 ≠ 0 then ((a, b), (rput (if c = true then b else a) p st S).2) else
  if c = true then ((a, (rput b p st S).1), 0) else (((rput a p st S).1, b), 0)
def saveD (a b x : List ByteArray) : (List ByteArray × List ByteArray) × Int :=
  if 9223372036854775807 ≤ topD a b then ((a, b), 6) else putD a b (!secD a b && decide (0 < (rowT (halfD a b)).first)) 0 (topD a b + 1) (B (rowL x))
def commitD (a b x : List ByteArray) : (List ByteArray × List ByteArray) × Int :=
  if 9223372036854775807 ≤ topD a b then ((a, b), 6) else putD a b (secD a b) (rowT (halfD a b)).en (topD a b + 1) (B (rowL x))
/-- A log's state is what the drive's halves tell. -/
structure LFit (s : DS) (q : WS) (n : Nat) : Prop where
  len : 2 * n ≤ s.now.length
  fuse : s.fuse = none
  f0 : (q.h false).fr = 0 ∧ (q.h false).mn = n
  f1 : (q.h true).fr = n ∧ (q.h true).mn = n
  fit : ∀ b, Fit s (q.h b)
  log : q.log = secD (rowSec s 0 n) (rowSec s n n)
  txns : txD (halfD (rowSec s 0 n) (rowSec s n n)) = some q.txns
  down : q.down = false
theorem LFit.first {s : DS} {q : WS} {n : Nat} (h : LFit s q n) : (q.h false).first = (rowT (rowSec s 0 n)).first ∧ (q.h true).first = (rowT (rowSec s n n)).first := by
  have h0 := (h.fit false).first
  have h1 := (h.fit true).first
  rw [h.f0.1, h.f0.2] at h0
  rw [h.f1.1, h.f1.2] at h1
  exact ⟨h0, h1⟩
theorem LFit.topW {s : DS} {q : WS} {n : Nat} (h : LFit s q n) : topW q = topD (rowSec s 0 n) (rowSec s n n) := by
  have h0 := (h.fit false).top
  have h1 := (h.fit true).top
  rw [h.f0.1, h.f0.2] at h0
  rw [h.f1.1, h.f1.2] at h1
  unfold Go.Proofs.Ytnhgakmnkpjpdaa.topW topD
  rw [h0, h1]
def halfB (a b : List ByteArray) (c : Bool) : List ByteArray := if c = true then b else a
theorem halfD_B (a b : List ByteArray) : halfD a b = halfB a b (secD a b) := rfl
theorem LFit.sec {s : DS} {q : WS} {n : Nat} (h : LFit s q n) (b : Bool) : rowSec s (q.h b).fr (q.h b).mn = halfB (rowSec s 0 n) (rowSec s n n) b := by
  cases b with
  | false => rw [h.f0.1, h.f0.2]; rfl
  | true => rw [h.f1.1, h.f1.2]; rfl
theorem LFit.fsec {s : DS} {q : WS} {n : Nat} (h : LFit s q n) (b : Bool) : (q.h b).first = (rowT (halfB (rowSec s 0 n) (rowSec s n n) b)).first := by
  have := (h.fit b).first
  rwa [h.sec b] at this
theorem LFit.esec {s : DS} {q : WS} {n : Nat} (h : LFit s q n) (b : Bool) : (q.h b).en = (rowT (halfB (rowSec s 0 n) (rowSec s n n) b)).en := by
  have := (h.fit b).en
  rwa [h.sec b] at this
/-- The half of a log that a save is put to. -/
theorem LFit.to {s : DS} {q : WS} {n : Nat} (h : LFit s q n) : (if (q.h q.log).first = 0 then false else !q.log) = (!secD (rowSec s 0 n) (rowSec s n n) && decide (0 < (rowT (halfD (rowSec s 0 n) (rowSec s n n))).first)) := by
  rw [halfD_B, ← h.log, ← h.fsec q.log]
  have h3 := h.log
  unfold secD at h3
  have h0 := h.fsec false
  have h1 := h.fsec true
  have e0 : halfB (rowSec s 0 n) (rowSec s n n) false = rowSec s 0 n := rfl
  have e1 : halfB (rowSec s 0 n) (rowSec s n n) true = rowSec s n n := rfl
  rw [e0] at h0
  rw [e1] at h1
  rw [← h0, ← h1] at h3
  by_cases c : (q.h q.log).first = 0
  · rw [if_pos c, decide_eq_false (show ¬ 0 < (q.h q.log).first by omega), Bool.and_false]
  · rw [if_neg c, decide_eq_true (show 0 < (q.h q.log).first by omega), Bool.and_true]
theorem readS_get (s s' : DS) (k : Nat) (hl : s'.now.length = s.now.length) (h : s'.now[k]? = s.now[k]?) : readS s' ((k : Nat) : Int) = readS s ((k : Nat) : Int) := by
  unfold readS
  rw [hl, Int.toNat_natCast, List.getD_eq_getElem?_getD, List.getD_eq_getElem?_getD, h]
theorem rowSec_same (s s' : DS) (fr mn : Nat) (hl : s'.now.length = s.now.length) (h : ∀ k, fr ≤ k → k < fr + mn → s'.now[k]? = s.now[k]?) : rowSec s' fr mn = rowSec s fr mn := by
  unfold rowSec
  refine List.map_congr_left fun j hj => ?_
  rw [List.mem_range] at hj
  exact readS_get s s' (fr + j) hl (h _ (by omega) (by omega))
theorem Fit.same {s s' : DS} {r : RS} (h : Fit s r) (hl : s'.now.length = s.now.length) (he : rowSec s' r.fr r.mn = rowSec s r.fr r.mn) : Fit s' r :=
  ⟨by rw [hl]; exact h.lay, by rw [he]; exact h.texts, by rw [he]; exact h.first, by rw [he]; exact h.en, by rw [he]; exact h.top, h.down⟩
theorem rowSec_now {s s' : DS} (h : s'.now = s.now) (fr mn : Nat) : rowSec s' fr mn = rowSec s fr mn := rowSec_same s s' fr mn (by rw [h]) (fun k _ _ => by rw [h])
theorem syncR_free (s : DS) (h : s.fuse = none) : syncR s = (syncS s, 0) := by
  unfold syncR
  rw [if_neg (by rw [h]; simp), h]
  show (syncS { s with fuse := none }, (0 : Int)) = _
  cases s
  simp only at h
  subst h
  rfl
/-- What a put of either kind does, put with the sync. -/
structure ActOk (act : DS → RS → Nat → ByteArray → ActR) (at_ : RS → Nat) : Prop where
  is : ∀ {s : DS} {r : RS}, Fit s r → s.fuse = none → ∀ (st : Nat) (S : ByteArray), S.size ≤ 98304 → st < 18446744073709551616 →
    (act s r st S).e = (rput (rowSec s r.fr r.mn) (at_ r) st S).2 ∧ rowSec (act s r st S).s r.fr r.mn = (rput (rowSec s r.fr r.mn) (at_ r) st S).1 ∧ Fit (act s r st S).s (act s r st S).r ∧ (act s r st S).s.fuse = none ∧
    (act s r st S).r.fr = r.fr ∧ (act s r st S).r.mn = r.mn ∧ (act s r st S).s.now.length = s.now.length ∧ (∀ k, k < r.fr ∨ r.fr + r.mn ≤ k → (act s r st S).s.now[k]? = s.now[k]?)
  stay : ∀ {s : DS} {r : RS}, Fit s r → s.fuse = none → ∀ (st : Nat) (S : ByteArray), S.size ≤ 98304 → (act s r st S).e ≠ 0 → (act s r st S).s = s
theorem Fit.en_le {s : DS} {r : RS} (h : Fit s r) : r.en ≤ r.mn := by rw [h.en]; have := (rowT_ok (rowSec s r.fr r.mn)).en; rw [rowSec_len] at this; exact this
theorem add_ok : ActOk addR (fun r => r.en) := ⟨fun h hf st S hS hst => h.add hf st S hS hst, fun {s r} h hf st S hS he => by
  have p8 := (h.put hf r.en st S hS h.en_le).2.2.2.2.2.2.2
  unfold addR at he ⊢
  by_cases c : (putR s r r.en st S).e = 0
  · rw [if_pos c] at he; exact absurd rfl he
  · rw [if_neg c]; exact (p8 c).2⟩
theorem begin_ok : ActOk beginR (fun _ => 0) := ⟨fun h hf st S hS hst => h.begin hf st S hS hst, fun {s r} h hf st S hS he => by
  have p8 := (h.put hf 0 st S hS (Nat.zero_le _)).2.2.2.2.2.2.2
  unfold beginR at he ⊢
  by_cases c : (putR s r 0 st S).e = 0
  · rw [if_pos c] at he; exact absurd rfl he
  · rw [if_neg c]; exact (p8 c).2⟩
theorem begin_r {s : DS} {r : RS} {st : Nat} {S : ByteArray} (h : (beginR s r st S).e = 0) : (beginR s r st S).r.first = st ∧ (beginR s r st S).r.texts = [S] := by
  unfold beginR at h ⊢
  by_cases c : (putR s r 0 st S).e = 0
  · rw [if_pos c]; exact ⟨rfl, rfl⟩
  · rw [if_neg c] at h; exact absurd h c
theorem add_r {s : DS} {r : RS} (hf : Fit s r) (hfu : s.fuse = none) {st : Nat} {S : ByteArray} (hS : S.size ≤ 98304) (h : (addR s r st S).e = 0) : (addR s r st S).r.first = (if r.en = 0 then st else r.first) ∧ (addR s r st S).r.texts = r.texts ++ [S] := by
  have p7 := (hf.put hfu r.en st S hS hf.en_le).2.2.2.2.2.2.1
  unfold addR at h ⊢
  by_cases c : (putR s r r.en st S).e = 0
  · rw [if_pos c, (p7 c).1]; exact ⟨rfl, rfl⟩
  · rw [if_neg c] at h; exact absurd h c
theorem putW_fit {act : DS → RS → Nat → ByteArray → ActR} {at_ : RS → Nat} (ha : ActOk act at_) {s : DS} {q : WS} {n : Nat} (h : LFit s q n) (b : Bool) (S : ByteArray) (hS : S.size ≤ 98304) (ht : ¬ 9223372036854775807 ≤ topW q) :
    (putW act s q b S).e = (putD (rowSec s 0 n) (rowSec s n n) b (at_ (q.h b)) (topD (rowSec s 0 n) (rowSec s n n) + 1) S).2 ∧
    (rowSec (putW act s q b S).s 0 n, rowSec (putW act s q b S).s n n) = (putD (rowSec s 0 n) (rowSec s n n) b (at_ (q.h b)) (topD (rowSec s 0 n) (rowSec s n n) + 1) S).1 ∧
    (putW act s q b S).s.now.length = s.now.length ∧ (putW act s q b S).s.fuse = none ∧
    (∀ c, Fit (putW act s q b S).s ((putW act s q b S).q.h c) ∧ ((putW act s q b S).q.h c).fr = (q.h c).fr ∧ ((putW act s q b S).q.h c).mn = (q.h c).mn) ∧
    (putW act s q b S).q.down = false ∧ halfB (rowSec (putW act s q b S).s 0 n) (rowSec (putW act s q b S).s n n) (!b) = halfB (rowSec s 0 n) (rowSec s n n) (!b) ∧
    ((putW act s q b S).s.opn = [] ∨ (putW act s q b S).s = s) ∧ (putW act s q b S).q.h b = (act s (q.h b) (topW q + 1) S).r ∧ (putW act s q b S).e = (act s (q.h b) (topW q + 1) S).e := by
  obtain ⟨a1, a2, a3, a4, a5, a6, a7, a8⟩ := ha.is (h.fit b) h.fuse (topW q + 1) S hS (by omega)
  have hT := h.topW
  rw [h.sec b] at a1 a2
  have hoth : ∀ c, c ≠ b → rowSec (act s (q.h b) (topW q + 1) S).s (q.h c).fr (q.h c).mn = rowSec s (q.h c).fr (q.h c).mn := fun c hc => by
    refine rowSec_same _ _ _ _ a7 (fun k h1 h2 => a8 k ?_)
    have g0 := h.f0
    have g1 := h.f1
    cases b <;> cases c
    · exact absurd rfl hc
    · rw [g1.1] at h1 h2; rw [g1.2] at h2; rw [g0.1, g0.2]; omega
    · rw [g0.1] at h1 h2; rw [g0.2] at h2; rw [g1.1, g1.2]; omega
    · exact absurd rfl hc
  have hfit : ∀ c, Fit (act s (q.h b) (topW q + 1) S).s (upd2 q.h b (act s (q.h b) (topW q + 1) S).r c) ∧ (upd2 q.h b (act s (q.h b) (topW q + 1) S).r c).fr = (q.h c).fr ∧ (upd2 q.h b (act s (q.h b) (topW q + 1) S).r c).mn = (q.h c).mn := fun c => by
    by_cases hc : c = b
    · rw [hc, upd2_same]; exact ⟨a3, a5, a6⟩
    · rw [upd2_ne _ _ hc]; exact ⟨(h.fit c).same a7 (hoth c hc), rfl, rfl⟩
  have hsec : ∀ c, rowSec (act s (q.h b) (topW q + 1) S).s (q.h c).fr (q.h c).mn = halfB (rowSec (act s (q.h b) (topW q + 1) S).s 0 n) (rowSec (act s (q.h b) (topW q + 1) S).s n n) c := fun c => by
    cases c with
    | false => rw [h.f0.1, h.f0.2]; rfl
    | true => rw [h.f1.1, h.f1.2]; rfl
  rw [hsec b] at a2
  have hno : halfB (rowSec (act s (q.h b) (topW q + 1) S).s 0 n) (rowSec (act s (q.h b) (topW q + 1) S).s n n) (!b) = halfB (rowSec s 0 n) (rowSec s n n) (!b) := by
    rw [← hsec (!b), hoth (!b) (by cases b <;> decide), h.sec]
  have hput : putD (rowSec s 0 n) (rowSec s n n) b (at_ (q.h b)) (topD (rowSec s 0 n) (rowSec s n n) + 1) S = ((rowSec (act s (q.h b) (topW q + 1) S).s 0 n, rowSec (act s (q.h b) (topW q + 1) S).s n n), (act s (q.h b) (topW q + 1) S).e) := by
    unfold putD
    rw [← hT]
    show (if (rput (halfB (rowSec s 0 n) (rowSec s n n) b) (at_ (q.h b)) (topW q + 1) S).2 ≠ 0 then _ else _) = _
    rw [← a1]
    by_cases hz : (act s (q.h b) (topW q + 1) S).e = 0
    · rw [if_neg (by rw [hz]; decide), hz]
      cases b with
      | true =>
        rw [if_pos rfl]
        have e1 : halfB (rowSec s 0 n) (rowSec s n n) true = rowSec s n n := rfl
        rw [e1] at a2
        rw [← a2]
        have e2 : rowSec (act s (q.h true) (topW q + 1) S).s 0 n = rowSec s 0 n := hno
        rw [e2]; rfl
      | false =>
        rw [if_neg (by decide)]
        have e1 : halfB (rowSec s 0 n) (rowSec s n n) false = rowSec s 0 n := rfl
        rw [e1] at a2
        rw [← a2]
        have e2 : rowSec (act s (q.h false) (topW q + 1) S).s n n = rowSec s n n := hno
        rw [e2]; rfl
    · rw [if_pos hz]
      have hsame : (rput (halfB (rowSec s 0 n) (rowSec s n n) b) (at_ (q.h b)) (topW q + 1) S).1 = halfB (rowSec s 0 n) (rowSec s n n) b := by
        rw [a1] at hz
        unfold rput at hz ⊢
        split
        · rfl
        · split
          · rfl
          · rename_i c1 c2
            rw [if_neg c1, if_neg c2] at hz
            exact absurd rfl hz
      rw [hsame] at a2
      cases b with
      | true =>
        have e1 : rowSec (act s (q.h true) (topW q + 1) S).s n n = rowSec s n n := a2
        have e2 : rowSec (act s (q.h true) (topW q + 1) S).s 0 n = rowSec s 0 n := hno
        rw [e1, e2, a1]
        rfl
      | false =>
        have e1 : rowSec (act s (q.h false) (topW q + 1) S).s 0 n = rowSec s 0 n := a2
        have e2 : rowSec (act s (q.h false) (topW q + 1) S).s n n = rowSec s n n := hno
        rw [e1, e2, a1]
        rfl
  rw [hput]
  unfold putW
  rw [if_neg ht]
  by_cases hz : (act s (q.h b) (topW q + 1) S).e = 0
  · rw [if_pos hz, syncR_free _ a4]
    have hnow : (syncS (act s (q.h b) (topW q + 1) S).s).now = (act s (q.h b) (topW q + 1) S).s.now := rfl
    refine ⟨hz.symm, ?_, a7, a4, fun c => ?_, rfl, ?_, .inl rfl, upd2_same _ _ _, hz.symm⟩
    · show (rowSec (syncS _) 0 n, rowSec (syncS _) n n) = _
      rw [rowSec_now hnow, rowSec_now hnow]
    · obtain ⟨g1, g2, g3⟩ := hfit c
      exact ⟨g1.same rfl (rowSec_now hnow _ _), g2, g3⟩
    · show halfB (rowSec (syncS _) 0 n) (rowSec (syncS _) n n) (!b) = _
      rw [rowSec_now hnow, rowSec_now hnow]
      exact hno
  · rw [if_neg hz]
    refine ⟨rfl, rfl, a7, a4, hfit, ?_, hno, .inr (ha.stay (h.fit b) h.fuse _ S hS hz), upd2_same _ _ _, rfl⟩
    show ((act s (q.h b) (topW q + 1) S).e == 30) = false
    rw [a1]
    unfold rput
    split
    · rfl
    · split
      · rfl
      · rfl
/-- What is told behind a call. -/
structure Told (s : DS) (q : WS) (n : Nat) (P : PW) (r : (List ByteArray × List ByteArray) × Int) : Prop where
  e : P.e = r.2
  sec : (rowSec P.s 0 n, rowSec P.s n n) = r.1
  fit : LFit P.s P.q n
  len : P.s.now.length = s.now.length
  opn : P.s.opn = [] ∨ P.s = s
theorem Told.stay {s : DS} {q : WS} {n : Nat} (h : LFit s q n) (e : Int) : Told s q n ⟨s, q, e⟩ ((rowSec s 0 n, rowSec s n n), e) := ⟨rfl, rfl, h, rfl, .inr rfl⟩
theorem parseA_one (x : List ByteArray) (hx : fine x) : parseA [] [B (rowL x)] = some [x] := by
  show (match one (B (rowL x)) with | some x => parseA ([] ++ [x]) [] | none => none) = _
  rw [one_rowL x hx]; rfl
theorem halfB_sec {s : DS} {n : Nat} (c : Bool) (hc : secD (rowSec s 0 n) (rowSec s n n) = c) : halfD (rowSec s 0 n) (rowSec s n n) = halfB (rowSec s 0 n) (rowSec s n n) c := by rw [halfD_B, hc]
theorem secD_B (a b : List ByteArray) (c : Bool) (h : if c = true then (rowT (halfB a b (!c))).first < (rowT (halfB a b c)).first else (rowT (halfB a b (!c))).first ≤ (rowT (halfB a b c)).first) : secD a b = c := by
  unfold secD
  cases c with
  | true => exact decide_eq_true h
  | false => exact decide_eq_false (Nat.not_lt.2 h)
theorem secD_if (a b : List ByteArray) (c : Bool) (h : secD a b = c) : if c = true then (rowT (halfB a b (!c))).first < (rowT (halfB a b c)).first else (rowT (halfB a b (!c))).first ≤ (rowT (halfB a b c)).first := by
  unfold secD at h
  cases c with
  | true => exact of_decide_eq_true h
  | false => exact Nat.not_lt.1 (of_decide_eq_false h)
theorem first_le_topD (a b : List ByteArray) (c : Bool) : (rowT (halfB a b c)).first ≤ topD a b := by
  unfold topD
  cases c with
  | true => exact Nat.le_trans (rowT_first b).1 (Nat.le_max_right _ _)
  | false => exact Nat.le_trans (rowT_first a).1 (Nat.le_max_left _ _)
theorem saveW_told {s : DS} {q : WS} {n : Nat} (h : LFit s q n) (x : List ByteArray) (hx : fine x) : Told s q n (saveW s q x) (saveD (rowSec s 0 n) (rowSec s n n) x) := by
  have hS : (B (rowL x)).size ≤ 98304 := by have := rowL_size x hx; omega
  obtain ⟨b, hb⟩ : ∃ b, (if (q.h q.log).first = 0 then false else !q.log) = b := ⟨_, rfl⟩
  rw [saveW_eq h.down b hb rfl]
  unfold saveD
  rw [← h.to, hb, ← h.topW]
  by_cases ht : 9223372036854775807 ≤ Go.Proofs.Ytnhgakmnkpjpdaa.topW q
  · rw [if_pos ht]
    have e : putW beginR s q b (B (rowL x)) = ⟨s, q, 6⟩ := by unfold putW; rw [if_pos ht]
    rw [e, if_neg (show ¬ ((6 : Int) = 0) by decide)]
    exact Told.stay h 6
  rw [if_neg ht]
  obtain ⟨p1, p2, p3, p4, p5, p6, p7, p8, p9, p10⟩ := putW_fit begin_ok h b (B (rowL x)) hS ht
  rw [← h.topW] at p1 p2
  have hq := putW_log beginR s q b (B (rowL x))
  have hlay : ∀ c, ((putW beginR s q b (B (rowL x))).q.h c).fr = (q.h c).fr ∧ ((putW beginR s q b (B (rowL x))).q.h c).mn = (q.h c).mn := fun c => ⟨(p5 c).2.1, (p5 c).2.2⟩
  have hf0 : ((putW beginR s q b (B (rowL x))).q.h false).fr = 0 ∧ ((putW beginR s q b (B (rowL x))).q.h false).mn = n := ⟨(hlay false).1.trans h.f0.1, (hlay false).2.trans h.f0.2⟩
  have hf1 : ((putW beginR s q b (B (rowL x))).q.h true).fr = n ∧ ((putW beginR s q b (B (rowL x))).q.h true).mn = n := ⟨(hlay true).1.trans h.f1.1, (hlay true).2.trans h.f1.2⟩
  have hsec : ∀ c, rowSec (putW beginR s q b (B (rowL x))).s ((putW beginR s q b (B (rowL x))).q.h c).fr ((putW beginR s q b (B (rowL x))).q.h c).mn = halfB (rowSec (putW beginR s q b (B (rowL x))).s 0 n) (rowSec (putW beginR s q b (B (rowL x))).s n n) c := fun c => by
    cases c with
    | false => rw [hf0.1, hf0.2]; rfl
    | true => rw [hf1.1, hf1.2]; rfl
  have hfr : ∀ c, ((putW beginR s q b (B (rowL x))).q.h c).first = (rowT (halfB (rowSec (putW beginR s q b (B (rowL x))).s 0 n) (rowSec (putW beginR s q b (B (rowL x))).s n n) c)).first := fun c => by
    have := (p5 c).1.first
    rwa [hsec c] at this
  have htx : ∀ c, ((putW beginR s q b (B (rowL x))).q.h c).texts = (rowT (halfB (rowSec (putW beginR s q b (B (rowL x))).s 0 n) (rowSec (putW beginR s q b (B (rowL x))).s n n) c)).texts := fun c => by
    have := (p5 c).1.texts
    rwa [hsec c] at this
  by_cases hz : (putW beginR s q b (B (rowL x))).e = 0
  · rw [if_pos hz]
    have hr := begin_r (p10.symm.trans hz)
    rw [← p9] at hr
    have hlog : secD (rowSec (putW beginR s q b (B (rowL x))).s 0 n) (rowSec (putW beginR s q b (B (rowL x))).s n n) = b := by
      refine secD_B _ _ _ ?_
      rw [p7, ← hfr b, hr.1]
      have h1 := first_le_topD (rowSec s 0 n) (rowSec s n n) (!b)
      rw [← h.topW] at h1
      split <;> omega
    refine ⟨by rw [← p1, hz], p2, ⟨by show 2 * n ≤ (putW beginR s q b (B (rowL x))).s.now.length; rw [p3]; exact h.len, p4, hf0, hf1, fun c => (p5 c).1, hlog.symm, ?_, p6⟩, p3, p8⟩
    show txD (halfD (rowSec (putW beginR s q b (B (rowL x))).s 0 n) (rowSec (putW beginR s q b (B (rowL x))).s n n)) = some [x]
    unfold txD
    rw [halfB_sec b hlog, ← htx b, hr.2]
    exact parseA_one x hx
  · rw [if_neg hz]
    have hsame : (rowSec (putW beginR s q b (B (rowL x))).s 0 n, rowSec (putW beginR s q b (B (rowL x))).s n n) = (rowSec s 0 n, rowSec s n n) := by
      rw [p2]
      rw [p1] at hz
      unfold putD at hz ⊢
      by_cases c : (rput (if b = true then rowSec s n n else rowSec s 0 n) 0 (Go.Proofs.Ytnhgakmnkpjpdaa.topW q + 1) (B (rowL x))).2 ≠ 0
      · rw [if_pos c]
      · rw [if_neg c] at hz
        split at hz <;> exact absurd rfl hz
    obtain ⟨g1, g2⟩ := Prod.mk.inj hsame
    refine ⟨p1, p2, ⟨by rw [p3]; exact h.len, p4, hf0, hf1, fun c => (p5 c).1, by rw [hq.1, g1, g2]; exact h.log, by rw [hq.2, g1, g2]; exact h.txns, p6⟩, p3, p8⟩
theorem commitW_told {s : DS} {q : WS} {n : Nat} (h : LFit s q n) (x : List ByteArray) (hx : fine x) : Told s q n (commitW s q x) (commitD (rowSec s 0 n) (rowSec s n n) x) := by
  have hS : (B (rowL x)).size ≤ 98304 := by have := rowL_size x hx; omega
  by_cases h0 : (q.h q.log).first = 0
  · have e1 : commitW s q x = saveW s q x := by
      unfold commitW
      rw [if_neg (by rw [h.down]; decide), if_pos h0]
    have h2 := h.fsec q.log
    rw [h0] at h2
    have h5 := h.log
    have h3 : secD (rowSec s 0 n) (rowSec s n n) = false := by
      cases hc : secD (rowSec s 0 n) (rowSec s n n) with
      | false => rfl
      | true =>
        have h4 := secD_if _ _ _ hc
        rw [if_pos rfl] at h4
        rw [h5, hc] at h2
        omega
    have h6 : (rowT (halfD (rowSec s 0 n) (rowSec s n n))).first = 0 := by rw [halfD_B, ← h5]; exact h2.symm
    have e2 : commitD (rowSec s 0 n) (rowSec s n n) x = saveD (rowSec s 0 n) (rowSec s n n) x := by
      unfold commitD saveD
      rw [h3, h6, (rowT_first _).2.1 h6]
      rfl
    rw [e1, e2]
    exact saveW_told h x hx
  rw [commitW_eq h.down h0 rfl]
  unfold commitD
  rw [halfD_B, ← h.log, ← h.esec q.log, ← h.topW]
  by_cases ht : 9223372036854775807 ≤ Go.Proofs.Ytnhgakmnkpjpdaa.topW q
  · rw [if_pos ht]
    have e : putW addR s q q.log (B (rowL x)) = ⟨s, q, 6⟩ := by unfold putW; rw [if_pos ht]
    rw [e, if_neg (show ¬ ((6 : Int) = 0) by decide)]
    exact Told.stay h 6
  rw [if_neg ht]
  obtain ⟨b, hb⟩ : ∃ b, q.log = b := ⟨_, rfl⟩
  rw [hb] at h0
  have hlg := h.log
  rw [hb] at hlg ⊢
  obtain ⟨p1, p2, p3, p4, p5, p6, p7, p8, p9, p10⟩ := putW_fit add_ok h b (B (rowL x)) hS ht
  rw [← h.topW] at p1 p2
  have hq := putW_log addR s q b (B (rowL x))
  have hlay : ∀ c, ((putW addR s q b (B (rowL x))).q.h c).fr = (q.h c).fr ∧ ((putW addR s q b (B (rowL x))).q.h c).mn = (q.h c).mn := fun c => ⟨(p5 c).2.1, (p5 c).2.2⟩
  have hf0 : ((putW addR s q b (B (rowL x))).q.h false).fr = 0 ∧ ((putW addR s q b (B (rowL x))).q.h false).mn = n := ⟨(hlay false).1.trans h.f0.1, (hlay false).2.trans h.f0.2⟩
  have hf1 : ((putW addR s q b (B (rowL x))).q.h true).fr = n ∧ ((putW addR s q b (B (rowL x))).q.h true).mn = n := ⟨(hlay true).1.trans h.f1.1, (hlay true).2.trans h.f1.2⟩
  have hsec : ∀ c, rowSec (putW addR s q b (B (rowL x))).s ((putW addR s q b (B (rowL x))).q.h c).fr ((putW addR s q b (B (rowL x))).q.h c).mn = halfB (rowSec (putW addR s q b (B (rowL x))).s 0 n) (rowSec (putW addR s q b (B (rowL x))).s n n) c := fun c => by
    cases c with
    | false => rw [hf0.1, hf0.2]; rfl
    | true => rw [hf1.1, hf1.2]; rfl
  have hfr : ∀ c, ((putW addR s q b (B (rowL x))).q.h c).first = (rowT (halfB (rowSec (putW addR s q b (B (rowL x))).s 0 n) (rowSec (putW addR s q b (B (rowL x))).s n n) c)).first := fun c => by
    have := (p5 c).1.first
    rwa [hsec c] at this
  have htx : ∀ c, ((putW addR s q b (B (rowL x))).q.h c).texts = (rowT (halfB (rowSec (putW addR s q b (B (rowL x))).s 0 n) (rowSec (putW addR s q b (B (rowL x))).s n n) c)).texts := fun c => by
    have := (p5 c).1.texts
    rwa [hsec c] at this
  have hen : ¬ (q.h b).en = 0 := fun e => h0 (by
    have := h.fsec b
    rw [this]
    exact (rowT_first _).2.2 (by rw [← h.esec b]; exact e))
  by_cases hz : (putW addR s q b (B (rowL x))).e = 0
  · rw [if_pos hz]
    have hr := add_r (h.fit b) h.fuse hS (p10.symm.trans hz)
    rw [← p9, if_neg hen] at hr
    have hlog : secD (rowSec (putW addR s q b (B (rowL x))).s 0 n) (rowSec (putW addR s q b (B (rowL x))).s n n) = b := by
      refine secD_B _ _ _ ?_
      rw [p7, ← hfr b, hr.1, h.fsec b]
      exact secD_if _ _ b hlg.symm
    refine ⟨by rw [← p1, hz], p2, ⟨by show 2 * n ≤ (putW addR s q b (B (rowL x))).s.now.length; rw [p3]; exact h.len, p4, hf0, hf1, fun c => (p5 c).1, by show (putW addR s q b (B (rowL x))).q.log = _; rw [hq.1, hlog]; exact hb, ?_, p6⟩, p3, p8⟩
    show txD (halfD (rowSec (putW addR s q b (B (rowL x))).s 0 n) (rowSec (putW addR s q b (B (rowL x))).s n n)) = some ((putW addR s q b (B (rowL x))).q.txns ++ [x])
    have hold := h.txns
    rw [halfD_B, ← hlg] at hold
    unfold txD at hold ⊢
    rw [halfB_sec b hlog, ← htx b, hr.2, parseA_snoc, one_rowL x hx, (h.fit b).texts, h.sec b, hold, hq.2]
    rfl
  · rw [if_neg hz]
    have hsame : (rowSec (putW addR s q b (B (rowL x))).s 0 n, rowSec (putW addR s q b (B (rowL x))).s n n) = (rowSec s 0 n, rowSec s n n) := by
      rw [p2]
      rw [p1] at hz
      unfold putD at hz ⊢
      by_cases c : (rput (if b = true then rowSec s n n else rowSec s 0 n) (q.h b).en (Go.Proofs.Ytnhgakmnkpjpdaa.topW q + 1) (B (rowL x))).2 ≠ 0
      · rw [if_pos c]
      · rw [if_neg c] at hz
        split at hz <;> exact absurd rfl hz
    obtain ⟨g1, g2⟩ := Prod.mk.inj hsame
    refine ⟨p1, p2, ⟨by rw [p3]; exact h.len, p4, hf0, hf1, fun c => (p5 c).1, by rw [hq.1, g1, g2]; exact h.log, by rw [hq.2, g1, g2]; exact h.txns, p6⟩, p3, p8⟩
/-- Opened. -/
theorem openW_fit {s : DS} (hf : s.fuse = none) : match openW s with
    | none => txD (halfD (rowSec s 0 (s.now.length / 2)) (rowSec s (s.now.length / 2) (s.now.length / 2))) = none
    | some q => LFit s q (s.now.length / 2) := by
  have hl : 2 * (s.now.length / 2) ≤ s.now.length := by omega
  have h0 : openH s false = openRS s 0 (s.now.length / 2) := rfl
  have h1 : openH s true = openRS s (s.now.length / 2) (s.now.length / 2) := rfl
  have hlog : logOf (openH s) = secD (rowSec s 0 (s.now.length / 2)) (rowSec s (s.now.length / 2) (s.now.length / 2)) := by
    unfold logOf secD
    rw [h0, h1]; rfl
  have htx : txD (halfD (rowSec s 0 (s.now.length / 2)) (rowSec s (s.now.length / 2) (s.now.length / 2))) = parseA [] (openH s (logOf (openH s))).texts := by
    unfold txD
    rw [halfD_B, ← hlog]
    cases logOf (openH s) with
    | false => rw [h0]; rfl
    | true => rw [h1]; rfl
  unfold openW
  cases hp : parseA [] (openH s (logOf (openH s))).texts with
  | none => rw [Option.map_none]; exact htx.trans hp
  | some L =>
    rw [Option.map_some]
    refine ⟨hl, hf, ⟨rfl, rfl⟩, ⟨rfl, rfl⟩, fun b => ?_, hlog, htx.trans hp, rfl⟩
    cases b with
    | false => exact Fit.opened s 0 _ (by omega)
    | true => exact Fit.opened s _ _ (by omega)
end Go.Proofs.Ytnhgakmnkpjpdaa.Pure

/- A log, plain: its transactions aren't too many, nor too long; what is told is the document's. -/
set_option linter.unusedVariables false
set_option linter.unusedSimpArgs false
namespace Go.Proofs.Ytnhgakmnkpjpdaa.Pure
open Go Go.RowKit Go.Proofs.Ytnhgakmnkpjpdaa Go.Proofs.Ytnhgakmnkpjpdaa.Q Go.Proofs.YtnhgakmnkpjpdaaW.PrintWords Go.Proofs.YtnhgakmnkpjpdaaW.PrintLast Go.Proofs.YtnhgakmnkpjpdaaW.PrintMore
theorem takeM_len (n : Nat) : ∀ (L : List UInt8) (l : List (List UInt8)) (t : List UInt8), takeM n L = some (l, t) → l.length + t.length ≤ L.length := by
  induction n with
  | zero =>
    intro L l t h
    rw [takeM] at h
    obtain ⟨rfl, rfl⟩ := Prod.mk.inj (Option.some.inj h)
    simp
  | succ n ih =>
    intro L l t h
    rw [takeM] at h
    cases ht : takeT L with
    | none => rw [ht] at h; cases h
    | some x =>
      obtain ⟨s, r⟩ := x
      rw [ht] at h
      simp only at h
      cases hm : takeM n r with
      | none => rw [hm] at h; cases h
      | some y =>
        obtain ⟨l', t'⟩ := y
        rw [hm] at h
        obtain ⟨rfl, rfl⟩ := Prod.mk.inj (Option.some.inj h)
        have h1 := ih r l' t' hm
        have h2 := takeT_len ht
        rw [List.length_cons]
        omega
theorem one_len {t : ByteArray} {x : List ByteArray} (h : one t = some x) : x.length ≤ t.size := by
  unfold one at h
  by_cases c : (resR t.data.toList).2.2 = true ∧ (resR t.data.toList).2.1 = B []
  · rw [if_pos c] at h
    have hx := Option.some.inj h
    unfold resR at hx c
    cases hr : takeR t.data.toList with
    | none => rw [hr] at c; cases c.1
    | some y =>
      obtain ⟨l, r⟩ := y
      rw [hr] at hx
      have hl : x.length = l.length := by rw [← hx]; exact List.length_map ..
      unfold takeR at hr
      cases hn : takeN t.data.toList with
      | none => rw [hn] at hr; cases hr
      | some z =>
        obtain ⟨n, r2⟩ := z
        rw [hn] at hr
        have h1 := takeM_len n r2 l r hr
        have h2 := takeN_len hn
        have h3 : t.data.toList.length = t.size := Array.length_toList
        omega
  · rw [if_neg c] at h; cases h
theorem parseA_mem : ∀ (r : List ByteArray) (acc L : List (List ByteArray)), parseA acc r = some L → ∀ x ∈ L, x ∈ acc ∨ ∃ t ∈ r, one t = some x := by
  intro r
  induction r with
  | nil => intro acc L h x hx; cases h; exact .inl hx
  | cons t r ih =>
    intro acc L h x hx
    unfold parseA at h
    cases ho : one t with
    | none => rw [ho] at h; cases h
    | some y =>
      rw [ho] at h
      rcases ih _ _ h x hx with e | ⟨t2, e1, e2⟩
      · rcases List.mem_append.1 e with e | e
        · exact .inl e
        · rw [List.mem_singleton] at e; exact .inr ⟨t, List.mem_cons_self .., by rw [e]; exact ho⟩
      · exact .inr ⟨t2, List.mem_cons_of_mem _ e1, e2⟩
theorem LFit.short {s : DS} {q : WS} {n : Nat} (h : LFit s q n) : q.txns.length ≤ n ∧ ∀ x ∈ q.txns, x.length ≤ 48 * n := by
  have ht := h.txns
  unfold txD at ht
  have hl : (halfD (rowSec s 0 n) (rowSec s n n)).length = n := by
    unfold halfD
    split <;> exact rowSec_len _ _ _
  have hok := rowT_ok (halfD (rowSec s 0 n) (rowSec s n n))
  have h1 := hok.en
  have h2 := hok.texts
  refine ⟨by rw [parseA_len _ _ _ ht, List.length_nil]; omega, fun x hx => ?_⟩
  rcases parseA_mem _ _ _ ht x hx with e | ⟨t, e1, e2⟩
  · cases e
  · have h3 := (rowT_texts _ t e1).2
    have h4 := one_len e2
    rw [hl] at h3
    omega
theorem Told.few {s : DS} {q : WS} {n : Nat} {P : PW} {r : (List ByteArray × List ByteArray) × Int} (h : Told s q n P r) (ho : s.opn.length < 900000) : P.s.opn.length < 900000 := by
  rcases h.opn with e | e
  · rw [e]; decide
  · rw [e]; exact ho
end Go.Proofs.Ytnhgakmnkpjpdaa.Pure

/- A log beside others: more drives, more blocks; a slice that was written out; no drive. -/
set_option maxRecDepth 100000
set_option linter.unusedVariables false
set_option linter.unusedSimpArgs false
namespace Go.Proofs.Ytnhgakmnkpjpdaa
open Go Go.RowKit Go.Proofs.Ytnhgakmnkpjpdaa.Q Go.Proofs.YtnhgakmnkpjpdaaW.PrintWords Go.Proofs.YtnhgakmnkpjpdaaW.PrintLast Go.Proofs.YtnhgakmnkpjpdaaW.PrintMore
attribute [local go_sem] Oper.semAt_some max2_int min2_int max_two min_two max_three min_three max_four min_four
theorem drawn_only {w w' : World} (h : Drawn0 w w') (fp : List Nat) : Only fp w w' := by
  obtain ⟨m, e⟩ := h; rw [e]; exact Only.drewN _ _ _
section
variable {w0 w w' : World} {l l' : List (Nat × DS)} {F F' : List Nat} {i D : Nat} {s : DS} {m : WM} {q : WS}
theorem Wl.wide (h : Wl w0 w l F i D s m q) (hd : Dr w0 w' l' F') (hi : l'[i]? = some (D, s)) (hs : ∀ k ∈ F, w'.heap[k]? = w.heap[k]?) (hsub : ∀ k ∈ F, k ∈ F') : Wl w0 w' l' F' i D s m q :=
  ⟨fun b => ⟨hd, hi, (h.rw b).row.same (fun k hk => hs k ((h.rw b).fp k hk)), fun k hk => hsub k ((h.rw b).fp k hk)⟩, h.ob.same (fun k hk => hs k (h.fpO k (by rw [← own_fp q m]; exact hk))), h.tx.same (fun k hk => hs k (h.fpB k hk)),
    fun k hk => hsub k (h.fpO k hk), fun k hk => hsub k (h.fpB k hk), h.d0, h.d1, h.d2⟩
theorem Wl.dr (h : Wl w0 w l F i D s m q) : Dr w0 w l F := (h.rw false).dr
theorem Wl.hi (h : Wl w0 w l F i D s m q) : l[i]? = some (D, s) := (h.rw false).hi
theorem Wl.fp_lt (h : Wl w0 w l F i D s m q) : ∀ k ∈ m.fp, w0.heap.size ≤ k ∧ k < w.heap.size := fun k hk => by
  rcases List.mem_append.1 hk with e | e
  · exact h.own_lt k e
  · rcases List.mem_append.1 e with e | e
    · exact (h.rw false).row.fp_lt k e
    · exact (h.rw true).row.fp_lt k e
theorem Wl.lit (h : Wl w0 w l F i D s m q) (o : Obj) : Wl w0 (w.alloc o) l ([w.heap.size] ++ F) i D s m q ∧ Far w0 ([w.heap.size] ++ F) m w.heap.size := by
  have hl := (Array.getElem?_eq_some_iff.1 (heap_alloc_new w o)).1
  refine ⟨h.more (Only.alloc [] w o) [w.heap.size] (fun k hk => by rw [List.mem_singleton.1 hk]; exact ⟨Nat.le_refl _, hl⟩), .inr ⟨by simp, fun e => ?_⟩⟩
  have := (h.fp_lt _ e).2
  omega
end
/-- A slice that was written out. -/
theorem lit_own (W : World) (xs : List ByteArray) (hm : xs.length ≤ 4096) : (W.alloc (.cells (strV xs).toArray 9)).ownsRow W.heap.size 9 1 (.slice (some ⟨W.heap.size, 0, none⟩) xs.length xs.length) xs.length (strV xs) := by
  refine ⟨by rw [strV_len, Nat.mul_one], .inr ⟨W.heap.size, xs.length, _, rfl, Nat.le_refl _, heap_alloc_new W _, Nat.le_refl _, by unfold maxLen; omega, by rw [List.size_toArray, strV_len, Nat.mul_one], ?_⟩⟩
  rw [List.toList_toArray, List.take_of_length_le (by rw [strV_len]; omega)]
theorem lit_at (W : World) (xs : List ByteArray) (hm : xs.length ≤ 4096) : StrAt (W.alloc (.cells (strV xs).toArray 9)) [W.heap.size] (.slice (some ⟨W.heap.size, 0, none⟩) xs.length xs.length) xs := StrAt.of_own (lit_own W xs hm)
theorem lit_txs (W : World) (vs : List Value) (B : List Nat) (L : List (List ByteArray)) (ht : Txs 0 W B vs L) (h0 : 0 < L.length) (hm : L.length ≤ 4096) :
    TxV 0 (W.alloc (.cells vs.toArray 22)) (W.heap.size :: B) (.slice (some ⟨W.heap.size, 0, none⟩) L.length L.length) L := by
  have hl := (Array.getElem?_eq_some_iff.1 (heap_alloc_new W (.cells vs.toArray 22))).1
  have ht2 := ht.kept (Only.alloc [] W (.cells vs.toArray 22)) (by simp)
  refine ⟨_, _, vs, rfl, Nat.le_refl _, by omega, ⟨ht2.len, fun j u t hu htt => (ht2.each j u t hu htt).mono (fun k hk => List.mem_cons_of_mem _ hk), fun k hk => ⟨Nat.zero_le _, ?_⟩⟩, fun _ => ⟨_, rfl, List.mem_cons_self .., fun j u hj => ?_⟩⟩
  · rcases List.mem_cons.1 hk with e | e
    · rw [e]; exact hl
    · exact (ht2.lt k e).2
  · have hadd : (⟨W.heap.size, 0, none⟩ : Addr).add j = ⟨W.heap.size, j, none⟩ := by rw [Addr.add_lit, Nat.zero_add]
    rw [hadd, cell_of_row _ _ _ _ _ _ (heap_alloc_new W _)]
    simpa using hj
theorem Same_D {w : World} {b1 b2 : Nat} {B1 B2 : List Nat} {v1 v2 : Value} {L1 L2 : List (List ByteArray)} (h1 : TxV b1 w B1 v1 L1) (h2 : TxV b2 w B2 v2 L2) {r : Bool} {k : Nat} (hr : quittanceref06_Same.f k L1 L2 = some r) :
    Calls Try.prog 13 #[v1, v2] w fun e w' => e = .returned (.bool r) ∧ Only [] w w' := by
  obtain ⟨A1, c1, rfl, hc1, hC1⟩ := h1.C
  obtain ⟨A2, c2, rfl, hc2, hC2⟩ := h2.C
  refine (quittanceref06_Same.calls k A1 c1 L1 A2 c2 L2 r w hC1 hc1 hC2 hc2 hr).mono ?_
  rintro e w2 ⟨rfl, hd⟩
  exact ⟨rfl, drawn_only hd []⟩
/-! No drive -/
theorem ROpen_nil (w : World) (a b : Int) : Calls Try.prog 33 #[.pointer none, .int .i64 a, .int .i64 b] w fun e w' => e = .returned (.tuple #[.pointer none, .int .i64 1]) ∧ w' = w := by
  go_enter Try.func33, Try.ntmps33
  go_wp2_with fail
  go_step3
  go_wp2_with (go_at_call 32; refine (Size_nil _).mono ?_; rintro e w' ⟨rfl, rfl⟩)
  try rw [Exit.noGoto_ret]
  go_ret2
  exact ⟨rfl, rfl⟩
set_option maxHeartbeats 2000000 in
theorem WOpen_nil (w : World) : Calls Try.prog 11 #[.pointer none] w fun e w' => e = .returned (.tuple #[.pointer none, .int .i64 1]) ∧ Only [] w w' := by
  have eq1 : (0 : Int).tdiv 2 = 0 := by decide
  have eq3 : IntKind.i64.wrap (0 : Int) = 0 := by decide
  have eq5 : IntKind.i64.wrap ((0 : Int) * 0) = 0 := by decide
  have e32 : ∀ args w, (callFunc 32 args).run Try.prog w = .ok (.enter 32 args) w := enters_of Try.func32 (by kernel_rfl) rfl
  have e33 : ∀ args w, (callFunc 33 args).run Try.prog w = .ok (.enter 33 args) w := enters_of Try.func33 (by kernel_rfl) rfl
  go_enter Try.func11, Try.ntmps11
  go_wp2_with (go_at_call 32; refine (Size_nil _).mono ?_; rintro e w' ⟨rfl, hw⟩; have hw2 := hw.symm; clear hw; subst hw2)
  go_loopg [20] 2 (fun kx s20 wr => s20 = .int .i64 0 ∧ 2 ≤ kx + 2 ∧ Hid (Only [] w wr))
  case atStart => exact ⟨rfl, by omega, Only.alloc _ _ _⟩
  case round =>
    obtain ⟨rfl, hk, HR⟩ := hrel
    have q1 : decide ((0 : Int) < 2) = true := by decide
    go_wp2_with fail
    go_at_call 33
    refine (ROpen_nil _ _ _).mono ?_
    rintro e w2 ⟨rfl, h2⟩
    have h3 := h2.symm
    clear h2
    subst h3
    go_wp2_with fail
    try rw [Exit.noGoto_ret]
    go_ret2
    exact ⟨rfl, HR.out⟩
end Go.Proofs.Ytnhgakmnkpjpdaa

/- Chapter 06: head's states, plain. -/
set_option maxRecDepth 100000
set_option linter.unusedVariables false
set_option linter.unusedSimpArgs false
namespace Go.Proofs.Ytnhgakmnkpjpdaa
open Go Go.RowKit Go.Proofs.Ytnhgakmnkpjpdaa.Q Go.Proofs.Ytnhgakmnkpjpdaa.Pure Go.Proofs.YtnhgakmnkpjpdaaW.PrintWords Go.Proofs.YtnhgakmnkpjpdaaW.PrintLast Go.Proofs.YtnhgakmnkpjpdaaW.PrintMore
theorem getP_zeros (n : Nat) : getP (List.replicate n zB) = none := by
  cases hg : getP (List.replicate n zB) with
  | none => rfl
  | some p =>
    obtain ⟨b, r, hb, hh⟩ := getP_hd (n := p.1) (S := p.2) hg
    have h0 := (getP_some (n := p.1) (S := p.2) hg).1
    have hm : b ∈ List.replicate n zB := by rw [hb]; simp
    rw [List.eq_of_mem_replicate hm] at hh
    have hz : hd zB = 0 := by kernel_rfl
    omega
theorem rowT_zeros (n : Nat) : rowT (List.replicate n zB) = st0 := by
  show openL _ st0 = _
  exact openL_none (st := st0) (by show getP ((List.replicate n zB).drop 0) = none; rw [List.drop_zero]; exact getP_zeros n)
theorem topL_zeros (n : Nat) : topL (List.replicate n zB) 0 = 0 := by
  have hz : hd zB = 0 := by kernel_rfl
  refine Nat.le_antisymm (topL_le _ 0 0 (Nat.le_refl _) (fun b hb => by rw [List.eq_of_mem_replicate hb, hz]; exact Nat.le_refl _)) (Nat.zero_le _)
theorem rowSec_new (N fr mn : Nat) (h : fr + mn ≤ N) : rowSec (newS N) fr mn = List.replicate mn zB := by
  rw [rowSec_eq _ _ _ (by show _ ≤ (List.replicate N z64).length; rw [List.length_replicate]; exact h)]
  show (((List.replicate N z64).drop fr).take mn).map B = _
  rw [List.drop_replicate, List.take_replicate, List.map_replicate, Nat.min_eq_left (by omega)]
  rfl
theorem openRS_new (N fr mn : Nat) (h : fr + mn ≤ N) : openRS (newS N) fr mn = ⟨fr, mn, [], 0, 0, 0, false⟩ := by
  unfold openRS
  rw [rowSec_new N fr mn h, rowT_zeros, topL_zeros]
  rfl
/-- A blank log. -/
def q0 (n : Nat) : WS := ⟨fun b => cond b ⟨n, n, [], 0, 0, 0, false⟩ ⟨0, n, [], 0, 0, 0, false⟩, false, [], false⟩
theorem openW_new (N : Nat) : openW (newS N) = some (q0 (N / 2)) := by
  have hl : (newS N).now.length = N := List.length_replicate ..
  have hh : openH (newS N) = (q0 (N / 2)).h := by
    funext b
    unfold openH
    rw [hl, openRS_new N _ _ (by omega), openRS_new N _ _ (by omega)]
    cases b <;> rfl
  unfold openW
  rw [hh]
  rfl
theorem fit_agree {s : DS} {q q' : WS} {n : Nat} (h : LFit s q n) (h' : LFit s q' n) : q'.log = q.log ∧ q'.txns = q.txns ∧ ∀ b, (q'.h b).first = (q.h b).first ∧ (q'.h b).en = (q.h b).en ∧ (q'.h b).mn = (q.h b).mn := by
  refine ⟨h'.log.trans h.log.symm, Option.some.inj (h'.txns.symm.trans h.txns), fun b => ⟨(h'.fsec b).trans (h.fsec b).symm, (h'.esec b).trans (h.esec b).symm, ?_⟩⟩
  cases b
  · exact h'.f0.2.trans h.f0.2.symm
  · exact h'.f1.2.trans h.f1.2.symm
theorem openW_some {s : DS} {q : WS} {n : Nat} (h : LFit s q n) (hn : s.now.length / 2 = n) : ∃ q', openW s = some q' ∧ LFit s q' n := by
  have h2 := openW_fit h.fuse
  rw [hn] at h2
  cases ho : openW s with
  | none =>
    rw [ho] at h2
    have h3 : txD (halfD (rowSec s 0 n) (rowSec s n n)) = none := h2
    rw [h.txns] at h3
    cases h3
  | some q' => rw [ho] at h2; exact ⟨q', rfl, h2⟩
def tA : ByteArray := ⟨#[97]⟩
def tB : ByteArray := ⟨#[98]⟩
def tC : ByteArray := ⟨#[99]⟩
def hP1 : PW := commitW (newS 16) (q0 8) [tA, tB]
def hP2 : PW := commitW hP1.s hP1.q []
def hP3 : PW := saveW hP2.s hP2.q [tC]
theorem fine_ab : fine [tA, tB] := ⟨by decide, fun s hs => by
  rcases List.mem_cons.1 hs with e | e
  · rw [e]; decide
  · rw [List.mem_singleton.1 e]; decide⟩
theorem fine_c : fine [tC] := ⟨by decide, fun s hs => by rw [List.mem_singleton.1 hs]; decide⟩
theorem fine_nil : fine [] := ⟨by decide, fun s hs => by cases hs⟩
theorem hFit0 : LFit (newS 16) (q0 8) 8 := by
  have h := openW_fit (s := newS 16) rfl
  rw [openW_new] at h
  exact h
theorem hFit1 : LFit hP1.s hP1.q 8 := (commitW_told hFit0 _ fine_ab).fit
theorem hFit2 : LFit hP2.s hP2.q 8 := (commitW_told hFit1 _ fine_nil).fit
theorem hLen2 : hP2.s.now.length = 16 := ((commitW_told hFit1 _ fine_nil).len.trans (commitW_told hFit0 _ fine_ab).len).trans (List.length_replicate ..)
theorem head_1 : hP1.e = 0 ∧ hP1.q.txns = [[tA, tB]] ∧ (hP1.q.h hP1.q.log).mn - (hP1.q.h hP1.q.log).en = 7 ∧ hP1.s.opn.length = 0 := ⟨by kernel_rfl, by kernel_rfl, by kernel_rfl, by kernel_rfl⟩
theorem head_2 : hP2.e = 0 ∧ hP2.q.txns = [[tA, tB], []] ∧ (hP2.q.h hP2.q.log).mn - (hP2.q.h hP2.q.log).en = 6 ∧ (hP2.q.h hP2.q.log).first = 1 ∧ hP2.s.opn.length = 0 := ⟨by kernel_rfl, by kernel_rfl, by kernel_rfl, by kernel_rfl, by kernel_rfl⟩
theorem head_3 : hP3.e = 0 ∧ hP3.q.txns = [[tC]] ∧ (hP3.q.h hP3.q.log).mn - (hP3.q.h hP3.q.log).en = 7 ∧ (hP3.q.h hP3.q.log).first = 3 := ⟨by kernel_rfl, by kernel_rfl, by kernel_rfl, by kernel_rfl⟩
theorem head_x : ∃ qx, openW hP2.s = some qx ∧ qx.txns = [[tA, tB], []] ∧ (qx.h qx.log).mn - (qx.h qx.log).en = 6 ∧ (qx.h qx.log).first = 1 := by
  obtain ⟨qx, h1, h2⟩ := openW_some hFit2 (by rw [hLen2])
  obtain ⟨a1, a2, a3⟩ := fit_agree hFit2 h2
  obtain ⟨b1, b2, b3⟩ := a3 hP2.q.log
  refine ⟨qx, h1, by rw [a2, head_2.2.1], ?_, ?_⟩
  · rw [a1, b3, b2]; exact head_2.2.2.1
  · rw [a1, b1]; exact head_2.2.2.2.1
end Go.Proofs.Ytnhgakmnkpjpdaa
