import Derived.Test.YtnhgakmnkpjpdaaGreatPY
import Derived.Test.YtnhgakmnkpjpdaaGreatX7
/- A log, plain: what a commit and a save leave is the document's. -/
set_option linter.unusedVariables false
set_option linter.unusedSimpArgs false
namespace Go.Proofs.YtnhgakmnkpjpdaaGreat.Pure
open Go Go.RowKit Go.Proofs.YtnhgakmnkpjpdaaGreat Go.Proofs.YtnhgakmnkpjpdaaGreat.Q Go.Proofs.YtnhgakmnkpjpdaaGreatW.PrintWords Go.Proofs.YtnhgakmnkpjpdaaGreatW.PrintLast Go.Proofs.YtnhgakmnkpjpdaaGreatW.PrintMore
theorem openL_first {l : List ByteArray} : ∀ (m : Nat) (st : TS), l.length - st.en ≤ m → (st.first ≤ st.last ∧ (st.first = 0 ↔ st.last = 0)) → ((openL l st).first ≤ (openL l st).last ∧ ((openL l st).first = 0 ↔ (openL l st).last = 0)) := by
  intro m
  induction m with
  | zero =>
    intro st hm h
    cases hg : getP (l.drop st.en) with
    | none => rw [openL_none hg]; exact h
    | some p =>
      have h2 := getP_len (n := p.1) (S := p.2) hg
      rw [List.length_drop] at h2
      omega
  | succ m ih =>
    intro st hm h
    cases hg : getP (l.drop st.en) with
    | none => rw [openL_none hg]; exact h
    | some p =>
      obtain ⟨n, S⟩ := p
      rw [openL_some hg]
      have h2 := getP_len hg
      rw [List.length_drop] at h2
      split
      · rename_i hlt
        refine ih _ (by show l.length - (st.en + nP (txt S)) ≤ m; omega) ?_
        have h0 := (getP_some hg).1
        show (if st.last = 0 then n else st.first) ≤ n ∧ ((if st.last = 0 then n else st.first) = 0 ↔ n = 0)
        split <;> omega
      · exact h
theorem rowT_first (l : List ByteArray) : (rowT l).first ≤ topL l 0 ∧ ((rowT l).first = 0 ↔ (rowT l).en = 0) := by
  have h := openL_first (l := l) _ st0 (Nat.le_refl _) ⟨Nat.le_refl _, fun _ => rfl, fun _ => rfl⟩
  have h2 := rowT_last l
  have h3 := rowT_zero l
  have e : rowT l = openL l st0 := rfl
  rw [← e] at h
  exact ⟨Nat.le_trans h.1 h2, h.2.trans h3.symm⟩
/-! A transaction's text -/
theorem one_rowL (x : List ByteArray) (hx : fine x) : one (B (rowL x)) = some x := by
  obtain ⟨l, rfl⟩ := map_B_ex x
  have h1 := hx.1
  rw [List.length_map] at h1
  have hb := takeR_back l [] (by omega) (fun s hs => by
    have := hx.2 (B s) (List.mem_map_of_mem hs)
    rw [B_size] at this
    omega)
  rw [List.append_nil] at hb
  unfold one resR
  rw [B_data, hb]
  exact if_pos ⟨rfl, rfl⟩
theorem rowL_size (x : List ByteArray) (hx : fine x) : (B (rowL x)).size ≤ 4200 := by
  rw [B_size]
  have := rowL_fine x hx
  omega
/-! What the document's functions do -/
def putD (a b : List ByteArray) (c : Bool) (p st : Nat) (S : ByteArray) : (List ByteArray × List ByteArray) × Int :=
  if (rput (if c = true then b else a) p st S).2 ≠ 0 then ((a, b), (rput (if c = true then b else a) p st S).2) else
  if c = true then ((a, (rput b p st S).1), 0) else (((rput a p st S).1, b), 0)
def saveD (a b x : List ByteArray) : (List ByteArray × List ByteArray) × Int :=
  if 9223372036854775807 ≤ topD a b then ((a, b), 6) else putD a b (!secD a b && decide (0 < (rowT (halfD a b)).first)) 0 (topD a b + 1) (B (rowL x))
def commitD (a b x : List ByteArray) : (List ByteArray × List ByteArray) × Int :=
  if 9223372036854775807 ≤ topD a b then ((a, b), 6) else putD a b (secD a b) (rowT (halfD a b)).en (topD a b + 1) (B (rowL x))
/-- A log's state is what the drive's halves tell. -/
structure LFit (s : DS) (q : WS) (n : Nat) : Prop where
  len : 2 * n ≤ s.now.length
  fuse : s.fuse = none
  f0 : (q.h false).fr = 0 ∧ (q.h false).mn = n
  f1 : (q.h true).fr = n ∧ (q.h true).mn = n
  fit : ∀ b, Fit s (q.h b)
  log : q.log = secD (rowSec s 0 n) (rowSec s n n)
  txns : txD (halfD (rowSec s 0 n) (rowSec s n n)) = some q.txns
  down : q.down = false
theorem LFit.first {s : DS} {q : WS} {n : Nat} (h : LFit s q n) : (q.h false).first = (rowT (rowSec s 0 n)).first ∧ (q.h true).first = (rowT (rowSec s n n)).first := by
  have h0 := (h.fit false).first
  have h1 := (h.fit true).first
  rw [h.f0.1, h.f0.2] at h0
  rw [h.f1.1, h.f1.2] at h1
  exact ⟨h0, h1⟩
theorem LFit.topW {s : DS} {q : WS} {n : Nat} (h : LFit s q n) : topW q = topD (rowSec s 0 n) (rowSec s n n) := by
  have h0 := (h.fit false).top
  have h1 := (h.fit true).top
  rw [h.f0.1, h.f0.2] at h0
  rw [h.f1.1, h.f1.2] at h1
  unfold Go.Proofs.YtnhgakmnkpjpdaaGreat.topW topD
  rw [h0, h1]
def halfB (a b : List ByteArray) (c : Bool) : List ByteArray := if c = true then b else a
theorem halfD_B (a b : List ByteArray) : halfD a b = halfB a b (secD a b) := rfl
theorem LFit.sec {s : DS} {q : WS} {n : Nat} (h : LFit s q n) (b : Bool) : rowSec s (q.h b).fr (q.h b).mn = halfB (rowSec s 0 n) (rowSec s n n) b := by
  cases b with
  | false => rw [h.f0.1, h.f0.2]; rfl
  | true => rw [h.f1.1, h.f1.2]; rfl
theorem LFit.fsec {s : DS} {q : WS} {n : Nat} (h : LFit s q n) (b : Bool) : (q.h b).first = (rowT (halfB (rowSec s 0 n) (rowSec s n n) b)).first := by
  have := (h.fit b).first
  rwa [h.sec b] at this
theorem LFit.esec {s : DS} {q : WS} {n : Nat} (h : LFit s q n) (b : Bool) : (q.h b).en = (rowT (halfB (rowSec s 0 n) (rowSec s n n) b)).en := by
  have := (h.fit b).en
  rwa [h.sec b] at this
/-- The half of a log that a save is put to. -/
theorem LFit.to {s : DS} {q : WS} {n : Nat} (h : LFit s q n) : (if (q.h q.log).first = 0 then false else !q.log) = (!secD (rowSec s 0 n) (rowSec s n n) && decide (0 < (rowT (halfD (rowSec s 0 n) (rowSec s n n))).first)) := by
  rw [halfD_B, ← h.log, ← h.fsec q.log]
  have h3 := h.log
  unfold secD at h3
  have h0 := h.fsec false
  have h1 := h.fsec true
  have e0 : halfB (rowSec s 0 n) (rowSec s n n) false = rowSec s 0 n := rfl
  have e1 : halfB (rowSec s 0 n) (rowSec s n n) true = rowSec s n n := rfl
  rw [e0] at h0
  rw [e1] at h1
  rw [← h0, ← h1] at h3
  by_cases c : (q.h q.log).first = 0
  · rw [if_pos c, decide_eq_false (show ¬ 0 < (q.h q.log).first by omega), Bool.and_false]
  · rw [if_neg c, decide_eq_true (show 0 < (q.h q.log).first by omega), Bool.and_true]
theorem readS_get (s s' : DS) (k : Nat) (hl : s'.now.length = s.now.length) (h : s'.now[k]? = s.now[k]?) : readS s' ((k : Nat) : Int) = readS s ((k : Nat) : Int) := by
  unfold readS
  rw [hl, Int.toNat_natCast, List.getD_eq_getElem?_getD, List.getD_eq_getElem?_getD, h]
theorem rowSec_same (s s' : DS) (fr mn : Nat) (hl : s'.now.length = s.now.length) (h : ∀ k, fr ≤ k → k < fr + mn → s'.now[k]? = s.now[k]?) : rowSec s' fr mn = rowSec s fr mn := by
  unfold rowSec
  refine List.map_congr_left fun j hj => ?_
  rw [List.mem_range] at hj
  exact readS_get s s' (fr + j) hl (h _ (by omega) (by omega))
theorem Fit.same {s s' : DS} {r : RS} (h : Fit s r) (hl : s'.now.length = s.now.length) (he : rowSec s' r.fr r.mn = rowSec s r.fr r.mn) : Fit s' r :=
  ⟨by rw [hl]; exact h.lay, by rw [he]; exact h.texts, by rw [he]; exact h.first, by rw [he]; exact h.en, by rw [he]; exact h.top, h.down⟩
theorem rowSec_now {s s' : DS} (h : s'.now = s.now) (fr mn : Nat) : rowSec s' fr mn = rowSec s fr mn := rowSec_same s s' fr mn (by rw [h]) (fun k _ _ => by rw [h])
theorem syncR_free (s : DS) (h : s.fuse = none) : syncR s = (syncS s, 0) := by
  unfold syncR
  rw [if_neg (by rw [h]; simp), h]
  show (syncS { s with fuse := none }, (0 : Int)) = _
  cases s
  simp only at h
  subst h
  rfl
/-- What a put of either kind does, put with the sync. -/
structure ActOk (act : DS → RS → Nat → ByteArray → ActR) (at_ : RS → Nat) : Prop where
  is : ∀ {s : DS} {r : RS}, Fit s r → s.fuse = none → ∀ (st : Nat) (S : ByteArray), S.size ≤ 98304 → st < 18446744073709551616 →
    (act s r st S).e = (rput (rowSec s r.fr r.mn) (at_ r) st S).2 ∧ rowSec (act s r st S).s r.fr r.mn = (rput (rowSec s r.fr r.mn) (at_ r) st S).1 ∧ Fit (act s r st S).s (act s r st S).r ∧ (act s r st S).s.fuse = none ∧
    (act s r st S).r.fr = r.fr ∧ (act s r st S).r.mn = r.mn ∧ (act s r st S).s.now.length = s.now.length ∧ (∀ k, k < r.fr ∨ r.fr + r.mn ≤ k → (act s r st S).s.now[k]? = s.now[k]?)
  stay : ∀ {s : DS} {r : RS}, Fit s r → s.fuse = none → ∀ (st : Nat) (S : ByteArray), S.size ≤ 98304 → (act s r st S).e ≠ 0 → (act s r st S).s = s
theorem Fit.en_le {s : DS} {r : RS} (h : Fit s r) : r.en ≤ r.mn := by rw [h.en]; have := (rowT_ok (rowSec s r.fr r.mn)).en; rw [rowSec_len] at this; exact this
theorem add_ok : ActOk addR (fun r => r.en) := ⟨fun h hf st S hS hst => h.add hf st S hS hst, fun {s r} h hf st S hS he => by
  have p8 := (h.put hf r.en st S hS h.en_le).2.2.2.2.2.2.2
  unfold addR at he ⊢
  by_cases c : (putR s r r.en st S).e = 0
  · rw [if_pos c] at he; exact absurd rfl he
  · rw [if_neg c]; exact (p8 c).2⟩
theorem begin_ok : ActOk beginR (fun _ => 0) := ⟨fun h hf st S hS hst => h.begin hf st S hS hst, fun {s r} h hf st S hS he => by
  have p8 := (h.put hf 0 st S hS (Nat.zero_le _)).2.2.2.2.2.2.2
  unfold beginR at he ⊢
  by_cases c : (putR s r 0 st S).e = 0
  · rw [if_pos c] at he; exact absurd rfl he
  · rw [if_neg c]; exact (p8 c).2⟩
theorem begin_r {s : DS} {r : RS} {st : Nat} {S : ByteArray} (h : (beginR s r st S).e = 0) : (beginR s r st S).r.first = st ∧ (beginR s r st S).r.texts = [S] := by
  unfold beginR at h ⊢
  by_cases c : (putR s r 0 st S).e = 0
  · rw [if_pos c]; exact ⟨rfl, rfl⟩
  · rw [if_neg c] at h; exact absurd h c
theorem add_r {s : DS} {r : RS} (hf : Fit s r) (hfu : s.fuse = none) {st : Nat} {S : ByteArray} (hS : S.size ≤ 98304) (h : (addR s r st S).e = 0) : (addR s r st S).r.first = (if r.en = 0 then st else r.first) ∧ (addR s r st S).r.texts = r.texts ++ [S] := by
  have p7 := (hf.put hfu r.en st S hS hf.en_le).2.2.2.2.2.2.1
  unfold addR at h ⊢
  by_cases c : (putR s r r.en st S).e = 0
  · rw [if_pos c, (p7 c).1]; exact ⟨rfl, rfl⟩
  · rw [if_neg c] at h; exact absurd h c
theorem putW_fit {act : DS → RS → Nat → ByteArray → ActR} {at_ : RS → Nat} (ha : ActOk act at_) {s : DS} {q : WS} {n : Nat} (h : LFit s q n) (b : Bool) (S : ByteArray) (hS : S.size ≤ 98304) (ht : ¬ 9223372036854775807 ≤ topW q) :
    (putW act s q b S).e = (putD (rowSec s 0 n) (rowSec s n n) b (at_ (q.h b)) (topD (rowSec s 0 n) (rowSec s n n) + 1) S).2 ∧
    (rowSec (putW act s q b S).s 0 n, rowSec (putW act s q b S).s n n) = (putD (rowSec s 0 n) (rowSec s n n) b (at_ (q.h b)) (topD (rowSec s 0 n) (rowSec s n n) + 1) S).1 ∧
    (putW act s q b S).s.now.length = s.now.length ∧ (putW act s q b S).s.fuse = none ∧
    (∀ c, Fit (putW act s q b S).s ((putW act s q b S).q.h c) ∧ ((putW act s q b S).q.h c).fr = (q.h c).fr ∧ ((putW act s q b S).q.h c).mn = (q.h c).mn) ∧
    (putW act s q b S).q.down = false ∧ halfB (rowSec (putW act s q b S).s 0 n) (rowSec (putW act s q b S).s n n) (!b) = halfB (rowSec s 0 n) (rowSec s n n) (!b) ∧
    ((putW act s q b S).s.opn = [] ∨ (putW act s q b S).s = s) ∧ (putW act s q b S).q.h b = (act s (q.h b) (topW q + 1) S).r ∧ (putW act s q b S).e = (act s (q.h b) (topW q + 1) S).e := by
  obtain ⟨a1, a2, a3, a4, a5, a6, a7, a8⟩ := ha.is (h.fit b) h.fuse (topW q + 1) S hS (by omega)
  have hT := h.topW
  rw [h.sec b] at a1 a2
  have hoth : ∀ c, c ≠ b → rowSec (act s (q.h b) (topW q + 1) S).s (q.h c).fr (q.h c).mn = rowSec s (q.h c).fr (q.h c).mn := fun c hc => by
    refine rowSec_same _ _ _ _ a7 (fun k h1 h2 => a8 k ?_)
    have g0 := h.f0
    have g1 := h.f1
    cases b <;> cases c
    · exact absurd rfl hc
    · rw [g1.1] at h1 h2; rw [g1.2] at h2; rw [g0.1, g0.2]; omega
    · rw [g0.1] at h1 h2; rw [g0.2] at h2; rw [g1.1, g1.2]; omega
    · exact absurd rfl hc
  have hfit : ∀ c, Fit (act s (q.h b) (topW q + 1) S).s (upd2 q.h b (act s (q.h b) (topW q + 1) S).r c) ∧ (upd2 q.h b (act s (q.h b) (topW q + 1) S).r c).fr = (q.h c).fr ∧ (upd2 q.h b (act s (q.h b) (topW q + 1) S).r c).mn = (q.h c).mn := fun c => by
    by_cases hc : c = b
    · rw [hc, upd2_same]; exact ⟨a3, a5, a6⟩
    · rw [upd2_ne _ _ hc]; exact ⟨(h.fit c).same a7 (hoth c hc), rfl, rfl⟩
  have hsec : ∀ c, rowSec (act s (q.h b) (topW q + 1) S).s (q.h c).fr (q.h c).mn = halfB (rowSec (act s (q.h b) (topW q + 1) S).s 0 n) (rowSec (act s (q.h b) (topW q + 1) S).s n n) c := fun c => by
    cases c with
    | false => rw [h.f0.1, h.f0.2]; rfl
    | true => rw [h.f1.1, h.f1.2]; rfl
  rw [hsec b] at a2
  have hno : halfB (rowSec (act s (q.h b) (topW q + 1) S).s 0 n) (rowSec (act s (q.h b) (topW q + 1) S).s n n) (!b) = halfB (rowSec s 0 n) (rowSec s n n) (!b) := by
    rw [← hsec (!b), hoth (!b) (by cases b <;> decide), h.sec]
  have hput : putD (rowSec s 0 n) (rowSec s n n) b (at_ (q.h b)) (topD (rowSec s 0 n) (rowSec s n n) + 1) S = ((rowSec (act s (q.h b) (topW q + 1) S).s 0 n, rowSec (act s (q.h b) (topW q + 1) S).s n n), (act s (q.h b) (topW q + 1) S).e) := by
    unfold putD
    rw [← hT]
    show (if (rput (halfB (rowSec s 0 n) (rowSec s n n) b) (at_ (q.h b)) (topW q + 1) S).2 ≠ 0 then _ else _) = _
    rw [← a1]
    by_cases hz : (act s (q.h b) (topW q + 1) S).e = 0
    · rw [if_neg (by rw [hz]; decide), hz]
      cases b with
      | true =>
        rw [if_pos rfl]
        have e1 : halfB (rowSec s 0 n) (rowSec s n n) true = rowSec s n n := rfl
        rw [e1] at a2
        rw [← a2]
        have e2 : rowSec (act s (q.h true) (topW q + 1) S).s 0 n = rowSec s 0 n := hno
        rw [e2]; rfl
      | false =>
        rw [if_neg (by decide)]
        have e1 : halfB (rowSec s 0 n) (rowSec s n n) false = rowSec s 0 n := rfl
        rw [e1] at a2
        rw [← a2]
        have e2 : rowSec (act s (q.h false) (topW q + 1) S).s n n = rowSec s n n := hno
        rw [e2]; rfl
    · rw [if_pos hz]
      have hsame : (rput (halfB (rowSec s 0 n) (rowSec s n n) b) (at_ (q.h b)) (topW q + 1) S).1 = halfB (rowSec s 0 n) (rowSec s n n) b := by
        rw [a1] at hz
        unfold rput at hz ⊢
        split
        · rfl
        · split
          · rfl
          · rename_i c1 c2
            rw [if_neg c1, if_neg c2] at hz
            exact absurd rfl hz
      rw [hsame] at a2
      cases b with
      | true =>
        have e1 : rowSec (act s (q.h true) (topW q + 1) S).s n n = rowSec s n n := a2
        have e2 : rowSec (act s (q.h true) (topW q + 1) S).s 0 n = rowSec s 0 n := hno
        rw [e1, e2, a1]
        rfl
      | false =>
        have e1 : rowSec (act s (q.h false) (topW q + 1) S).s 0 n = rowSec s 0 n := a2
        have e2 : rowSec (act s (q.h false) (topW q + 1) S).s n n = rowSec s n n := hno
        rw [e1, e2, a1]
        rfl
  rw [hput]
  unfold putW
  rw [if_neg ht]
  by_cases hz : (act s (q.h b) (topW q + 1) S).e = 0
  · rw [if_pos hz, syncR_free _ a4]
    have hnow : (syncS (act s (q.h b) (topW q + 1) S).s).now = (act s (q.h b) (topW q + 1) S).s.now := rfl
    refine ⟨hz.symm, ?_, a7, a4, fun c => ?_, rfl, ?_, .inl rfl, upd2_same _ _ _, hz.symm⟩
    · show (rowSec (syncS _) 0 n, rowSec (syncS _) n n) = _
      rw [rowSec_now hnow, rowSec_now hnow]
    · obtain ⟨g1, g2, g3⟩ := hfit c
      exact ⟨g1.same rfl (rowSec_now hnow _ _), g2, g3⟩
    · show halfB (rowSec (syncS _) 0 n) (rowSec (syncS _) n n) (!b) = _
      rw [rowSec_now hnow, rowSec_now hnow]
      exact hno
  · rw [if_neg hz]
    refine ⟨rfl, rfl, a7, a4, hfit, ?_, hno, .inr (ha.stay (h.fit b) h.fuse _ S hS hz), upd2_same _ _ _, rfl⟩
    show ((act s (q.h b) (topW q + 1) S).e == 30) = false
    rw [a1]
    unfold rput
    split
    · rfl
    · split
      · rfl
      · rfl
/-- What is told behind a call. -/
structure Told (s : DS) (q : WS) (n : Nat) (P : PW) (r : (List ByteArray × List ByteArray) × Int) : Prop where
  e : P.e = r.2
  sec : (rowSec P.s 0 n, rowSec P.s n n) = r.1
  fit : LFit P.s P.q n
  len : P.s.now.length = s.now.length
  opn : P.s.opn = [] ∨ P.s = s
theorem Told.stay {s : DS} {q : WS} {n : Nat} (h : LFit s q n) (e : Int) : Told s q n ⟨s, q, e⟩ ((rowSec s 0 n, rowSec s n n), e) := ⟨rfl, rfl, h, rfl, .inr rfl⟩
theorem parseA_one (x : List ByteArray) (hx : fine x) : parseA [] [B (rowL x)] = some [x] := by
  show (match one (B (rowL x)) with | some x => parseA ([] ++ [x]) [] | none => none) = _
  rw [one_rowL x hx]; rfl
theorem halfB_sec {s : DS} {n : Nat} (c : Bool) (hc : secD (rowSec s 0 n) (rowSec s n n) = c) : halfD (rowSec s 0 n) (rowSec s n n) = halfB (rowSec s 0 n) (rowSec s n n) c := by rw [halfD_B, hc]
theorem secD_B (a b : List ByteArray) (c : Bool) (h : if c = true then (rowT (halfB a b (!c))).first < (rowT (halfB a b c)).first else (rowT (halfB a b (!c))).first ≤ (rowT (halfB a b c)).first) : secD a b = c := by
  unfold secD
  cases c with
  | true => exact decide_eq_true h
  | false => exact decide_eq_false (Nat.not_lt.2 h)
theorem secD_if (a b : List ByteArray) (c : Bool) (h : secD a b = c) : if c = true then (rowT (halfB a b (!c))).first < (rowT (halfB a b c)).first else (rowT (halfB a b (!c))).first ≤ (rowT (halfB a b c)).first := by
  unfold secD at h
  cases c with
  | true => exact of_decide_eq_true h
  | false => exact Nat.not_lt.1 (of_decide_eq_false h)
theorem first_le_topD (a b : List ByteArray) (c : Bool) : (rowT (halfB a b c)).first ≤ topD a b := by
  unfold topD
  cases c with
  | true => exact Nat.le_trans (rowT_first b).1 (Nat.le_max_right _ _)
  | false => exact Nat.le_trans (rowT_first a).1 (Nat.le_max_left _ _)
theorem saveW_told {s : DS} {q : WS} {n : Nat} (h : LFit s q n) (x : List ByteArray) (hx : fine x) : Told s q n (saveW s q x) (saveD (rowSec s 0 n) (rowSec s n n) x) := by
  have hS : (B (rowL x)).size ≤ 98304 := by have := rowL_size x hx; omega
  obtain ⟨b, hb⟩ : ∃ b, (if (q.h q.log).first = 0 then false else !q.log) = b := ⟨_, rfl⟩
  rw [saveW_eq h.down b hb rfl]
  unfold saveD
  rw [← h.to, hb, ← h.topW]
  by_cases ht : 9223372036854775807 ≤ Go.Proofs.YtnhgakmnkpjpdaaGreat.topW q
  · rw [if_pos ht]
    have e : putW beginR s q b (B (rowL x)) = ⟨s, q, 6⟩ := by unfold putW; rw [if_pos ht]
    rw [e, if_neg (show ¬ ((6 : Int) = 0) by decide)]
    exact Told.stay h 6
  rw [if_neg ht]
  obtain ⟨p1, p2, p3, p4, p5, p6, p7, p8, p9, p10⟩ := putW_fit begin_ok h b (B (rowL x)) hS ht
  rw [← h.topW] at p1 p2
  have hq := putW_log beginR s q b (B (rowL x))
  have hlay : ∀ c, ((putW beginR s q b (B (rowL x))).q.h c).fr = (q.h c).fr ∧ ((putW beginR s q b (B (rowL x))).q.h c).mn = (q.h c).mn := fun c => ⟨(p5 c).2.1, (p5 c).2.2⟩
  have hf0 : ((putW beginR s q b (B (rowL x))).q.h false).fr = 0 ∧ ((putW beginR s q b (B (rowL x))).q.h false).mn = n := ⟨(hlay false).1.trans h.f0.1, (hlay false).2.trans h.f0.2⟩
  have hf1 : ((putW beginR s q b (B (rowL x))).q.h true).fr = n ∧ ((putW beginR s q b (B (rowL x))).q.h true).mn = n := ⟨(hlay true).1.trans h.f1.1, (hlay true).2.trans h.f1.2⟩
  have hsec : ∀ c, rowSec (putW beginR s q b (B (rowL x))).s ((putW beginR s q b (B (rowL x))).q.h c).fr ((putW beginR s q b (B (rowL x))).q.h c).mn = halfB (rowSec (putW beginR s q b (B (rowL x))).s 0 n) (rowSec (putW beginR s q b (B (rowL x))).s n n) c := fun c => by
    cases c with
    | false => rw [hf0.1, hf0.2]; rfl
    | true => rw [hf1.1, hf1.2]; rfl
  have hfr : ∀ c, ((putW beginR s q b (B (rowL x))).q.h c).first = (rowT (halfB (rowSec (putW beginR s q b (B (rowL x))).s 0 n) (rowSec (putW beginR s q b (B (rowL x))).s n n) c)).first := fun c => by
    have := (p5 c).1.first
    rwa [hsec c] at this
  have htx : ∀ c, ((putW beginR s q b (B (rowL x))).q.h c).texts = (rowT (halfB (rowSec (putW beginR s q b (B (rowL x))).s 0 n) (rowSec (putW beginR s q b (B (rowL x))).s n n) c)).texts := fun c => by
    have := (p5 c).1.texts
    rwa [hsec c] at this
  by_cases hz : (putW beginR s q b (B (rowL x))).e = 0
  · rw [if_pos hz]
    have hr := begin_r (p10.symm.trans hz)
    rw [← p9] at hr
    have hlog : secD (rowSec (putW beginR s q b (B (rowL x))).s 0 n) (rowSec (putW beginR s q b (B (rowL x))).s n n) = b := by
      refine secD_B _ _ _ ?_
      rw [p7, ← hfr b, hr.1]
      have h1 := first_le_topD (rowSec s 0 n) (rowSec s n n) (!b)
      rw [← h.topW] at h1
      split <;> omega
    refine ⟨by rw [← p1, hz], p2, ⟨by show 2 * n ≤ (putW beginR s q b (B (rowL x))).s.now.length; rw [p3]; exact h.len, p4, hf0, hf1, fun c => (p5 c).1, hlog.symm, ?_, p6⟩, p3, p8⟩
    show txD (halfD (rowSec (putW beginR s q b (B (rowL x))).s 0 n) (rowSec (putW beginR s q b (B (rowL x))).s n n)) = some [x]
    unfold txD
    rw [halfB_sec b hlog, ← htx b, hr.2]
    exact parseA_one x hx
  · rw [if_neg hz]
    have hsame : (rowSec (putW beginR s q b (B (rowL x))).s 0 n, rowSec (putW beginR s q b (B (rowL x))).s n n) = (rowSec s 0 n, rowSec s n n) := by
      rw [p2]
      rw [p1] at hz
      unfold putD at hz ⊢
      by_cases c : (rput (if b = true then rowSec s n n else rowSec s 0 n) 0 (Go.Proofs.YtnhgakmnkpjpdaaGreat.topW q + 1) (B (rowL x))).2 ≠ 0
      · rw [if_pos c]
      · rw [if_neg c] at hz
        split at hz <;> exact absurd rfl hz
    obtain ⟨g1, g2⟩ := Prod.mk.inj hsame
    refine ⟨p1, p2, ⟨by rw [p3]; exact h.len, p4, hf0, hf1, fun c => (p5 c).1, by rw [hq.1, g1, g2]; exact h.log, by rw [hq.2, g1, g2]; exact h.txns, p6⟩, p3, p8⟩
theorem commitW_told {s : DS} {q : WS} {n : Nat} (h : LFit s q n) (x : List ByteArray) (hx : fine x) : Told s q n (commitW s q x) (commitD (rowSec s 0 n) (rowSec s n n) x) := by
  have hS : (B (rowL x)).size ≤ 98304 := by have := rowL_size x hx; omega
  by_cases h0 : (q.h q.log).first = 0
  · have e1 : commitW s q x = saveW s q x := by
      unfold commitW
      rw [if_neg (by rw [h.down]; decide), if_pos h0]
    have h2 := h.fsec q.log
    rw [h0] at h2
    have h5 := h.log
    have h3 : secD (rowSec s 0 n) (rowSec s n n) = false := by
      cases hc : secD (rowSec s 0 n) (rowSec s n n) with
      | false => rfl
      | true =>
        have h4 := secD_if _ _ _ hc
        rw [if_pos rfl] at h4
        rw [h5, hc] at h2
        omega
    have h6 : (rowT (halfD (rowSec s 0 n) (rowSec s n n))).first = 0 := by rw [halfD_B, ← h5]; exact h2.symm
    have e2 : commitD (rowSec s 0 n) (rowSec s n n) x = saveD (rowSec s 0 n) (rowSec s n n) x := by
      unfold commitD saveD
      rw [h3, h6, (rowT_first _).2.1 h6]
      rfl
    rw [e1, e2]
    exact saveW_told h x hx
  rw [commitW_eq h.down h0 rfl]
  unfold commitD
  rw [halfD_B, ← h.log, ← h.esec q.log, ← h.topW]
  by_cases ht : 9223372036854775807 ≤ Go.Proofs.YtnhgakmnkpjpdaaGreat.topW q
  · rw [if_pos ht]
    have e : putW addR s q q.log (B (rowL x)) = ⟨s, q, 6⟩ := by unfold putW; rw [if_pos ht]
    rw [e, if_neg (show ¬ ((6 : Int) = 0) by decide)]
    exact Told.stay h 6
  rw [if_neg ht]
  obtain ⟨b, hb⟩ : ∃ b, q.log = b := ⟨_, rfl⟩
  rw [hb] at h0
  have hlg := h.log
  rw [hb] at hlg ⊢
  obtain ⟨p1, p2, p3, p4, p5, p6, p7, p8, p9, p10⟩ := putW_fit add_ok h b (B (rowL x)) hS ht
  rw [← h.topW] at p1 p2
  have hq := putW_log addR s q b (B (rowL x))
  have hlay : ∀ c, ((putW addR s q b (B (rowL x))).q.h c).fr = (q.h c).fr ∧ ((putW addR s q b (B (rowL x))).q.h c).mn = (q.h c).mn := fun c => ⟨(p5 c).2.1, (p5 c).2.2⟩
  have hf0 : ((putW addR s q b (B (rowL x))).q.h false).fr = 0 ∧ ((putW addR s q b (B (rowL x))).q.h false).mn = n := ⟨(hlay false).1.trans h.f0.1, (hlay false).2.trans h.f0.2⟩
  have hf1 : ((putW addR s q b (B (rowL x))).q.h true).fr = n ∧ ((putW addR s q b (B (rowL x))).q.h true).mn = n := ⟨(hlay true).1.trans h.f1.1, (hlay true).2.trans h.f1.2⟩
  have hsec : ∀ c, rowSec (putW addR s q b (B (rowL x))).s ((putW addR s q b (B (rowL x))).q.h c).fr ((putW addR s q b (B (rowL x))).q.h c).mn = halfB (rowSec (putW addR s q b (B (rowL x))).s 0 n) (rowSec (putW addR s q b (B (rowL x))).s n n) c := fun c => by
    cases c with
    | false => rw [hf0.1, hf0.2]; rfl
    | true => rw [hf1.1, hf1.2]; rfl
  have hfr : ∀ c, ((putW addR s q b (B (rowL x))).q.h c).first = (rowT (halfB (rowSec (putW addR s q b (B (rowL x))).s 0 n) (rowSec (putW addR s q b (B (rowL x))).s n n) c)).first := fun c => by
    have := (p5 c).1.first
    rwa [hsec c] at this
  have htx : ∀ c, ((putW addR s q b (B (rowL x))).q.h c).texts = (rowT (halfB (rowSec (putW addR s q b (B (rowL x))).s 0 n) (rowSec (putW addR s q b (B (rowL x))).s n n) c)).texts := fun c => by
    have := (p5 c).1.texts
    rwa [hsec c] at this
  have hen : ¬ (q.h b).en = 0 := fun e => h0 (by
    have := h.fsec b
    rw [this]
    exact (rowT_first _).2.2 (by rw [← h.esec b]; exact e))
  by_cases hz : (putW addR s q b (B (rowL x))).e = 0
  · rw [if_pos hz]
    have hr := add_r (h.fit b) h.fuse hS (p10.symm.trans hz)
    rw [← p9, if_neg hen] at hr
    have hlog : secD (rowSec (putW addR s q b (B (rowL x))).s 0 n) (rowSec (putW addR s q b (B (rowL x))).s n n) = b := by
      refine secD_B _ _ _ ?_
      rw [p7, ← hfr b, hr.1, h.fsec b]
      exact secD_if _ _ b hlg.symm
    refine ⟨by rw [← p1, hz], p2, ⟨by show 2 * n ≤ (putW addR s q b (B (rowL x))).s.now.length; rw [p3]; exact h.len, p4, hf0, hf1, fun c => (p5 c).1, by show (putW addR s q b (B (rowL x))).q.log = _; rw [hq.1, hlog]; exact hb, ?_, p6⟩, p3, p8⟩
    show txD (halfD (rowSec (putW addR s q b (B (rowL x))).s 0 n) (rowSec (putW addR s q b (B (rowL x))).s n n)) = some ((putW addR s q b (B (rowL x))).q.txns ++ [x])
    have hold := h.txns
    rw [halfD_B, ← hlg] at hold
    unfold txD at hold ⊢
    rw [halfB_sec b hlog, ← htx b, hr.2, parseA_snoc, one_rowL x hx, (h.fit b).texts, h.sec b, hold, hq.2]
    rfl
  · rw [if_neg hz]
    have hsame : (rowSec (putW addR s q b (B (rowL x))).s 0 n, rowSec (putW addR s q b (B (rowL x))).s n n) = (rowSec s 0 n, rowSec s n n) := by
      rw [p2]
      rw [p1] at hz
      unfold putD at hz ⊢
      by_cases c : (rput (if b = true then rowSec s n n else rowSec s 0 n) (q.h b).en (Go.Proofs.YtnhgakmnkpjpdaaGreat.topW q + 1) (B (rowL x))).2 ≠ 0
      · rw [if_pos c]
      · rw [if_neg c] at hz
        split at hz <;> exact absurd rfl hz
    obtain ⟨g1, g2⟩ := Prod.mk.inj hsame
    refine ⟨p1, p2, ⟨by rw [p3]; exact h.len, p4, hf0, hf1, fun c => (p5 c).1, by rw [hq.1, g1, g2]; exact h.log, by rw [hq.2, g1, g2]; exact h.txns, p6⟩, p3, p8⟩
/-- Opened. -/
theorem openW_fit {s : DS} (hf : s.fuse = none) : match openW s with
    | none => txD (halfD (rowSec s 0 (s.now.length / 2)) (rowSec s (s.now.length / 2) (s.now.length / 2))) = none
    | some q => LFit s q (s.now.length / 2) := by
  have hl : 2 * (s.now.length / 2) ≤ s.now.length := by omega
  have h0 : openH s false = openRS s 0 (s.now.length / 2) := rfl
  have h1 : openH s true = openRS s (s.now.length / 2) (s.now.length / 2) := rfl
  have hlog : logOf (openH s) = secD (rowSec s 0 (s.now.length / 2)) (rowSec s (s.now.length / 2) (s.now.length / 2)) := by
    unfold logOf secD
    rw [h0, h1]; rfl
  have htx : txD (halfD (rowSec s 0 (s.now.length / 2)) (rowSec s (s.now.length / 2) (s.now.length / 2))) = parseA [] (openH s (logOf (openH s))).texts := by
    unfold txD
    rw [halfD_B, ← hlog]
    cases logOf (openH s) with
    | false => rw [h0]; rfl
    | true => rw [h1]; rfl
  unfold openW
  cases hp : parseA [] (openH s (logOf (openH s))).texts with
  | none => rw [Option.map_none]; exact htx.trans hp
  | some L =>
    rw [Option.map_some]
    refine ⟨hl, hf, ⟨rfl, rfl⟩, ⟨rfl, rfl⟩, fun b => ?_, hlog, htx.trans hp, rfl⟩
    cases b with
    | false => exact Fit.opened s 0 _ (by omega)
    | true => exact Fit.opened s _ _ (by omega)
end Go.Proofs.YtnhgakmnkpjpdaaGreat.Pure

/- A log, plain: its transactions aren't too many, nor too long; what is told is the document's. -/
set_option linter.unusedVariables false
set_option linter.unusedSimpArgs false
namespace Go.Proofs.YtnhgakmnkpjpdaaGreat.Pure
open Go Go.RowKit Go.Proofs.YtnhgakmnkpjpdaaGreat Go.Proofs.YtnhgakmnkpjpdaaGreat.Q Go.Proofs.YtnhgakmnkpjpdaaGreatW.PrintWords Go.Proofs.YtnhgakmnkpjpdaaGreatW.PrintLast Go.Proofs.YtnhgakmnkpjpdaaGreatW.PrintMore
theorem takeM_len (n : Nat) : ∀ (L : List UInt8) (l : List (List UInt8)) (t : List UInt8), takeM n L = some (l, t) → l.length + t.length ≤ L.length := by
  induction n with
  | zero =>
    intro L l t h
    rw [takeM] at h
    obtain ⟨rfl, rfl⟩ := Prod.mk.inj (Option.some.inj h)
    simp
  | succ n ih =>
    intro L l t h
    rw [takeM] at h
    cases ht : takeT L with
    | none => rw [ht] at h; cases h
    | some x =>
      obtain ⟨s, r⟩ := x
      rw [ht] at h
      simp only at h
      cases hm : takeM n r with
      | none => rw [hm] at h; cases h
      | some y =>
        obtain ⟨l', t'⟩ := y
        rw [hm] at h
        obtain ⟨rfl, rfl⟩ := Prod.mk.inj (Option.some.inj h)
        have h1 := ih r l' t' hm
        have h2 := takeT_len ht
        rw [List.length_cons]
        omega
theorem one_len {t : ByteArray} {x : List ByteArray} (h : one t = some x) : x.length ≤ t.size := by
  unfold one at h
  by_cases c : (resR t.data.toList).2.2 = true ∧ (resR t.data.toList).2.1 = B []
  · rw [if_pos c] at h
    have hx := Option.some.inj h
    unfold resR at hx c
    cases hr : takeR t.data.toList with
    | none => rw [hr] at c; cases c.1
    | some y =>
      obtain ⟨l, r⟩ := y
      rw [hr] at hx
      have hl : x.length = l.length := by rw [← hx]; exact List.length_map ..
      unfold takeR at hr
      cases hn : takeN t.data.toList with
      | none => rw [hn] at hr; cases hr
      | some z =>
        obtain ⟨n, r2⟩ := z
        rw [hn] at hr
        have h1 := takeM_len n r2 l r hr
        have h2 := takeN_len hn
        have h3 : t.data.toList.length = t.size := Array.length_toList
        omega
  · rw [if_neg c] at h; cases h
theorem parseA_mem : ∀ (r : List ByteArray) (acc L : List (List ByteArray)), parseA acc r = some L → ∀ x ∈ L, x ∈ acc ∨ ∃ t ∈ r, one t = some x := by
  intro r
  induction r with
  | nil => intro acc L h x hx; cases h; exact .inl hx
  | cons t r ih =>
    intro acc L h x hx
    unfold parseA at h
    cases ho : one t with
    | none => rw [ho] at h; cases h
    | some y =>
      rw [ho] at h
      rcases ih _ _ h x hx with e | ⟨t2, e1, e2⟩
      · rcases List.mem_append.1 e with e | e
        · exact .inl e
        · rw [List.mem_singleton] at e; exact .inr ⟨t, List.mem_cons_self .., by rw [e]; exact ho⟩
      · exact .inr ⟨t2, List.mem_cons_of_mem _ e1, e2⟩
theorem LFit.short {s : DS} {q : WS} {n : Nat} (h : LFit s q n) : q.txns.length ≤ n ∧ ∀ x ∈ q.txns, x.length ≤ 48 * n := by
  have ht := h.txns
  unfold txD at ht
  have hl : (halfD (rowSec s 0 n) (rowSec s n n)).length = n := by
    unfold halfD
    split <;> exact rowSec_len _ _ _
  have hok := rowT_ok (halfD (rowSec s 0 n) (rowSec s n n))
  have h1 := hok.en
  have h2 := hok.texts
  refine ⟨by rw [parseA_len _ _ _ ht, List.length_nil]; omega, fun x hx => ?_⟩
  rcases parseA_mem _ _ _ ht x hx with e | ⟨t, e1, e2⟩
  · cases e
  · have h3 := (rowT_texts _ t e1).2
    have h4 := one_len e2
    rw [hl] at h3
    omega
/-- The base's stamp, and what room is left. -/
theorem LFit.age {s : DS} {q : WS} {n : Nat} (h : LFit s q n) : (rowT (halfD (rowSec s 0 n) (rowSec s n n))).first = (q.h q.log).first ∧ ((rowSec s 0 n).length : Int) - ((rowT (halfD (rowSec s 0 n) (rowSec s n n))).en : Int) = (((q.h q.log).mn - (q.h q.log).en : Nat) : Int) := by
  rw [halfD_B, ← h.log]
  refine ⟨(h.fsec q.log).symm, ?_⟩
  rw [← h.esec q.log, rowSec_len]
  have h1 := (h.fit q.log).en_le
  have h2 : (q.h q.log).mn = n := by
    cases q.log
    · exact h.f0.2
    · exact h.f1.2
  omega
theorem Told.eq {s : DS} {q : WS} {n : Nat} {P : PW} {r : (List ByteArray × List ByteArray) × Int} (h : Told s q n P r) : r = ((rowSec P.s 0 n, rowSec P.s n n), P.e) := by
  rw [h.sec, h.e]
end Go.Proofs.YtnhgakmnkpjpdaaGreat.Pure
