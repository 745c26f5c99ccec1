/- SheafTorn: leaves of one writing, and its text. -/
import Derived.Test.YtknmbhllinbcjaaPB
import Derived.Test.YtknmbhllinbcjaaQ7a
set_option linter.unusedVariables false
set_option linter.unusedSimpArgs false
namespace Go.Proofs.Ytknmbhllinbcjaa.Pure
open Go Go.RowKit Go.Proofs.Ytknmbhllinbcjaa Go.Proofs.Ytknmbhllinbcjaa.Q Go.Proofs.YtknmbhllinbcjaaW.PrintWords Go.Proofs.YtknmbhllinbcjaaW.PrintLast Go.Proofs.YtknmbhllinbcjaaW.PrintMore
theorem clamp_at (a : Int) : ∃ n : Nat, mn (mx a 0) 64 = (n : Int) ∧ n ≤ 64 := by
  refine ⟨(mn (mx a 0) 64).toNat, ?_, ?_⟩ <;> unfold mn mx <;> (repeat' split) <;> omega
theorem sat_rd (sec : List (List UInt8)) (j : Nat) (hj : j < sec.length) : rdOf ByteArray.empty (sec.map B) (j : Int) = B (sat sec j) := by
  unfold rdOf sat
  rw [Int.toNat_natCast, List.getD_eq_getElem?_getD, List.getElem?_map, List.getElem?_eq_getElem hj, List.getD_eq_getElem?_getD, List.getElem?_eq_getElem hj]
  rfl
theorem at_last (j m : Nat) (hm : 0 < m) (hm2 : m ≤ 9223372036854775807) : ∃ i : Nat, mn (j : Int) (wrap64 ((m : Int) - 1)) = (i : Int) ∧ i < m := by
  rw [wrap64_in' _ (by omega) (by omega)]
  unfold mn
  split
  · exact ⟨m - 1, by omega, by omega⟩
  · exact ⟨j, rfl, by omega⟩
/-- One leaf's beginning over its sector. -/
theorem torn_l2 (k : Nat) (l0 : List S44) (sec : List (List UInt8)) (was : List S46) (i : Int) (s f j : Nat) (S : List UInt8) (b : Bool) (a0 a1 : Int) (At : List Int) (hAt : At.length ≤ 9223372036854775807)
    (hlen : sec.length = 12) (hj : j < nP (txt S)) (hf : f + nP (txt S) ≤ 12) (hL : (sat sec (f + j)).length = 64) :
    ∃ (n : Nat) (b' : Bool), n ≤ 64 ∧ (b' = true → b = true ∧ n = 64) ∧
      quittancelaw04_SheafTorn.l2 (k + 1) l0 (sec.map B) was i (s : Int) (sheafL s S) (f : Int) b (j : Int) a0 a1 (B S) At =
      quittancelaw04_SheafTorn.l2 k l0 ((sec.set (f + j) (torn s (pc (txt S) j) n (sat sec (f + j)))).map B) was i (s : Int) (sheafL s S) (f : Int) b' ((j + 1 : Nat) : Int) a0 a1 (B S) At := by
  have hsl := sheafL_length s S
  have hr := rd_leaf s S [] j hj
  rw [List.append_nil] at hr
  have hx := leafOf_length s (pc (txt S) j) (pc_length _ _)
  have ha := sat_rd sec (f + j) (by omega)
  have hw : wrap64 ((f : Int) + (j : Int)) = ((f + j : Nat) : Int) := by rw [wrap64_in' _ (by omega) (by omega)]; omega
  have hw1 : wrap64 ((j : Int) + 1) = ((j + 1 : Nat) : Int) := by rw [wrap64_in' _ (by omega) (by omega)]; omega
  have hml : (sec.map B).length = 12 := by rw [List.length_map, hlen]
  have hcut : ∀ n : Nat, n ≤ 64 → (sec.map B).set (f + j) ((B (leafOf s (pc (txt S) j))).extract 0 n ++ (B (sat sec (f + j))).extract n 64) = (sec.set (f + j) (torn s (pc (txt S) j) n (sat sec (f + j)))).map B := by
    intro n hn
    rw [List.map_set, B_extract, B_extract, B_append, Nat.sub_zero, List.drop_zero, List.take_of_length_le (l := List.drop n _) (by rw [List.length_drop]; omega)]
    rfl
  have hsz : ∀ n : Nat, n ≤ 64 → ((B (leafOf s (pc (txt S) j))).extract 0 n).size + ((B (sat sec (f + j))).extract n 64).size ≤ 9223372036854775807 := by
    intro n hn
    rw [B_extract, B_extract, B_size, B_size, List.length_take, List.length_take]
    omega
  by_cases hA : (At.length : Int) > 0
  · obtain ⟨q, hq, hql⟩ := at_last j At.length (by omega) hAt
    obtain ⟨n, hn, hn64⟩ := clamp_at (rd At (q : Int))
    refine ⟨n, if b = true then ((n : Int) == 64) else false, hn64, ?_, ?_⟩
    · intro h
      cases b with
      | false => rw [if_neg (by decide)] at h; cases h
      | true => rw [if_pos rfl, beq_iff_eq] at h; exact ⟨rfl, by omega⟩
    · rw [quittancelaw04_SheafTorn.l2, if_pos (by omega), if_pos hA, hq, if_pos (by omega), if_pos (by omega), if_pos (by omega), hr, if_pos (by rw [B_size, hx]; rfl), hn, if_pos (by omega), if_pos (by rw [B_size, hx]; omega), hw, if_pos (by omega), if_pos (by rw [hml]; omega), ha,
        if_pos (by rw [B_size, hL]; omega), Int.toNat_natCast, B_size, hL, if_pos (hsz n hn64), Int.toNat_natCast, hcut n hn64, Option.bind_some, hw1]
      cases b with
      | false => rw [if_neg (by decide), if_neg (by decide)]
      | true => rw [if_pos rfl, if_pos rfl]
  · refine ⟨64, if b = true then ((64 : Int) == 64) else false, Nat.le_refl _, ?_, ?_⟩
    · intro h
      cases b with
      | false => rw [if_neg (by decide)] at h; cases h
      | true => exact ⟨rfl, rfl⟩
    · rw [quittancelaw04_SheafTorn.l2, if_pos (by omega), if_neg hA, if_pos (by omega), hr, if_pos (by rw [B_size, hx]; rfl), if_pos (by decide), if_pos (by rw [B_size, hx]; decide), hw, if_pos (by omega), if_pos (by rw [hml]; omega), ha,
        if_pos (by rw [B_size, hL]; decide), B_size, hL, if_pos (hsz 64 (Nat.le_refl _)), Int.toNat_natCast, hcut 64 (Nat.le_refl _), Option.bind_some, hw1]
      cases b with
      | false => rw [if_neg (by decide), if_neg (by decide)]
      | true => rw [if_pos rfl, if_pos rfl]; rfl
/-- All leaves of a writing. -/
theorem torn_l2s (l0 : List S44) (was : List S46) (i : Int) (s f : Nat) (S : List UInt8) (a0 a1 : Int) (At : List Int) (hAt : At.length ≤ 9223372036854775807) (hf : f + nP (txt S) ≤ 12) (d : Nat) :
    ∀ (k j : Nat) (sec : List (List UInt8)) (b : Bool), j + d = nP (txt S) → sec.length = 12 → (∀ q, q < 12 → (sat sec q).length = 64) →
    ∃ (sec' : List (List UInt8)) (b' : Bool) (nn : Nat → Nat), sec'.length = 12 ∧ (∀ q, nn q ≤ 64) ∧ (b' = true → b = true ∧ ∀ q, f + j ≤ q → q < f + nP (txt S) → nn q = 64) ∧
      (∀ q, q < 12 → sat sec' q = if f + j ≤ q ∧ q < f + nP (txt S) then torn s (pc (txt S) (q - f)) (nn q) (sat sec q) else sat sec q) ∧
      quittancelaw04_SheafTorn.l2 (k + d) l0 (sec.map B) was i (s : Int) (sheafL s S) (f : Int) b (j : Int) a0 a1 (B S) At =
      quittancelaw04_SheafTorn.l2 k l0 (sec'.map B) was i (s : Int) (sheafL s S) (f : Int) b' ((nP (txt S) : Nat) : Int) a0 a1 (B S) At := by
  induction d with
  | zero =>
    intro k j sec b h hlen hg
    have hj : j = nP (txt S) := by omega
    subst hj
    refine ⟨sec, b, fun _ => 64, hlen, fun _ => Nat.le_refl _, fun h => ⟨h, fun _ _ _ => rfl⟩, ?_, rfl⟩
    intro q hq
    rw [if_neg (by omega)]
  | succ d ih =>
    intro k j sec b h hlen hg
    obtain ⟨n, b1, hn, hb1, h1⟩ := torn_l2 (k + d) l0 sec was i s f j S b a0 a1 At hAt hlen (by omega) hf (hg _ (by omega))
    have hlt : f + j < sec.length := by omega
    have hset := fun q => sat_set sec (f + j) q (torn s (pc (txt S) j) n (sat sec (f + j))) hlt
    obtain ⟨sec', b', nn, e1, e2, e3, e4, e5⟩ := ih k (j + 1) (sec.set (f + j) (torn s (pc (txt S) j) n (sat sec (f + j)))) b1 (by omega) (by rw [List.length_set]; exact hlen) (by
      intro q hq
      rw [hset q]
      split
      · exact torn_length (pc_length _ _) (hg _ (by omega)) hn
      · exact hg q hq)
    refine ⟨sec', b', fun q => if q = f + j then n else nn q, e1, ?_, ?_, ?_, ?_⟩
    · intro q; dsimp only; split
      · exact hn
      · exact e2 q
    · intro hb
      obtain ⟨hb2, hb3⟩ := e3 hb
      obtain ⟨hb4, hb5⟩ := hb1 hb2
      refine ⟨hb4, fun q h1 h2 => ?_⟩
      dsimp only
      by_cases hq : q = f + j
      · rw [if_pos hq]; exact hb5
      · rw [if_neg hq]; exact hb3 q (by omega) h2
    · intro q hq
      rw [e4 q hq, hset q]
      dsimp only
      by_cases hqj : q = f + j
      · subst hqj
        rw [if_neg (by omega), if_pos rfl, if_pos (by omega), if_pos rfl, Nat.add_sub_cancel_left]
      · rw [if_neg hqj, if_neg hqj]
        by_cases hc : f + (j + 1) ≤ q ∧ q < f + nP (txt S)
        · rw [if_pos hc, if_pos (by omega)]
        · rw [if_neg hc, if_neg (by omega)]
    · rw [show k + (d + 1) = k + d + 1 by omega, h1, e5]
/-- What stands at each place, looked at. -/
theorem torn_l3 (l0 : List S44) (sec : List (List UInt8)) (was : List S46) (i : Int) (h : Secs sec) (hw : Was sec was) (hwl : was.length ≤ 41) (d : Nat) : ∀ (k q : Nat), q + d = 12 → 100 ≤ k →
    quittancelaw04_SheafTorn.l3 (k + 2 * d + 1) l0 (sec.map B) was i (q : Int) = quittancelaw04_SheafTorn.l1 k l0 (sec.map B) was (wrap64 (i + 1)) := by
  have hl := h.len
  have hml : (sec.map B).length = 12 := by rw [List.length_map, hl]
  induction d with
  | zero =>
    intro k q hq hk
    rw [show k + 2 * 0 + 1 = k + 1 from rfl, quittancelaw04_SheafTorn.l3, if_neg (by rw [hml]; omega)]
  | succ d ih =>
    intro k q hq hk
    have hw1 : wrap64 ((q : Int) + 1) = ((q + 1 : Nat) : Int) := by rw [wrap64_in' _ (by omega) (by omega)]; omega
    have h8 : quittancelaw04_SheafTorn.j8 (k + 2 * d + 1 + 1) l0 (sec.map B) was i (q : Int) false = quittancelaw04_SheafTorn.l1 k l0 (sec.map B) was (wrap64 (i + 1)) := by
      have hg := h.good q (by omega)
      have he : leaf_Ends.f (B (sat sec q)) = some (((headNum (sat sec q) : Nat) : Int), ((footNum (sat sec q) : Nat) : Int)) := by unfold leaf_Ends.f; rw [B_size, B_data, if_pos hg.1]
      rw [quittancelaw04_SheafTorn.j8, if_neg (by decide), if_pos (by omega), if_pos (by rw [hml]; omega), sat_rd sec q (by omega), he, Option.bind_some]
      dsimp only
      rw [if_neg (by omega), hw1]
      exact ih k (q + 1) (by omega) hk
    rw [show k + 2 * (d + 1) + 1 = k + 2 * d + 1 + 1 + 1 by omega, quittancelaw04_SheafTorn.l3, if_pos (by rw [hml]; omega), if_pos (by omega), if_pos (by rw [hml]; omega), Int.toNat_natCast]
    rcases Get_spec ((sec.map B).drop q) with ⟨n, S, h0, hn, hS, hp, hG⟩ | hG
    · obtain ⟨hq12, w, f, S', m1, m2, m3, m4, m5, m6⟩ := get_was h hw h0 hn hS hp
      have hone : quittancelaw04_one.f (k + 2 * d + 1 + 1) was (q : Int) (n : Int) (B S) ((nP (txt S) : Nat) : Int) = some true := by
        have p1 : w.f2 = (n : Int) := by rw [m2]
        have p2 : (q : Int) ≥ w.f0 := by rw [m2]; show (q : Int) ≥ (f : Int); omega
        have p3 : wrap64 ((q : Int) + ((nP (txt S) : Nat) : Int)) ≤ wrap64 (w.f0 + w.f1) := by
          rw [m2]
          show wrap64 ((q : Int) + ((nP (txt S) : Nat) : Int)) ≤ wrap64 ((f : Int) + ((nP (txt S') : Nat) : Int))
          rw [wrap64_in' _ (by omega) (by omega), wrap64_in' _ (by omega) (by omega)]
          omega
        have p4 : (q : Int) = w.f0 → (B S).toList = w.f3.toList := by
          rw [m2]
          intro e
          have e' : (q : Int) = (f : Int) := e
          show (B S).toList = (B S').toList
          rw [m6 (by omega)]
        have p5 : was.length < 9223372036854775807 := by clear p1 p2 p3 p4; omega
        have p6 : was.length < k + 2 * d + 1 + 1 := by clear p1 p2 p3 p4; omega
        exact one_f (k + 2 * d + 1 + 1) was p5 (q : Int) (n : Int) ((nP (txt S) : Nat) : Int) (B S) w m1 p1 p2 p3 p4 p6
      rw [hG, Option.bind_some, if_pos rfl]
      dsimp only
      rw [hone, Option.bind_some]
      exact h8
    · rw [hG, Option.bind_some, if_neg (by decide)]
      exact h8
theorem stamp_eq (t y1 : Nat) (ht : t < 9223372036854775808) (hy : y1 < 65536) : IntKind.u64.wrap ((IntKind.u64.wrap ((t : Int) + 1)) + (IntKind.u64.wrap (y1 : Int))) = ((t + 1 + y1 : Nat) : Int) := by
  rw [u64w ((t : Int) + 1) (by omega) (by omega), u64w (y1 : Int) (by omega) (by omega), u64w _ (by omega) (by omega)]; omega
theorem place_eq (y0 : Nat) (l : List ByteArray) (hl : l.length = 12) (hy : y0 < 256) : Int.tmod (wrap64 (y0 : Int)) (l.length : Int) = ((y0 % 12 : Nat) : Int) := by
  rw [hl, wrap64_in' _ (by omega) (by omega), Int.tmod_eq_emod_of_nonneg (by omega)]; omega
theorem torn_l1 (l0 : List S44) (hl0 : l0.length ≤ 9223372036854775807) (hf : ∀ a, a ∈ l0 → (0 ≤ a.f0 ∧ a.f0 < 256) ∧ (0 ≤ a.f1 ∧ a.f1 < 65536) ∧ a.f3.length ≤ 9223372036854775807) (d : Nat) :
    ∀ (k i : Nat) (sec : List (List UInt8)) (was : List S46), i + d = 40 → was.length ≤ i → Secs sec → Was sec was → 300 + 60 * d ≤ k → quittancelaw04_SheafTorn.l1 k l0 (sec.map B) was (i : Int) = some true := by
  induction d with
  | zero =>
    intro k i sec was hi hwl h hw hk
    obtain ⟨k, rfl⟩ : ∃ m, k = m + 1 + 1 := ⟨k - 2, by omega⟩
    have hd : decide ((i : Int) < 40) = false := decide_eq_false (by omega)
    have hj : quittancelaw04_SheafTorn.j2 (k + 1) l0 (sec.map B) was (i : Int) false = some true := by
      rw [quittancelaw04_SheafTorn.j2, if_neg (by decide), head04 k (by omega)]; rfl
    rw [quittancelaw04_SheafTorn.l1, hd, hj, ite_self]
  | succ d ih =>
    intro k i sec was hi hwl h hw hk
    obtain ⟨k, rfl⟩ : ∃ m, k = m + 1 + 1 := ⟨k - 2, by omega⟩
    have hd : decide ((i : Int) < 40) = true := decide_eq_true (by omega)
    have hl := h.len
    have hml : (sec.map B).length = 12 := by rw [List.length_map, hl]
    have hi1 : wrap64 ((i : Int) + 1) = ((i + 1 : Nat) : Int) := by rw [wrap64_in' _ (by omega) (by omega)]; omega
    rw [quittancelaw04_SheafTorn.l1]
    by_cases hil : (i : Int) < (l0.length : Int)
    · rw [if_pos hil, hd, quittancelaw04_SheafTorn.j2, if_pos rfl, if_pos (by omega), if_pos hil, Top_f k (sec.map B) (by omega) (by omega), Option.bind_some]
      have hmem : rd_T44 l0 (i : Int) ∈ l0 := by
        unfold rd_T44
        rw [Int.toNat_natCast, List.getD_eq_getElem?_getD, List.getElem?_eq_getElem (by omega)]
        exact List.getElem_mem _
      obtain ⟨⟨a0, a1⟩, ⟨a2, a3⟩, a4⟩ := hf _ hmem
      generalize rd_T44 l0 (i : Int) = x at a0 a1 a2 a3 a4
      obtain ⟨x0, x1, x2, x3⟩ := x
      dsimp only at a0 a1 a2 a3 a4 ⊢
      obtain ⟨S, rfl, -⟩ := B_ex x2
      have hbig : ∀ b : Bool, (b = false → topL (sec.map B) 0 < 9223372036854775808 ∧ S.length ≤ 400) → quittancelaw04_SheafTorn.j3 k l0 (sec.map B) was (i : Int) ((topL (sec.map B) 0 : Nat) : Int) b x0 x1 (B S) x3 = some true := by
        intro b hb
        obtain ⟨k, rfl⟩ : ∃ m, k = m + 1 := ⟨k - 1, by omega⟩
        cases b with
        | true => rw [quittancelaw04_SheafTorn.j3, if_pos rfl, head04 k (by omega)]; rfl
        | false =>
        obtain ⟨ht, hS⟩ := hb rfl
        obtain ⟨t, htt⟩ : ∃ t, t = topL (sec.map B) 0 := ⟨_, rfl⟩
        have hhead := fun q hq => head_top h q hq
        rw [← htt] at ht hhead ⊢
        obtain ⟨y1, rfl⟩ := Int.eq_ofNat_of_zero_le a2
        obtain ⟨y0, rfl⟩ := Int.eq_ofNat_of_zero_le a0
        have es := stamp_eq t y1 (by omega) (by omega)
        have em := place_eq y0 (sec.map B) hml (by omega)
        have em' := Aside0.mk em
        clear em
        obtain ⟨s, hs⟩ : ∃ s, s = t + 1 + y1 := ⟨_, rfl⟩
        have hs0 : s ≠ 0 := by omega
        have hs1 : s < 18446744073709551616 := by omega
        have hgt : ∀ q, q < 12 → headNum (sat sec q) < s := fun q hq => by have := hhead q hq; omega
        rw [← hs] at es
        have es' := Aside0.mk es
        clear es
        obtain ⟨f, hfe⟩ : ∃ f, f = y0 % 12 := ⟨_, rfl⟩
        have hf12 : f < 12 := by rw [hfe]; exact Nat.mod_lt _ (by decide)
        have em := em'.out
        rw [← hfe] at em
        clear em'
        have em' := Aside0.mk em
        clear em
        have hsl := sheafL_length s S
        have hple := nP_le S (by omega)
        rw [quittancelaw04_SheafTorn.j3, if_neg (by decide), es'.out, Put_f s S hs0 hs1 (by omega), Option.bind_some]
        dsimp only
        rw [if_neg (by rw [hml]; decide), if_pos rfl, em'.out, wrap64_in' _ (by omega) (by omega)]
        obtain ⟨k, rfl⟩ : ∃ m, k = m + 1 := ⟨k - 1, by omega⟩
        by_cases hfit : f + nP (txt S) ≤ 12
        · rw [show decide (((f : Int) + ((sheafL s S).length : Int)) > ((sec.map B).length : Int)) = false from decide_eq_false (by rw [hml, hsl]; omega), quittancelaw04_SheafTorn.j4, if_neg (by decide)]
          obtain ⟨k, rfl⟩ : ∃ m, k = m + 1 + nP (txt S) := ⟨k - 1 - nP (txt S), by omega⟩
          obtain ⟨sec', b', nn, e1, e2, e3, e4, e5⟩ := torn_l2s l0 was (i : Int) s f S (y0 : Int) (y1 : Int) x3 a4 hfit (nP (txt S)) (k + 1) 0 sec true (by omega) hl (fun q hq => (h.good q hq).1)
          rw [show ((0 : Nat) : Int) = 0 from rfl] at e5
          have e4' : ∀ q, q < 12 → sat sec' q = if f ≤ q ∧ q < f + nP (txt S) then torn s (pc (txt S) (q - f)) (nn q) (sat sec q) else sat sec q := fun q hq => by
            have := e4 q hq
            rw [Nat.add_zero] at this
            exact this
          obtain ⟨h', hw'⟩ := was_step h hw hs1 hS hfit hgt e1 e2 e4'
          have hml' : (sec'.map B).length = 12 := by rw [List.length_map, e1]
          have hend : ∀ b, b = false → quittancelaw04_SheafTorn.j6 k l0 (sec'.map B) (was ++ [(⟨(f : Int), ((nP (txt S) : Nat) : Int), (s : Int), B S⟩ : S46)]) (i : Int) b = some true := by
            intro b hb
            subst hb
            obtain ⟨k, rfl⟩ : ∃ m, k = (m + 2 * 12 + 1) + 1 := ⟨k - 26, by omega⟩
            have h3 := torn_l3 l0 sec' _ (i : Int) h' hw' (by rw [List.length_append, List.length_singleton]; omega) 12 k 0 rfl (by omega)
            rw [quittancelaw04_SheafTorn.j6, if_neg (by decide)]
            refine h3.trans ?_
            rw [hi1]
            exact ih k (i + 1) sec' _ (by omega) (by rw [List.length_append, List.length_singleton]; omega) h' hw' (by omega)
          rw [e5, quittancelaw04_SheafTorn.l2, if_neg (by rw [hsl]; omega), if_pos (by omega), Option.bind_some, if_pos (by omega), if_pos (by rw [hml']; omega), Int.toNat_natCast, hsl]
          cases b' with
          | false =>
            obtain ⟨r, hr⟩ : ∃ r, sheaf_Get.f ((sec'.map B).drop f) = some r := by
              rcases Get_spec ((sec'.map B).drop f) with ⟨_, _, _, _, _, _, h⟩ | h
              · exact ⟨_, h⟩
              · exact ⟨_, h⟩
            rw [hr, Option.bind_some, if_neg (by decide)]
            exact hend false rfl
          | true =>
            have hpre : sheafL s S <+: (sec'.map B).drop f := whole_prefix e1 hfit (fun q hq1 hq2 => by
              rw [e4' q (by omega), if_pos ⟨hq1, hq2⟩]
              exact (torn_valid (pc_length _ _) hs1 (e2 q) (h.good q (by omega)).1 (h.good q (by omega)).2 (hgt q (by omega))).2.2.2 ((e3 rfl).2 q (by omega) hq2))
            rw [Get_back s S _ hs0 hs1 (by omega) hpre, Option.bind_some, if_pos rfl]
            dsimp only
            rw [if_pos rfl, if_pos rfl, if_pos rfl]
            exact hend _ (by simp)
        · rw [show decide (((f : Int) + ((sheafL s S).length : Int)) > ((sec.map B).length : Int)) = true from decide_eq_true (by rw [hml, hsl]; omega), quittancelaw04_SheafTorn.j4, if_pos rfl, if_pos rfl, hi1]
          exact ih k (i + 1) sec was (by omega) (by omega) h hw (by omega)
      by_cases ht : ((topL (sec.map B) 0 : Nat) : Int) ≥ 9223372036854775808
      · rw [if_pos ht]; exact hbig true (fun h => by cases h)
      · rw [if_neg ht]
        exact hbig _ (fun h => ⟨by omega, by have := of_decide_eq_false h; rw [B_size] at this; omega⟩)
    · rw [if_neg hil, quittancelaw04_SheafTorn.j2, if_neg (by decide), head04 k (by omega)]
      rfl
def z64' : List UInt8 := List.replicate 64 0
theorem torn_l0 (l0 : List S44) (d : Nat) : ∀ (k j : Nat) (X : List ByteArray), j + d = 12 → X.length = 12 → (∀ q, q < j → X[q]? = some (B z64')) →
    quittancelaw04_SheafTorn.l0 (k + d + 1) l0 X (j : Int) = quittancelaw04_SheafTorn.l1 k l0 ((List.replicate 12 z64').map B) [] 0 := by
  induction d with
  | zero =>
    intro k j X hj hX hg
    have e : X = (List.replicate 12 z64').map B := by
      apply List.ext_getElem?
      intro q
      rw [List.map_replicate, List.getElem?_replicate]
      by_cases hq : q < 12
      · rw [if_pos hq, hg q (by omega)]
      · rw [if_neg hq, List.getElem?_eq_none (by omega)]
    rw [show k + 0 + 1 = k + 1 from rfl, quittancelaw04_SheafTorn.l0, if_neg (by rw [hX]; omega), e]
  | succ d ih =>
    intro k j X hj hX hg
    have hw1 : wrap64 ((j : Int) + 1) = ((j + 1 : Nat) : Int) := by rw [wrap64_in' _ (by omega) (by omega)]; omega
    have hz : strOfNums (List.replicate 64 0) = B z64' := by rfl
    rw [show k + (d + 1) + 1 = k + d + 1 + 1 by omega, quittancelaw04_SheafTorn.l0, if_pos (by rw [hX]; omega), if_pos (by decide), if_pos (by omega), hw1, Int.toNat_natCast, hz]
    refine ih k (j + 1) _ (by omega) (by rw [List.length_set]; exact hX) ?_
    intro q hq
    rw [List.getElem?_set]
    by_cases h : j = q
    · rw [if_pos h, if_pos (by omega)]
    · rw [if_neg h]; exact hg q (by omega)
theorem secs_zero : Secs (List.replicate 12 z64') ∧ Was (List.replicate 12 z64') [] := by
  have hs : ∀ i, i < 12 → sat (List.replicate 12 z64') i = z64' := by
    intro i hi
    unfold sat
    rw [List.getD_eq_getElem?_getD, List.getElem?_replicate, if_pos hi]
    rfl
  have h1 : headNum z64' = 0 := by rfl
  have h2 : footNum z64' = 0 := by rfl
  refine ⟨⟨by rw [List.length_replicate], fun i hi => ?_⟩, ?_⟩
  · rw [hs i hi, h1, h2]
    exact ⟨by unfold z64'; rw [List.length_replicate], Nat.le_refl _⟩
  · intro n i hn hi hv
    rw [hs i hi] at hv
    exact absurd (hv.2.1.symm.trans h1) hn
theorem SheafTorn (l0 : List S44) (hl0 : l0.length ≤ 9223372036854775807) (hf : ∀ a, a ∈ l0 → (0 ≤ a.f0 ∧ a.f0 < 256) ∧ (0 ≤ a.f1 ∧ a.f1 < 65536) ∧ a.f3.length ≤ 9223372036854775807) : quittancelaw04_SheafTorn.f 4000 l0 = some true := by
  unfold quittancelaw04_SheafTorn.f
  rw [if_pos (by decide)]
  obtain ⟨h1, h2⟩ := secs_zero
  have h := torn_l0 l0 12 3987 0 (List.replicate 12 (⟨#[]⟩ : ByteArray)) rfl (by rw [List.length_replicate]) (fun q hq => by omega)
  refine h.trans ?_
  exact torn_l1 l0 hl0 hf 40 3987 0 _ [] rfl (Nat.zero_le _) h1 h2 (by decide)
end Go.Proofs.Ytknmbhllinbcjaa.Pure
