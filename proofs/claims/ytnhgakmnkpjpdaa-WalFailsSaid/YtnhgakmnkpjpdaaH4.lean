import Derived.Test.YtnhgakmnkpjpdaaQ2
/- A slice that a call gives back and that is only read from then on: what the printed callers ask of it. No condition beyond each lemma's own. -/
set_option linter.unusedVariables false
set_option linter.unusedSimpArgs false
namespace Go.Proofs.Ytnhgakmnkpjpdaa.Kc
open Go Go.RowKit Go.Proofs.YtnhgakmnkpjpdaaW.PrintWords
/-- The slice v has the elements xs; its block is one of the world's, from base on. -/
def R {α : Type} (d : Kd α) (e : Nat) (w : World) (base : Nat) (ok : Nat → Prop) (v : Value) (xs : List α) : Prop :=
  (∃ A c, v = .slice A xs.length c ∧ xs.length ≤ c ∧ d.C w A xs.length xs) ∧ (∀ k, v.ownBlock = some k → k < w.heap.size) ∧ ∀ k, v.ownBlock = some k → base ≤ k
section
variable {α : Type} {d : Kd α} {e : Nat} {w w1 W : World} {base : Nat} {ok ok' : Nat → Prop} {v u : Value} {xs : List α}
theorem R_below (h : R d e w base ok v xs) (hb : Below w.heap.size w w1) : R d e w1 base ok v xs := by
  obtain ⟨⟨A, c, h1, h2, h3⟩, h4, h5⟩ := h
  exact ⟨⟨A, c, h1, h2, Kd.C_below h3 hb⟩, fun k hk => Nat.lt_of_lt_of_le (h4 k hk) hb.size, h5⟩
theorem R_lower {base' : Nat} (h : R d e w base ok v xs) (hb : base' ≤ base) : R d e w base' ok v xs := ⟨h.1, h.2.1, fun k hk => Nat.le_trans hb (h.2.2 k hk)⟩
theorem R_lt (h : R d e w base ok v xs) : ∀ k, v.ownBlock = some k → k < w.heap.size := h.2.1
theorem R_base (h : R d e w base ok v xs) : ∀ k, v.ownBlock = some k → base ≤ k := h.2.2
theorem R_slice (h : R d e w base ok v xs) : ∃ A c, v = .slice A xs.length c := by
  obtain ⟨⟨A, c, h1, h2, h3⟩, h4⟩ := h
  exact ⟨A, c, h1⟩
theorem R_reads' {A : Option Addr} {n c : Nat} (h : R d e w base ok (.slice A n c) xs) : n = xs.length ∧ n ≤ c ∧ d.C w A xs.length xs := by
  obtain ⟨⟨A', c', he, hl, hr⟩, h4⟩ := h
  injection he with h1 h2 h3
  subst h1 h2 h3
  exact ⟨rfl, hl, hr⟩
theorem R_alloc (h : R d e w base ok v xs) (o : Obj) : R d e (w.alloc o) base ok v xs := R_below h ((Below.refl _ w).alloc (Nat.le_refl _) o)
theorem R_drew (h : R d e w base ok v xs) : R d e w.drew base ok v xs := R_below h ((Below.refl _ w).drew)
theorem R_drewN (h : R d e w base ok v xs) (n : Nat) : R d e (w.drewN n) base ok v xs := R_below h (Drawn0.below ⟨⟨n, rfl⟩⟩)
theorem R_nil (d : Kd α) (e : Nat) (w : World) (base : Nat) (ok : Nat → Prop) : R d e w base ok (.slice none 0 0) [] := by
  obtain ⟨A, c, h1, h2, h3⟩ := Kd.R_reads (Kd.R_nil d e w base ok)
  exact ⟨⟨A, c, h1, h2, h3⟩, fun k hk => by simp [Value.ownBlock] at hk, fun k hk => by simp [Value.ownBlock] at hk⟩
/-- Of a row of the call's own, its capacity cut. -/
theorem R_cut {A : Option Addr} {n c c' : Nat} (h : Kd.R d e w base ok (.slice A n c) xs) (hc : n ≤ c') : R d e w base ok' (.slice A n c') xs := by
  obtain ⟨h1, h2, h3⟩ := Kd.R_reads' h
  have h4 := Kd.R_lt h
  have h5 := Kd.R_base h
  subst h1
  exact ⟨⟨A, c', rfl, hc, h3⟩, fun k hk => h4 k (by cases A <;> exact hk), fun k hk => h5 k (by cases A <;> exact hk)⟩
end
end Go.Proofs.Ytnhgakmnkpjpdaa.Kc
namespace Go.Proofs.Ytnhgakmnkpjpdaa
end Go.Proofs.Ytnhgakmnkpjpdaa

/- Package tally: the contracts of 'some' (of texts) and TakeRow, by walking them. No condition. -/
set_option linter.unusedVariables false
set_option linter.unusedSimpArgs false
namespace Go.Proofs.Ytnhgakmnkpjpdaa
open Go Go.RowKit Go.Proofs.Ytnhgakmnkpjpdaa.Q Go.Proofs.YtnhgakmnkpjpdaaW.PrintWords Go.Proofs.YtnhgakmnkpjpdaaW.PrintLast Go.Proofs.YtnhgakmnkpjpdaaW.PrintMore
def some_f : Nat → ByteArray → List ByteArray → Option (List ByteArray × ByteArray × Bool)
  | 0, b, l => some (l, b, true)
  | n + 1, b, l => (tally_TakeText.f b).bind fun t => if t.2.2 = true then (if l.length < 8796093022208 then some_f n t.2.1 (l ++ [t.1]) else none) else some ([], ⟨#[]⟩, false)
def tally_TakeRow.f (b : ByteArray) : Option (List ByteArray × ByteArray × Bool) :=
  (tally_TakeNum.f b).bind fun t => if t.2.2 = true then some_f t.1.toNat t.2.1 [] else some ([], ⟨#[]⟩, false)
set_option maxRecDepth 100000 in
set_option maxHeartbeats 2000000 in
theorem some_calls (b0 : ByteArray) (m0 : Int) (r1 : List ByteArray) (r2 : ByteArray) (r3 : Bool) (w : World) (hm : 0 ≤ m0 ∧ m0 < 18446744073709551616) (h : some_f m0.toNat b0 [] = some (r1, r2, r3)) :
    Calls Try.prog 58 #[.string b0, .int .u64 m0, .func (.func 59) #[] #[]] w fun e w' => ∃ v0_ : Value, e = .returned (.tuple #[v0_, .string r2, .bool r3]) ∧ Kc.R Kd.string 9 w' w.heap.size (fun _ => True) v0_ r1 ∧ Below w.heap.size w w' := by
  have H := hid h
  have HM0 := hid hm
  clear h hm
  go_enter Try.func58, Try.ntmps58
  go_wp2
  go_loopg [0, 1, 9, 10, 11, 12] m0.toNat (fun kq v0 v1 v9 v10 v11 v12 w' => ∃ (b : ByteArray) (m : Int) (xs : List ByteArray), v0 = .string b ∧ v1 = .int .u64 m ∧ Aside0 (0 ≤ m ∧ m < 18446744073709551616) ∧ Aside0 (kq = m.toNat) ∧ Aside0 (some_f m.toNat b xs = some (r1, r2, r3)) ∧ Aside0 (Kd.R Kd.string 9 w' w.heap.size (fun _ => True) v9 xs) ∧ Aside0 (Below w.heap.size w w'))
  case atStart => exact ⟨b0, m0, [], rfl, rfl, ⟨HM0.out⟩, ⟨rfl⟩, ⟨H.out⟩, ⟨Kd.R_nil _ _ _ _ _⟩, ⟨Below.refl _ _⟩⟩
  case round =>
    clear H HM0
    obtain ⟨b, m, xs, rfl, rfl, HM, HK, HF, HO_8, HB⟩ := hrel
    obtain ⟨Ao8, co8, eo8⟩ := Kd.R_slice HO_8.out
    subst eo8
    by_cases h0 : 0 < m
    · have c0 : decide (0 < m) = true := decide_eq_true h0
      obtain ⟨j, hj⟩ : ∃ j, m.toNat = j + 1 := ⟨m.toNat - 1, by omega⟩
      have H := HF.out
      rw [hj, some_f] at H
      obtain ⟨⟨t1, t2, t3⟩, A20, H⟩ := Option.bind_eq_some_iff.mp H
      have A2 := Aside0.mk A20
      have HJ := hid hj
      have H0 := hid h0
      have hw1 : IntKind.u64.wrap (m - 1) = m - 1 := u64w _ (by omega) (by have := HM.out; omega)
      cases t3 with
      | true =>
        rw [if_pos rfl] at H
        simp only at H
        by_cases hl : xs.length < 8796093022208
        · rw [if_pos hl] at H
          have LM := Aside0.mk hl
          have H' := Aside0.mk H
          clear hl H A20 hj h0
          go_wp2_with (first
            | (go_at_call 59; refine (tally_TakeText.calls b t1 t2 true _ A2.out).mono ?_; rintro e w9 ⟨rfl, hb⟩)
            | ((with_reducible refine gate_builtin (b := .append) (xs := #[.tmp 24, .tmp 26]) rfl ?_); (try (refine gate_guard (by rfl) ?_; dsimp only)); at_builtin; refine Kd.R_append Kd.string (w0 := w) w.heap.size rfl (.tmp 24) (.tmp 26) 22 9 (.string ⟨#[]⟩) 16 rfl Try.underlying22 info9 rfl (by decide) (by omega) (.slice Ao8 xs.length co8) xs t1 [.string t1] (fun _ => True) (fun _ => False) rfl rfl ?aP (fun _ hk => hk.elim) ?aF ?aO ?aB ?aS ?aL ?_; (case aP => exact rfl); (case aB => exact below_step HB.out hb.below); (case aF => exact (fun _ _ => trivial)); (case aO => exact Kd.R_below HO_8.out hb.below); (case aS => exact below_size (below_step HB.out hb.below)); (case aL => have := LM.out; omega); intro v175 w10 ho hb10 hg hat))
          go_roundg j
          case measure => have := HK.out; have := HJ.out; omega
          case rel => exact ⟨t2, m - 1, xs ++ [t1], rfl, rfl, ⟨by have := HM.out; have := H0.out; omega⟩, ⟨by have := HJ.out; omega⟩, ⟨by rw [show (m - 1).toNat = j by have := HJ.out; omega]; exact H'.out⟩, ⟨ho⟩, ⟨hb10⟩⟩
        · rw [if_neg hl] at H; cases H
      | false =>
        rw [if_neg (by simp)] at H
        simp only [Option.some.injEq, Prod.mk.injEq] at H
        obtain ⟨rfl, rfl, rfl⟩ := H
        clear A20 hj h0 HF
        go_wp2_with (go_at_call 59; refine (tally_TakeText.calls b t1 t2 false _ A2.out).mono ?_; rintro e w9 ⟨rfl, hb⟩)
        refine bodyPost_ret (v := .tuple #[.slice none 0 0, .string ⟨#[]⟩, .bool false]) (by simp [results, Try.results58]) rfl ⟨_, rfl, Kc.R_nil _ _ _ _ _, below_step HB.out hb.below⟩
    · have c0 : decide (0 < m) = false := decide_eq_false h0
      have hm0 : m.toNat = 0 := by omega
      have H := HF.out
      rw [hm0, some_f] at H
      simp only [Option.some.injEq, Prod.mk.injEq] at H
      obtain ⟨rfl, rfl, rfl⟩ := H
      obtain ⟨h1, h2, h3⟩ := Kd.R_reads' HO_8.out
      have p1 : ((xs.length : Int) ≤ (co8 : Int)) = True := eq_true (by omega)
      have p2 : (xs.length ≤ co8) = True := eq_true h2
      have p3 : ((0 : Int) ≤ (xs.length : Int)) = True := eq_true (by omega)
      clear h0 hm0 HF h1 h2 h3
      cases Ao8 with
      | none =>
        go_wp2
        refine bodyPost_ret (v := .tuple #[.slice none xs.length xs.length, .string b, .bool true]) (by simp [results, Try.results58]) rfl ⟨_, rfl, Kc.R_cut (Kd.R_lower HO_8.out (Nat.le_refl _)) (Nat.le_refl _), HB.out⟩
      | some ad =>
        go_wp2
        refine bodyPost_ret (v := .tuple #[.slice (some ad) xs.length xs.length, .string b, .bool true]) (by simp [results, Try.results58]) rfl ⟨_, rfl, Kc.R_cut (Kd.R_lower HO_8.out (Nat.le_refl _)) (Nat.le_refl _), HB.out⟩
theorem TakeNum_range {b : ByteArray} {n : Int} {r : ByteArray} {is : Bool} (h : tally_TakeNum.f b = some (n, r, is)) : 0 ≤ n ∧ n < 18446744073709551616 := by
  have hs := tally_TakeNum_size h
  unfold tally_TakeNum.f at h
  rw [if_pos hs] at h
  cases ht : takeN b.data.toList with
  | none =>
    rw [ht] at h
    obtain ⟨rfl, _⟩ := Prod.mk.inj (Option.some.inj h)
    exact ⟨by decide, by decide⟩
  | some x =>
    obtain ⟨m, l⟩ := x
    rw [ht] at h
    obtain ⟨rfl, _⟩ := Prod.mk.inj (Option.some.inj h)
    have := (takeN_once ht).1
    exact ⟨by omega, by omega⟩
set_option maxRecDepth 100000 in
theorem tally_TakeRow.calls (a0 : ByteArray) (r1 : List ByteArray) (r2 : ByteArray) (r3 : Bool) (w : World) (h : tally_TakeRow.f a0 = some (r1, r2, r3)) :
    Calls Try.prog 37 #[.string a0] w fun e w' => ∃ v0_ : Value, e = .returned (.tuple #[v0_, .string r2, .bool r3]) ∧ Kc.R Kd.string 9 w' w.heap.size (fun _ => True) v0_ r1 ∧ Below w.heap.size w w' := by
  unfold tally_TakeRow.f at h
  obtain ⟨⟨n, r, is⟩, A20, H⟩ := Option.bind_eq_some_iff.mp h
  have A2 := Aside0.mk A20
  have HN := hid (TakeNum_range A20)
  clear A20 h
  cases is with
  | true =>
    rw [if_pos rfl] at H
    have H' := Aside0.mk H
    clear H
    go_enter Try.func37, Try.ntmps37
    go_wp2_with (first
      | (go_at_call 57; refine (tally_TakeNum.calls a0 n r true _ A2.out).mono ?_; rintro e w1 ⟨rfl, hb⟩)
      | (go_at_call 58; refine (some_calls r n r1 r2 r3 _ HN.out H'.out).mono ?_; rintro e w2 ⟨v0, rfl, hR, hb2⟩))
    refine bodyPost_ret (v := .tuple #[v0, .string r2, .bool r3]) (by simp [results, Try.results37]) rfl ⟨_, rfl, Kc.R_lower hR hb.below.size, below_step hb.below hb2⟩
  | false =>
    rw [if_neg (by simp)] at H
    simp only [Option.some.injEq, Prod.mk.injEq] at H
    obtain ⟨rfl, rfl, rfl⟩ := H
    go_enter Try.func37, Try.ntmps37
    go_wp2_with (go_at_call 57; refine (tally_TakeNum.calls a0 n r false _ A2.out).mono ?_; rintro e w1 ⟨rfl, hb⟩)
    refine bodyPost_ret (v := .tuple #[.slice none 0 0, .string ⟨#[]⟩, .bool false]) (by simp [results, Try.results37]) rfl ⟨_, rfl, Kc.R_nil _ _ _ _ _, hb.below⟩
end Go.Proofs.Ytnhgakmnkpjpdaa
