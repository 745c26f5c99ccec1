/- slices.stableCmpFunc at shares, by walking it. -/
import Derived.Test.YtmjohabfikpahaaV6
set_option maxRecDepth 1000000
set_option linter.unusedVariables false
set_option linter.unusedSimpArgs false
namespace Go.Proofs.Ytmjohabfikpahaa
open Go Go.Shelf Go.RowKit Go.Lib Go.Sort Go.Proofs
section
variable {α : Type} [Inhabited α] {lt : α → α → Bool}
/-- Each block of bs is sorted, from lo on, up to hi. -/
def Blk (lt : α → α → Bool) (bs lo hi : Nat) (d : Array α) : Prop := ∀ i j, lo ≤ i → i < j → j < hi → i / bs = j / bs → lt d[j]! d[i]! = false
theorem blk_none (bs a : Nat) (d : Array α) : Blk lt bs a a d := fun i j h1 h2 h3 _ => by omega
theorem div_same {bs t i : Nat} (hb : 0 < bs) (h1 : bs * t ≤ i) (h2 : i < bs * t + bs) : i / bs = t := by
  apply Nat.div_eq_of_lt_le
  · rw [Nat.mul_comm]; exact h1
  · rw [Nat.mul_comm, Nat.mul_add, Nat.mul_one]; exact h2
theorem div_in {bs t i : Nat} (hb : 0 < bs) (h : i / bs = t) : bs * t ≤ i ∧ i < bs * t + bs := by
  have := Nat.div_add_mod i bs
  have h2 := Nat.mod_lt i hb
  rw [h] at this
  omega
theorem blk_sorted {bs lo hi t a b : Nat} {d : Array α} (hb : 0 < bs) (h : Blk lt bs lo hi d) (ha : a = bs * t) (h1 : lo ≤ a) (h2 : b ≤ a + bs) (h3 : b ≤ hi) : SortedIn lt a b d := fun i j g1 g2 g3 => by
  refine h i j (by omega) g2 (by omega) ?_
  rw [div_same hb (t := t) (by omega) (by omega), div_same hb (t := t) (by omega) (by omega)]
/-- One more block is sorted. -/
theorem blk_step {bs t a b : Nat} {d d' : Array α} (hb : 0 < bs) (h : Blk lt bs 0 a d) (ha : a = bs * t) (h2 : b ≤ a + bs) (p : PermIn a b d d') (s : SortedIn lt a b d') : Blk lt bs 0 b d' := fun i j g1 g2 g3 g4 => by
  by_cases c : j < a
  · rw [p.2.1 i (by omega), p.2.1 j (by omega)]; exact h i j g1 g2 c g4
  · have e := div_same hb (t := t) (i := j) (by omega) (by omega)
    have e2 := div_in hb (g4.trans e)
    exact s i j (by omega) g2 g3
/-- What lies behind is as it was. -/
theorem blk_behind {bs a b hi : Nat} {d d' : Array α} (h : Blk lt bs a hi d) (hab : a ≤ b) (p : PermIn a b d d') : Blk lt bs b hi d' := fun i j g1 g2 g3 g4 => by
  rw [p.2.1 i (by omega), p.2.1 j (by omega)]; exact h i j (by omega) g2 g3 g4
/-- The last one stands alone. -/
theorem blk_last {bs t a n : Nat} {d : Array α} (hb : 0 < bs) (h : Blk lt (2 * bs) 0 a d) (h2 : Blk lt bs a n d) (ha : a = 2 * bs * t) (hn : n ≤ a + bs) : Blk lt (2 * bs) 0 n d := fun i j g1 g2 g3 g4 => by
  by_cases c : j < a
  · exact h i j g1 g2 c g4
  · have e := div_same (show 0 < 2 * bs by omega) (t := t) (i := j) (by omega) (by omega)
    have e2 := div_in (show 0 < 2 * bs by omega) (g4.trans e)
    have e3 : a = bs * (2 * t) := by rw [ha, Nat.mul_comm 2 bs, Nat.mul_assoc]
    refine h2 i j (by omega) g2 g3 ?_
    rw [div_same hb (t := 2 * t) (by omega) (by omega), div_same hb (t := 2 * t) (by omega) (by omega)]
theorem blk_all {bs n : Nat} {d : Array α} (h : Blk lt bs 0 n d) (hn : n ≤ bs) : SortedIn lt 0 n d := fun i j g1 g2 g3 => by
  refine h i j g1 g2 g3 ?_
  rw [Nat.div_eq_of_lt (by omega), Nat.div_eq_of_lt (by omega)]
end
variable {P : Program} {k : Nat} {α : Type} [Inhabited α] {enc : α → List Value} {w0 w : World} {blk off : Nat} {d0 d : Array α}
set_option maxHeartbeats 4000000 in
theorem stable_calls (L : Sh P k) (R : RowK enc k w0 blk off d0) {cf : α → α → Int} {g : Nat} {cb : Array Value} (C : Cmpr P g cb enc k cf blk off d0.size w0) (hs : d0.size = d.size) (S : SWK enc k w0 blk off d w) (cap : Nat) (hsz : d.size ≤ 4096) :
    Calls P 23 #[.slice (some ⟨blk, off, none⟩) d.size cap, .int .i64 d.size, .func (.func g) #[] cb] w fun e w' => e = .returned (.tuple #[]) ∧ ∃ d', PermIn 0 d.size d d' ∧ SortedIn (ltOf cf) 0 d.size d' ∧ SWK enc k w0 blk off d' w' := by
  have INS : Aside (∀ (dk : Array α) (wr : World) (a b : Nat), dk.size = d.size → SWK enc k w0 blk off dk wr → a ≤ b → b ≤ d.size → Calls P 26 #[.slice (some ⟨blk, off, none⟩) d.size cap, .int .i64 a, .int .i64 b, .func (.func g) #[] cb] wr fun e w' => e = .returned (.tuple #[]) ∧ ∃ d', PermIn a b dk d' ∧ SortedIn (ltOf cf) a b d' ∧ SWK enc k w0 blk off d' w') := by
    intro dk wr a b hds hS g1 g2
    have h := insertion_calls L R C (by omega) hS a b cap g1 (by omega) (by omega)
    rw [hds] at h
    exact h
  have MRG : Aside (∀ (dk : Array α) (wr : World) (a m b : Nat), dk.size = d.size → SWK enc k w0 blk off dk wr → a < m → m < b → b ≤ d.size → SortedIn (ltOf cf) a m dk → SortedIn (ltOf cf) m b dk → Calls P 27 #[.slice (some ⟨blk, off, none⟩) d.size cap, .int .i64 a, .int .i64 m, .int .i64 b, .func (.func g) #[] cb] wr fun e w' => e = .returned (.tuple #[]) ∧ ∃ d', PermIn a b dk d' ∧ SortedIn (ltOf cf) a b d' ∧ SWK enc k w0 blk off d' w') := by
    intro dk wr a m b hds hS g1 g2 g3 g4 g5
    have h := symMerge_calls L R C cap (by omega) (b - a) a m b dk wr (by omega) g1 g2 (by omega) (by omega) hS g4 g5
    rw [hds] at h
    exact h
  have mixed := L.mixed; have t3 := L.t3; have a3 := L.a3; have z3 := L.z3; have v3 := L.v3; have t4 := L.t4; have a4 := L.a4; have z4 := L.z4; have v4 := L.v4; have t34 := L.t34; have a34 := L.a34; have z34 := L.z34; have v34 := L.v34; have t38 := L.t38; have a38 := L.a38; have z38 := L.z38; have v38 := L.v38; have t44 := L.t44; have a44 := L.a44; have z44 := L.z44; have v44 := L.v44; have a36 := L.a36; have z36 := L.z36
  have F23 := L.f23
  have e26 : ∀ args w, (callFunc 26 args).run P w = .ok (.enter 26 args) w := enters_of L.f26 (by kernel_rfl) rfl
  have e27 : ∀ args w, (callFunc 27 args).run P w = .ok (.enter 27 args) w := enters_of L.f27 (by kernel_rfl) rfl
  have S0 : Aside (SWK enc k w0 blk off d w) := S
  clear S C R L
  obtain ⟨n, hn⟩ : ∃ n, n = d.size := ⟨_, rfl⟩
  have HN : Aside (n = d.size) := hn
  have hn4 : n ≤ 4096 := by omega
  rw [← hn] at INS MRG ⊢
  clear hn hsz hs
  go_enter F23, Try.ntmps23
  go_wp2_with fail
  -- the blocks of 20 are sorted
  go_loopg [7, 8] n (fun kx s7 s8 wr => ∃ (a b t : Nat) (dk : Array α), s7 = .int .i64 a ∧ s8 = .int .i64 b ∧ Aside (a = 20 * t) ∧ b ≤ a + 20 ∧ a + 20 ≤ b ∧ a ≤ n ∧ n - a ≤ kx ∧ dk.size = n ∧ Aside (PermIn 0 n d dk) ∧ Aside (Blk (ltOf cf) 20 0 a dk) ∧ Aside (SWK enc k w0 blk off dk wr))
  case atStart => exact ⟨0, 20, 0, d, rfl, rfl, rfl, by omega, by omega, by omega, by omega, HN.out.symm, permIn_refl d 0 n, blk_none _ _ _, S0⟩
  case round =>
    clear S0
    obtain ⟨a, b, t, dk, rfl, rfl, hat, hba, hba2, han, hk, hds, HP, HB, S1⟩ := hrel
    by_cases hlt : b ≤ n
    · have q1 : decide ((b : Int) ≤ (n : Int)) = true := decide_eq_true (by omega)
      have hc := INS.out dk wr a b hds S1.out (by omega) (by omega)
      go_wp2_with fail
      go_at_call 26
      refine hc.mono ?_
      rintro e w1 ⟨rfl, d2, p2, s2, S2⟩
      have HP2 : Aside (PermIn 0 n d d2) := pi_trans HP.out (pi_mono (by omega) (by omega) (by have := HN.out; omega) p2)
      have HB2 : Aside (Blk (ltOf cf) 20 0 b d2) := blk_step (by omega) HB.out hat.out (by omega) p2 s2
      have hds2 : d2.size = n := p2.1.trans hds
      have S3 : Aside (SWK enc k w0 blk off d2 w1) := S2
      have ht2 : Aside (b = 20 * (t + 1)) := by show b = _; have := hat.out; omega
      clear HP HB S1 hc p2 s2 S2 INS MRG hat hds
      go_wp2_with fail
      go_roundg (n - b)
      case measure => omega
      case rel => exact ⟨b, b + 20, t + 1, d2, rfl, by go_num, ht2, by omega, by omega, hlt, by omega, hds2, HP2, HB2, S3⟩
    · have q1 : decide ((b : Int) ≤ (n : Int)) = false := decide_eq_false (by omega)
      have hc := INS.out dk wr a n hds S1.out (by omega) (by omega)
      go_wp2_with fail
      go_at_call 26
      refine hc.mono ?_
      rintro e w1 ⟨rfl, d2, p2, s2, S2⟩
      have HP2 : Aside (PermIn 0 n d d2) := pi_trans HP.out (pi_mono (by omega) (by omega) (by have := HN.out; omega) p2)
      have HB2 : Aside (Blk (ltOf cf) 20 0 n d2) := blk_step (by omega) HB.out hat.out (by omega) p2 s2
      have hds2 : d2.size = n := p2.1.trans hds
      have S3 : Aside (SWK enc k w0 blk off d2 w1) := S2
      clear HP HB S1 hc p2 s2 S2 INS hlt hat hba hba2 han hk q1 hds
      go_wp2_with fail
      -- they are merged
      go_loopg [6] n (fun kx s6 wr => ∃ (bs : Nat) (dk : Array α), s6 = .int .i64 bs ∧ 0 < bs ∧ bs ≤ 8192 ∧ n - bs ≤ kx ∧ dk.size = n ∧ Aside (PermIn 0 n d dk) ∧ Aside (Blk (ltOf cf) bs 0 n dk) ∧ Aside (SWK enc k w0 blk off dk wr))
      case atStart => exact ⟨20, d2, rfl, by omega, by omega, by omega, hds2, HP2, HB2, S3⟩
      case round =>
        clear HP2 HB2 S3 hds2
        obtain ⟨bs, dk, rfl, hb0, hb1, hk, hds, HP, HB, S1⟩ := hrel
        by_cases hlt : bs < n
        · have q1 : decide ((bs : Int) < (n : Int)) = true := decide_eq_true (by omega)
          go_wp2_with fail
          go_loopg [7, 8] n (fun kx s7 s8 wr => ∃ (a b t : Nat) (dk : Array α), s7 = .int .i64 a ∧ s8 = .int .i64 b ∧ Aside (a = 2 * bs * t) ∧ b ≤ a + 2 * bs ∧ a + 2 * bs ≤ b ∧ a ≤ n ∧ n - a ≤ kx ∧ dk.size = n ∧ Aside (PermIn 0 n d dk) ∧ Aside (Blk (ltOf cf) (2 * bs) 0 a dk) ∧ Aside (Blk (ltOf cf) bs a n dk) ∧ Aside (SWK enc k w0 blk off dk wr))
          case atStart => exact ⟨0, 2 * bs, 0, dk, rfl, by go_num, rfl, by omega, by omega, by omega, by omega, hds, HP, blk_none _ _ _, HB, S1⟩
          case round =>
            clear HP HB S1 hds
            obtain ⟨a, b, t, dk, rfl, rfl, hat, hba, hba2, han, hk2, hds, HP, HB, HC, S1⟩ := hrel
            have hat2 : a = bs * (2 * t) := by rw [hat.out, Nat.mul_comm 2 bs, Nat.mul_assoc]
            have hat3 : a + bs = bs * (2 * t + 1) := by rw [Nat.mul_add, Nat.mul_one, ← hat2]
            by_cases hle : b ≤ n
            · have q2 : decide ((b : Int) ≤ (n : Int)) = true := decide_eq_true (by omega)
              have hc := MRG.out dk wr a (a + bs) b hds S1.out (by omega) (by omega) (by omega) (blk_sorted hb0 HC.out hat2 (by omega) (by omega) (by omega)) (blk_sorted hb0 HC.out hat3 (by omega) (by omega) (by omega))
              rw [show ((a + bs : Nat) : Int) = (a : Int) + (bs : Int) by omega] at hc
              clear hat2 hat3
              go_wp2_with fail
              go_at_call 27
              refine hc.mono ?_
              rintro e w1 ⟨rfl, d2, p2, s2, S2⟩
              have HP2 : Aside (PermIn 0 n d d2) := pi_trans HP.out (pi_mono (by omega) (by omega) (by have := HN.out; omega) p2)
              have HB2 : Aside (Blk (ltOf cf) (2 * bs) 0 b d2) := blk_step (by omega) HB.out hat.out (by omega) p2 s2
              have HC2 : Aside (Blk (ltOf cf) bs b n d2) := blk_behind HC.out (by omega) p2
              have hds2 : d2.size = n := p2.1.trans hds
              have S3 : Aside (SWK enc k w0 blk off d2 w1) := S2
              have ht2 : Aside (b = 2 * bs * (t + 1)) := by show b = _; rw [Nat.mul_add, Nat.mul_one, ← hat.out]; omega
              clear HP HB HC S1 hc p2 s2 S2 MRG hat
              go_wp2_with fail
              go_roundg (n - b)
              case measure => omega
              case rel => exact ⟨b, b + 2 * bs, t + 1, d2, rfl, by go_num, ht2, by omega, by omega, hle, by omega, hds2, HP2, HB2, HC2, S3⟩
            · have q2 : decide ((b : Int) ≤ (n : Int)) = false := decide_eq_false (by omega)
              by_cases hle2 : a + bs < n
              · have q3 : decide ((a : Int) + (bs : Int) < (n : Int)) = true := decide_eq_true (by omega)
                have hc := MRG.out dk wr a (a + bs) n hds S1.out (by omega) (by omega) (by omega) (blk_sorted hb0 HC.out hat2 (by omega) (by omega) (by omega)) (blk_sorted hb0 HC.out hat3 (by omega) (by omega) (by omega))
                rw [show ((a + bs : Nat) : Int) = (a : Int) + (bs : Int) by omega] at hc
                clear hat2 hat3
                go_wp2_with fail
                go_at_call 27
                refine hc.mono ?_
                rintro e w1 ⟨rfl, d2, p2, s2, S2⟩
                have HP2 : Aside (PermIn 0 n d d2) := pi_trans HP.out (pi_mono (by omega) (by omega) (by have := HN.out; omega) p2)
                have HB2 : Aside (Blk (ltOf cf) (2 * bs) 0 n d2) := blk_step (by omega) HB.out hat.out (by omega) p2 s2
                have hds2 : d2.size = n := p2.1.trans hds
                have S3 : Aside (SWK enc k w0 blk off d2 w1) := S2
                clear HP HB HC S1 hc p2 s2 S2 MRG hat
                go_wp2_with fail
                go_roundg (n - bs * 2)
                case measure => omega
                case rel => exact ⟨bs * 2, d2, by go_num, by omega, by omega, by omega, hds2, HP2, by rw [Nat.mul_comm bs 2]; exact HB2, S3⟩
              · have q3 : decide ((a : Int) + (bs : Int) < (n : Int)) = false := decide_eq_false (by omega)
                have HB2 : Aside (Blk (ltOf cf) (2 * bs) 0 n dk) := blk_last hb0 HB.out HC.out hat.out (by omega)
                clear HB HC MRG hat hat2 hat3
                go_wp2_with fail
                go_roundg (n - bs * 2)
                case measure => omega
                case rel => exact ⟨bs * 2, dk, by go_num, by omega, by omega, by omega, hds, HP, by rw [Nat.mul_comm bs 2]; exact HB2, S1⟩
        · have q1 : decide ((bs : Int) < (n : Int)) = false := decide_eq_false (by omega)
          go_wp2_with fail
          go_end0
          exact ⟨rfl, dk, HP.out, blk_all HB.out (by omega), S1.out⟩
end Go.Proofs.Ytmjohabfikpahaa
