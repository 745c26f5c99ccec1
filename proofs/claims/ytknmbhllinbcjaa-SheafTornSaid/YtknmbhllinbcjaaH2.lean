/- The document's Num (layer 1): its contract, by walking it. No condition but the number's kind. -/
import Derived.Test.YtknmbhllinbcjaaH1
import Derived.Test.YtknmbhllinbcjaaG0
set_option linter.unusedVariables false
set_option linter.unusedSimpArgs false
namespace Go.Proofs.Ytknmbhllinbcjaa
open Go Go.RowKit Go.Proofs.YtknmbhllinbcjaaW.PrintWords
def quittanceref01_Num.f (a0 : Int) : Option ByteArray := if 0 ≤ a0 ∧ a0 < 18446744073709551616 then some (B (tnum a0.toNat)) else none
/-- The bytes of a number, each with the flag, the first i of them done. -/
def flagged (l : List UInt8) (i : Nat) : List UInt8 := (l.take i).map (fun b => UInt8.ofNat (b.toNat % 128 + 128)) ++ l.drop i
theorem Row8.lit (w : World) (e : TypeId) (b : UInt8) : Row8 (w.alloc (.cells #[cb b] e)) e w.heap.size 1 [b] :=
  ⟨⟨_, (0, 0), heap_alloc_new w _, rfl, Or.inl rfl, rfl⟩, Nat.le_refl _, by decide⟩
theorem Row8.lit' (w : World) (e : TypeId) (b : UInt8) (x : Int) (hx : x = (b.toNat : Int)) : Row8 (w.alloc (.cells #[.int .u8 x] e)) e w.heap.size 1 [b] := by
  subst hx
  exact Row8.lit w e b
theorem tnum_small {n : Nat} (h : n < 128) : tnum n = [UInt8.ofNat n] := by
  unfold tnum
  rw [show n / 128 = 0 by omega, hA_zero, show n % 128 = n by omega]
  rfl
/-- One flag more. -/
theorem flagged_succ (l : List UInt8) (i : Nat) (hi : i < l.length) : flagged l (i + 1) = (flagged l i).set i (UInt8.ofNat (l[i].toNat % 128 + 128)) := by
  unfold flagged
  rw [List.set_append_right _ _ (by simp; omega), List.length_map, List.length_take, show i - min i l.length = 0 by omega, List.drop_eq_getElem_cons hi, List.set_cons_zero, List.take_succ_eq_append_getElem hi, List.map_append, List.append_assoc]
  rfl
theorem flagged_get (l : List UInt8) (i : Nat) (hi : i < l.length) : (flagged l i)[i]? = some l[i] := by
  unfold flagged
  rw [List.getElem?_append_right (by simp; omega), List.length_map, List.length_take, show i - min i l.length = 0 by omega, List.drop_eq_getElem_cons hi]
  rfl
theorem flagged_length (l : List UInt8) (i : Nat) : (flagged l i).length = l.length := by unfold flagged; simp; omega
theorem flagged_hA (a : Nat) : (hA a).map (fun b => UInt8.ofNat (b.toNat % 128 + 128)) = hA a := by
  refine (List.map_congr_left (g := id) fun b hb => ?_).trans (List.map_id _)
  have h1 := hA_ge a b hb
  have h2 := b.toNat_lt
  rw [show b.toNat % 128 + 128 = b.toNat by omega, UInt8.ofNat_toNat]
  rfl
/-- A number's bytes are those of the number a less one, flagged, and the last. -/
theorem tnum_step {n : Nat} (h : ¬ n < 128) : flagged (tnum (n / 128 - 1)) (tnum (n / 128 - 1)).length ++ [UInt8.ofNat (n % 128)] = tnum n := by
  unfold flagged
  rw [List.take_of_length_le (Nat.le_refl _), List.drop_of_length_le (Nat.le_refl _), List.append_nil]
  conv => rhs; unfold tnum
  rw [hA_pos (a := n / 128) (by omega)]
  congr 1
  unfold tnum
  rw [List.map_append, flagged_hA, List.map_singleton, UInt8.toNat_ofNat']
  congr 2
  rw [show (n / 128 - 1) % 128 % 2 ^ 8 % 128 + 128 = 128 + (n / 128 - 1) % 128 by omega]
theorem tnum_length_le (n : Nat) (hn : n < 18446744073709551616) : (tnum n).length ≤ 10 := by
  have h1 := vA_pow (hA (n / 128)) 0
  refine Nat.le_of_not_lt fun h => ?_
  unfold tnum at h
  rw [List.length_append, List.length_singleton] at h
  cases hh : hA (n / 128) with
  | nil => rw [hh] at h; simp at h
  | cons c r =>
    have h2 := vA_hA (n / 128)
    rw [hh, vA] at h2
    have h3 := vA_pow r (128 * 0 + c.toNat % 128 + 1)
    rw [h2] at h3
    rw [hh, List.length_cons] at h
    have h4 : 128 ^ 9 ≤ 128 ^ r.length := Nat.pow_le_pow_right (by decide) (by omega)
    have h5 : 1 * 128 ^ r.length ≤ (128 * 0 + c.toNat % 128 + 1) * 128 ^ r.length := Nat.mul_le_mul_right _ (by omega)
    have h6 : (128 : Nat) ^ 9 = 9223372036854775808 := by decide
    omega
set_option maxRecDepth 100000 in
theorem quittanceref01_Num.walk (n : Nat) : ∀ (w : World), n < 18446744073709551616 →
    Calls Try.prog 26 #[.int .u64 (n : Int)] w fun e w' => e = .returned (.string (B (tnum n))) ∧ Below w.heap.size w w' := by
  induction n using Nat.strongRecOn with
  | ind n ih =>
    intro w hn
    have HN := hid hn
    clear hn
    obtain ⟨a0, ha⟩ : ∃ a0 : Int, a0 = n := ⟨_, rfl⟩
    rw [← ha]
    have HA := hid ha
    clear ha
    by_cases hs : n < 128
    · have c1 : decide (a0 < 128) = true := decide_eq_true (by have := HA.out; omega)
      have e1 : a0 % 256 = a0 := by have := HA.out; omega
      have HR := hid (Row8.lit' w 5 (UInt8.ofNat n) a0 (by have := HA.out; rw [UInt8.toNat_ofNat']; omega))
      have HS := hid hs
      clear hs ih
      go_enter Try.func26, Try.ntmps26
      go_wp2_with (refine wpList_string_of rfl 39 9 (.tmp 9) rfl 5 Try.underlying39 Try.underlying5 Try.underlying9 _ _ _ 1 rfl rfl HR.out ?_)
      go_ret
      exact ⟨by rw [tnum_small HS.out]; rfl, (Below.refl _ w).alloc (Nat.le_refl _) _⟩
    · have c1 : decide (a0 < 128) = false := decide_eq_false (by have := HA.out; omega)
      have e1 : IntKind.u64.wrap (a0.tdiv 128) = a0 / 128 := by
        have := HA.out; have := HN.out
        rw [Int.tdiv_eq_ediv_of_nonneg (by omega), u64w _ (by omega) (by omega)]
      have e2 : IntKind.u64.wrap (a0 / 128 - 1) = ((n / 128 - 1 : Nat) : Int) := by
        have := HA.out; have := HN.out
        rw [u64w _ (by omega) (by omega)]; omega
      have HS := hid hs
      clear hs
      obtain ⟨S, hS⟩ : ∃ S, S = B (tnum (n / 128 - 1)) := ⟨_, rfl⟩
      have HSS := hid hS
      have ih1 := fun w => ih (n / 128 - 1) (by have := HS.out; omega) w (by have := HN.out; omega)
      rw [← hS] at ih1
      clear hS ih
      obtain ⟨m, hm⟩ : ∃ m : Int, m = ((n / 128 - 1 : Nat) : Int) := ⟨_, rfl⟩
      rw [← hm] at e2 ih1
      clear hm
      have HI := hid ih1
      have HL := hid (show S.data.toList = tnum (n / 128 - 1) by rw [HSS.out, B_data])
      have HZ := hid (show S.size ≤ 10 by have := tnum_length_le (n / 128 - 1) (by have := HN.out; omega); rw [HSS.out, B_size]; exact this)
      clear ih1
      go_enter Try.func26, Try.ntmps26
      go_wp2_with (first
        | (go_at_call 26; refine (HI.out w).mono ?_; rintro e w1 ⟨rfl, b1⟩)
        | (refine wpList_bytes rfl 9 39 (.tmp 14) rfl 5 Try.underlying9 Try.underlying39 Try.underlying5 S rfl (by have := HZ.out; simp only [maxLen]; omega) ?_; intro w2 c2 r2 b2 s2))
      have B2 := hid (b1.trans (b2.mono b1.size))
      have R2 := hid r2
      have G1 := hid b1.size
      clear b1 b2 r2 s2
      obtain ⟨g, hg⟩ : ∃ g, g = w1.heap.size := ⟨_, rfl⟩
      rw [← hg] at R2 G1 ⊢
      clear hg
      go_loopw [4] (fun q wr => ∃ i : Int, q = .int .i64 i ∧ Aside0 (0 ≤ i ∧ i ≤ (S.size : Int)) ∧ Aside0 (Row8 wr 5 g c2 (flagged S.data.toList i.toNat)) ∧ Aside0 (Below w.heap.size w wr)) (fun q _ => S.size - (intOf q).toNat)
      case atStart => exact ⟨0, rfl, ⟨by decide, by omega⟩, ⟨R2.out⟩, ⟨B2.out⟩⟩
      case round =>
        obtain ⟨i, rfl, HI2, HR2, HB2⟩ := hrel
        by_cases hi : i < (S.size : Int)
        · have c0 : decide (i < (S.size : Int)) = true := decide_eq_true hi
          have p4 : (0 ≤ i) = True := eq_true HI2.out.1
          have q4 : (i < (S.size : Int)) = True := eq_true hi
          have hil : i.toNat < S.data.toList.length := by rw [Array.length_toList]; exact (show i.toNat < S.size by have := HI2.out; omega)
          have hfl := hid (flagged_length S.data.toList i.toNat)
          have hgl := HR2.out.cell i.toNat (by rw [hfl.out]; exact hil)
          have hge := flagged_get S.data.toList i.toNat hil
          rw [List.getElem?_eq_getElem (by rw [hfl.out]; exact hil)] at hge
          rw [Option.some.inj hge] at hgl
          obtain ⟨b, hb⟩ : ∃ b, b = S.data.toList[i.toNat] := ⟨_, rfl⟩
          have HFS := hid (flagged_succ S.data.toList i.toNat hil)
          rw [← hb] at hgl HFS
          obtain ⟨x, hx⟩ : ∃ x : Int, x = (b.toNat : Int) := ⟨_, rfl⟩
          have hc : wr.cell? ⟨g, i.toNat, none⟩ = some (.int .u8 x) := by rw [hx]; exact hgl
          have hf : wr.frozen? ⟨g, i.toNat, none⟩ = false := HR2.out.frozen _ (by have := HR2.out.le; rw [hfl.out] at this; omega)
          have HX := hid hx
          have HI3 := hid hi
          clear hge hgl hb hi hil hx
          go_wp2
          go_roundw
          case rel =>
            have hxv : Value.int IntKind.u8 ((x.tmod 128 + 128) % 256) = cb (UInt8.ofNat (b.toNat % 128 + 128)) := by
              have h1 := HX.out
              have h2 := b.toNat_lt
              rw [h1, Int.tmod_eq_emod_of_nonneg (by omega)]
              unfold cb
              rw [UInt8.toNat_ofNat']
              congr 1
            have h0 := HI2.out
            have h1 := HI3.out
            have hsz := HZ.out
            refine ⟨i + 1, by rw [wrap64_in' _ (by omega) (by omega)], ⟨by omega, by omega⟩, ⟨?_⟩, ⟨HB2.out.setCell (p := ⟨g, i.toNat, none⟩) (by have := G1.out; exact this) _⟩⟩
            rw [hxv, show (i + 1).toNat = i.toNat + 1 by omega, HFS.out]
            exact HR2.out.set _ _
          case measure =>
            have h0 := HI2.out
            have h1 := HI3.out
            have hsz := HZ.out
            rw [wrap64_in' _ (by omega) (by omega)]
            simp only [intOf]
            omega
        · have c0 : decide (i < (S.size : Int)) = false := decide_eq_false hi
          have hiS : i = (S.size : Int) := by have := HI2.out; omega
          have hlS : S.data.toList.length = S.size := Array.length_toList
          rw [show i.toNat = S.data.toList.length by omega] at HR2
          obtain ⟨F, hF⟩ : ∃ F, F = flagged S.data.toList S.data.toList.length := ⟨_, rfl⟩
          rw [← hF] at HR2
          have HFl := hid (show S.size = F.length by rw [hF, flagged_length, hlS])
          have HF := hid (show F ++ [UInt8.ofNat (n % 128)] = tnum n by rw [hF, HL.out]; exact tnum_step HS.out)
          clear hF hiS hlS
          have e3 : (a0.tmod 128) % 256 = a0 % 128 := by
            have := HA.out; have := HN.out
            rw [Int.tmod_eq_emod_of_nonneg (by omega)]; omega
          have HR := hid (Row8.lit' wr 5 (UInt8.ofNat (n % 128)) (a0 % 128) (by have := HA.out; rw [UInt8.toNat_ofNat']; omega))
          have hcat : (9223372036854775807 < F.length + 1) = False := eq_false (by have := HFl.out; have := HZ.out; omega)
          go_wp2_with (first
            | (refine wpList_string_of rfl 39 9 (.tmp 31) rfl 5 Try.underlying39 Try.underlying5 Try.underlying9 g c2 F _ HFl.out rfl HR2.out ?_)
            | (refine wpList_string_of rfl 39 9 (.tmp 36) rfl 5 Try.underlying39 Try.underlying5 Try.underlying9 _ _ _ 1 rfl rfl HR.out ?_))
          refine bodyPost_ret (v := .string (⟨F.toArray⟩ ++ ⟨#[UInt8.ofNat (n % 128)]⟩)) (by simp [results, Try.results26]) rfl ⟨?_, HB2.out.alloc HB2.out.size _⟩
          rw [← HF.out, ← B_append]
          rfl
theorem quittanceref01_Num.calls (a0 : Int) (r : ByteArray) (w : World) (h : quittanceref01_Num.f a0 = some r) :
    Calls Try.prog 26 #[.int .u64 a0] w fun e w' => e = .returned (.string r) ∧ Below w.heap.size w w' := by
  unfold quittanceref01_Num.f at h
  by_cases hs : 0 ≤ a0 ∧ a0 < 18446744073709551616
  · rw [if_pos hs] at h
    obtain rfl := Option.some.inj h
    obtain ⟨n, rfl⟩ : ∃ n : Nat, a0 = n := ⟨a0.toNat, by omega⟩
    exact quittanceref01_Num.walk n w (by omega)
  · rw [if_neg hs] at h; cases h
end Go.Proofs.Ytknmbhllinbcjaa
