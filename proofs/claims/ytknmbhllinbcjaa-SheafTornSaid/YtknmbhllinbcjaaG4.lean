/- Package sheaf: the contracts of Get and of what it does with one sector, by walking them. -/
import Derived.Test.YtknmbhllinbcjaaG3
import Derived.Lib.AppendStr
set_option linter.unusedVariables false
set_option linter.unusedSimpArgs false
namespace Go.Proofs.Ytknmbhllinbcjaa
open Go Go.RowKit Go.Proofs.Ytknmbhllinbcjaa.Q Go.Proofs.YtknmbhllinbcjaaW.PrintWords Go.Proofs.YtknmbhllinbcjaaW.PrintLast Go.Proofs.YtknmbhllinbcjaaW.PrintMore
/-- The two boxes of Get: the bytes so far, and the stamp. -/
structure GetAt (W : World) (A S base : Nat) (l : List UInt8) (st : Int) : Prop where
  all : ∃ v, W.heap[A]? = some (.cells #[v] 39 (0, 0)) ∧ W.ownsRow base 5 1 v l.length (l.map cb)
  stamp : W.heap[S]? = some (.cells #[.int .u64 st] 22 (0, 0))
theorem info5_parts : ∃ i, Try.prog.info? 5 = some i ∧ i.zero = some (.int .u8 0) ∧ i.size = 1 ∧ i.bytes = 1 := by
  obtain ⟨i, h, he⟩ := Option.map_eq_some_iff.1 Q.info5
  simp only [Prod.mk.injEq] at he
  exact ⟨i, h, he.1, he.2.1, he.2.2⟩
theorem own_form {W : World} {base : Nat} {e : TypeId} {v : Value} {k : Nat} {xs : List Value} (h : W.ownsRow base e 1 v k xs) : ∃ A c, v = .slice A k c := by
  rcases h.2 with ⟨rfl, h0⟩ | ⟨g, cap, cur, h', _⟩
  · exact ⟨none, 0, by rw [h0]⟩
  · exact ⟨_, _, h'⟩
/-- What the appending and the storing leave. -/
theorem own_fin {w w2 w3 : World} {A S base : Nat} {l : List UInt8} {st : Int} {c : ByteArray} {v v' : Value} (hAS : A ≠ S) (hA : A < base) (hS : S < base) (hlt : A < w2.heap.size)
    (hA3 : w3.heap[A]? = some (.cells #[v] 39 (0, 0))) (hS4 : (w3.setCell ⟨A, 0, none⟩ v').heap[S]? = some (.cells #[.int .u64 st] 22 (0, 0))) (h2 : ∀ B, B ≤ A → B ≤ S → Below B w w2) (hbs : base ≤ w2.heap.size)
    (ho2 : w2.ownsRow base 5 1 v l.length (l.map cb)) (hg : w2.grownBy w3 v.ownBlock) (ho : w3.ownsRow base 5 1 v' (l.length + c.size) (l.map cb ++ Lib.strCells c)) :
    GetAt (w3.setCell ⟨A, 0, none⟩ v') A S base (l ++ c.data.toList) st ∧ ∀ B, B ≤ A → B ≤ S → Below B w (w3.setCell ⟨A, 0, none⟩ v') := by
  have hcl : c.data.toList.length = c.size := Array.length_toList
  refine ⟨⟨⟨v', setCell_row w3 A 0 _ 39 (0, 0) _ hA3, ?_⟩, hS4⟩, fun B hBA hBS => ?_⟩
  · have h := ho.kept (setCell_grown w3 A v') (own_ne ho (fun _ _ => .inr hA))
    rw [List.length_append, List.map_append, hcl]
    exact h
  · have hb := h2 B hBA hBS
    have h3 : Below B w w3 := hb.grown hg (by omega) (fun k e => by have := own_base ho2 k e; omega)
    exact h3.setCell (p := ⟨A, 0, none⟩) hBA v'
set_option maxRecDepth 100000 in
set_option maxHeartbeats 2000000 in
theorem own_calls (b : ByteArray) (n : Int) (c : ByteArray) (is : Bool) (hg : leaf_Get.f b = some (n, c, is)) (A S base : Nat) (hAS : A ≠ S) (hA : A < base) (hS : S < base) (l : List UInt8) (hl : l.length + c.size ≤ 1000000) (st : Int) (w : World) (h : GetAt w A S base l st) (hbs : base ≤ w.heap.size) :
    Calls Try.prog 27 #[.string b, .pointer (some ⟨A, 0, none⟩), .pointer (some ⟨S, 0, none⟩)] w fun e w' =>
      e = .returned (.bool (is && n == (if l = [] then n else st))) ∧ GetAt w' A S base (l ++ c.data.toList) (if l = [] then n else st) ∧ ∀ B, B ≤ A → B ≤ S → Below B w w' := by
  obtain ⟨⟨v, hv, ho⟩, hs⟩ := h
  obtain ⟨i5, hi5, hz5, hs5, hb5⟩ := info5_parts
  have HG := Aside0.mk hg
  have HI5 := hid hi5
  have HZ5 := hid hz5
  have HS5 := hid hs5
  have HB5 := hid hb5
  have HO := Aside0.mk ho
  have HV := hid hv
  have HST := hid hs
  have HL := hid hl
  have HAS := hid hAS
  have HA := hid hA
  have HSB := hid hS
  have HBS := hid hbs
  obtain ⟨Av, cv, hvv⟩ := own_form ho
  subst hvv
  by_cases hnil : l = []
  · have c0 : ((l.length : Int) == 0) = true := by rw [hnil]; rfl
    rw [if_pos hnil]
    have HN := hid hnil
    clear hg hi5 hz5 hs5 hb5 ho hv hs hl hAS hA hS hbs hnil
    go_enter Try.func27, Try.ntmps27
    go_wp2_with (first
      | (go_at_call 28; refine (leaf_Get.calls b n c is _ HG.out).mono ?_; rintro e w1 ⟨rfl, b1⟩
         have hB1 := hid b1
         have hA1 : w1.heap[A]? = some (.cells #[.slice Av l.length cv] 39 (0, 0)) := (b1.block _ (Array.getElem?_eq_some_iff.1 HV.out).1).trans HV.out
         have hS1 : w1.heap[S]? = some (.cells #[.int .u64 st] 22 (0, 0)) := (b1.block _ (Array.getElem?_eq_some_iff.1 HST.out).1).trans HST.out
         have hcA : w1.cell? ⟨A, 0, none⟩ = some (.slice Av l.length cv) := by simp [World.cell?, hA1]
         have hcS : w1.cell? ⟨S, 0, none⟩ = some (.int .u64 st) := by simp [World.cell?, hS1]
         have hfS : w1.frozen? ⟨S, 0, none⟩ = false := by simp [World.frozen?, hS1]
         have hcA2 : (w1.setCell ⟨S, 0, none⟩ (.int .u64 n)).cell? ⟨A, 0, none⟩ = some (.slice Av l.length cv) := (World.cell?_of_block (Below.heap_setCell w1 ⟨S, 0, none⟩ _ A HAS.out)).trans hcA
         have hA2 : (w1.setCell ⟨S, 0, none⟩ (.int .u64 n)).heap[A]? = some (.cells #[.slice Av l.length cv] 39 (0, 0)) := (Below.heap_setCell w1 ⟨S, 0, none⟩ _ A HAS.out).trans hA1
         have hS2 : (w1.setCell ⟨S, 0, none⟩ (.int .u64 n)).heap[S]? = some (.cells #[.int .u64 n] 22 (0, 0)) := setCell_row w1 S 0 _ 22 (0, 0) _ hS1
         have ho2 : (w1.setCell ⟨S, 0, none⟩ (.int .u64 n)).ownsRow base 5 1 (.slice Av l.length cv) l.length (l.map cb) :=
           (own_move HO.out (fun k hk => b1.block k (own_lt HO.out k hk))).kept (setCell_grown w1 S _) (own_ne (own_move HO.out (fun k hk => b1.block k (own_lt HO.out k hk))) (fun _ _ => .inr HSB.out))
         have hz2 : base ≤ (w1.setCell ⟨S, 0, none⟩ (.int .u64 n)).heap.size := by have := b1.size; have := HBS.out; have := (KeepsWalks.setCell w1 ⟨S, 0, none⟩ (.int .u64 n)).size; omega
         have HB2 : Hid (∀ B, B ≤ A → B ≤ S → Below B w (w1.setCell ⟨S, 0, none⟩ (.int .u64 n))) := hid (fun B hBA hBS => (b1.mono (by have := (Array.getElem?_eq_some_iff.1 HV.out).1; omega)).setCell (p := ⟨S, 0, none⟩) hBS _)
         have HA2 := hid hA2
         have HS2 := hid hS2
         have HO2 := Aside0.mk ho2
         have HZ2 := hid hz2
         have HS1 := hid hS1
         clear b1 hA1 hS1 hA2 hS2 ho2 hz2)
      | (refine Lib.wpList_append_own_string _ rfl (.tmp 18) (.tmp 19) 39 9 rfl base 5 i5 Try.underlying39 Try.underlying9 HI5.out HZ5.out HS5.out HB5.out _ l.length (l.map cb) rfl HO2.out c rfl (by have := HL.out; simp only [maxLen]; omega) (by have := HL.out; omega) HZ2.out ?_; intro v' w3 ho' hg' hnil'
         obtain ⟨Av', cv', rfl⟩ := own_form ho'
         have hne : ∀ k, k < base → some k ≠ (Value.slice Av l.length cv).ownBlock := fun k hk e => by
           rcases own_ne (j := k) HO2.out (fun _ _ => .inr hk) with h | h
           · rw [h] at e; cases e
           · exact h e.symm
         have hA3 : w3.heap[A]? = some (.cells #[.slice Av l.length cv] 39 (0, 0)) := (hg'.block A (Array.getElem?_eq_some_iff.1 HA2.out).1 (hne A HA.out)).trans HA2.out
         have hS3 : w3.heap[S]? = some (.cells #[.int .u64 n] 22 (0, 0)) := (hg'.block S (Array.getElem?_eq_some_iff.1 HS2.out).1 (hne S HSB.out)).trans HS2.out
         have hcA3 : w3.cell? ⟨A, 0, none⟩ = some (.slice Av l.length cv) := by simp [World.cell?, hA3]
         have hfA3 : w3.frozen? ⟨A, 0, none⟩ = false := by simp [World.frozen?, hA3]
         have hS4 : (w3.setCell ⟨A, 0, none⟩ (.slice Av' (l.length + c.size) cv')).heap[S]? = some (.cells #[.int .u64 n] 22 (0, 0)) := (Below.heap_setCell w3 ⟨A, 0, none⟩ _ S (fun e => HAS.out e.symm)).trans hS3
         have hcS4 : (w3.setCell ⟨A, 0, none⟩ (.slice Av' (l.length + c.size) cv')).cell? ⟨S, 0, none⟩ = some (.int .u64 n) := by simp [World.cell?, hS4]
         have HA3 := hid hA3
         have HS4 := hid hS4
         have HO3 := Aside0.mk ho'
         have HG3 := hid hg'
         have HNE := hid hne
         clear ho' hg' hnil' hne hA3 hS3 hS4))
    all_goals
      have F := own_fin (w := w) (c := c) (v' := .slice Av' (l.length + c.size) cv') HAS.out HA.out HSB.out (Array.getElem?_eq_some_iff.1 HA2.out).1 HA3.out HS4.out (fun B hBA hBS => HB2.out B hBA hBS) HZ2.out HO2.out HG3.out HO3.out
    · refine bodyPost_ret (v := .bool true) (by simp [results, Try.results27]) rfl ⟨by simp [*], F⟩
    · refine bodyPost_ret (v := .bool false) (by simp [results, Try.results27]) rfl ⟨by simp [*], F⟩
  · have c0 : ((l.length : Int) == 0) = false := beq_eq_false_iff_ne.2 (by have : l.length ≠ 0 := fun h => hnil (List.eq_nil_of_length_eq_zero h); omega)
    rw [if_neg hnil]
    have HN := hid hnil
    clear hg hi5 hz5 hs5 hb5 ho hv hs hl hAS hA hS hbs hnil
    go_enter Try.func27, Try.ntmps27
    go_wp2_with (first
      | (go_at_call 28; refine (leaf_Get.calls b n c is _ HG.out).mono ?_; rintro e w1 ⟨rfl, b1⟩
         have HB2 : Hid (∀ B, B ≤ A → B ≤ S → Below B w w1) := hid (fun B hBA hBS => b1.mono (by have := (Array.getElem?_eq_some_iff.1 HV.out).1; omega))
         have hA2 : w1.heap[A]? = some (.cells #[.slice Av l.length cv] 39 (0, 0)) := (b1.block _ (Array.getElem?_eq_some_iff.1 HV.out).1).trans HV.out
         have hS2 : w1.heap[S]? = some (.cells #[.int .u64 st] 22 (0, 0)) := (b1.block _ (Array.getElem?_eq_some_iff.1 HST.out).1).trans HST.out
         have hcA : w1.cell? ⟨A, 0, none⟩ = some (.slice Av l.length cv) := by simp [World.cell?, hA2]
         have ho2 : w1.ownsRow base 5 1 (.slice Av l.length cv) l.length (l.map cb) := own_move HO.out (fun k hk => b1.block k (own_lt HO.out k hk))
         have HA2 := hid hA2
         have HS2 := hid hS2
         have HO2 := Aside0.mk ho2
         have HZ2 := hid (show base ≤ w1.heap.size by have := b1.size; have := HBS.out; omega)
         clear b1 hA2 hS2 ho2)
      | (refine Lib.wpList_append_own_string _ rfl (.tmp 18) (.tmp 19) 39 9 rfl base 5 i5 Try.underlying39 Try.underlying9 HI5.out HZ5.out HS5.out HB5.out _ l.length (l.map cb) rfl HO2.out c rfl (by have := HL.out; simp only [maxLen]; omega) (by have := HL.out; omega) HZ2.out ?_; intro v' w3 ho' hg' hnil'
         obtain ⟨Av', cv', rfl⟩ := own_form ho'
         have hne : ∀ k, k < base → some k ≠ (Value.slice Av l.length cv).ownBlock := fun k hk e => by
           rcases own_ne (j := k) HO2.out (fun _ _ => .inr hk) with h | h
           · rw [h] at e; cases e
           · exact h e.symm
         have hA3 : w3.heap[A]? = some (.cells #[.slice Av l.length cv] 39 (0, 0)) := (hg'.block A (Array.getElem?_eq_some_iff.1 HA2.out).1 (hne A HA.out)).trans HA2.out
         have hS3 : w3.heap[S]? = some (.cells #[.int .u64 st] 22 (0, 0)) := (hg'.block S (Array.getElem?_eq_some_iff.1 HS2.out).1 (hne S HSB.out)).trans HS2.out
         have hcA3 : w3.cell? ⟨A, 0, none⟩ = some (.slice Av l.length cv) := by simp [World.cell?, hA3]
         have hfA3 : w3.frozen? ⟨A, 0, none⟩ = false := by simp [World.frozen?, hA3]
         have hS4 : (w3.setCell ⟨A, 0, none⟩ (.slice Av' (l.length + c.size) cv')).heap[S]? = some (.cells #[.int .u64 st] 22 (0, 0)) := (Below.heap_setCell w3 ⟨A, 0, none⟩ _ S (fun e => HAS.out e.symm)).trans hS3
         have hcS4 : (w3.setCell ⟨A, 0, none⟩ (.slice Av' (l.length + c.size) cv')).cell? ⟨S, 0, none⟩ = some (.int .u64 st) := by simp [World.cell?, hS4]
         have HA3 := hid hA3
         have HS4 := hid hS4
         have HO3 := Aside0.mk ho'
         have HG3 := hid hg'
         clear ho' hg' hnil' hne hA3 hS3 hS4))
    all_goals
      have F := own_fin (w := w) (c := c) (v' := .slice Av' (l.length + c.size) cv') HAS.out HA.out HSB.out (Array.getElem?_eq_some_iff.1 HA2.out).1 HA3.out HS4.out (fun B hBA hBS => HB2.out B hBA hBS) HZ2.out HO2.out HG3.out HO3.out
    · refine bodyPost_ret (v := .bool (n == st)) (by simp [results, Try.results27]) rfl ⟨by simp [*], F⟩
    · refine bodyPost_ret (v := .bool false) (by simp [results, Try.results27]) rfl ⟨by simp [*], F⟩
end Go.Proofs.Ytknmbhllinbcjaa
