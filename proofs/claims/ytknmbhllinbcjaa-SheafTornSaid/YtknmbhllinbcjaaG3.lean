/- Package sheaf: the contract of Put, by walking it. No condition but the number's kind, and that the text is not too long. -/
import Derived.Test.YtknmbhllinbcjaaG1
import Derived.Shelf.Abstract
set_option linter.unusedVariables false
set_option linter.unusedSimpArgs false
namespace Go.Proofs.Ytknmbhllinbcjaa
open Go Go.RowKit Go.Proofs.Ytknmbhllinbcjaa.Q Go.Proofs.YtknmbhllinbcjaaW.PrintWords Go.Proofs.YtknmbhllinbcjaaW.PrintLast Go.Proofs.YtknmbhllinbcjaaW.PrintMore
attribute [local go_sem] Oper.semAt_some max2_int min2_int max_two min_two max_three min_three max_four min_four
def leafB (n : Int) (p : ByteArray) : ByteArray := ⟨(leafL n.toNat p.data.toList).toArray⟩
def sheaf_Put.f (a0 : Int) (a1 : ByteArray) : Option (List ByteArray × Int) :=
  if a0 = 0 then some ([], 2) else if (a1.size : Int) > 98304 then some ([], 3)
  else (tally_Text.f 30 a1).bind fun T => if (0 < a0 ∧ a0 < 18446744073709551616) ∧ T.size < 200000 then some ((piecesL T.data.toList).map (leafB a0), 0) else none
theorem pieceAt_size (L : List UInt8) (j : Nat) : (pieceAt L j).size ≤ 48 := by
  unfold pieceAt
  rw [B_size, List.length_take]
  omega
theorem leaf_piece (a0 : Int) (h0 : 0 < a0) (h1 : a0 < 18446744073709551616) (L : List UInt8) (j : Nat) : leaf_Put.f a0 (pieceAt L j) = some (leafB a0 (pieceAt L j), 0) := by
  have := pieceAt_size L j
  unfold leaf_Put.f
  rw [if_neg (by omega), if_neg (by omega), if_pos ⟨h0, h1⟩]
  rfl
def PutI (w : World) (B0 B1 base : Nat) (a0 : Int) (pre : List ByteArray) (W : World) : Prop :=
  W.heap[B0]? = some (.cells #[.int .u64 a0] 22 (0, 0)) ∧ (∃ v, W.heap[B1]? = some (.cells #[v] 24 (0, 0)) ∧ W.ownsRow base 9 1 v pre.length (pre.map fun p => Value.string (leafB a0 p))) ∧ Below w.heap.size w W
theorem own_ne {W : World} {base : Nat} {e : TypeId} {size : Nat} {v : Value} {k : Nat} {xs : List Value} (h : W.ownsRow base e size v k xs) {j : Nat} (hj : ∀ o, W.heap[j]? = some o → o.isCells = false ∨ j < base) : v.ownBlock = none ∨ v.ownBlock ≠ some j := by
  rcases h.2 with ⟨rfl, _⟩ | ⟨g, cap, cur, rfl, hb, hgb, _⟩
  · exact .inl rfl
  · refine .inr fun e' => ?_
    have : g = j := by simpa [Value.ownBlock] using e'
    subst this
    rcases hj _ hgb with hc | hc
    · cases hc
    · omega
section
variable {w : World} {B0 B1 base : Nat} {a0 : Int}
theorem PutI.putObj (h0 : B0 < base) (h1 : B1 < base) (hw : w.heap.size ≤ base) (s : List ByteArray) (W : World) (l : Nat) (o o' : Obj) (h : PutI w B0 B1 base a0 s W) (hl : W.heap[l]? = some o) (hc : o.isCells = false) (hb : base ≤ l) : PutI w B0 B1 base a0 s (W.putObj l o') := by
  obtain ⟨k0, ⟨v, k1, k2⟩, k3⟩ := h
  have hls := (Array.getElem?_eq_some_iff.1 hl).1
  have hg := grownBy_putObj' W l o'
  refine ⟨(World.putObj_heap_other (by omega)).trans k0, ⟨v, (World.putObj_heap_other (by omega)).trans k1, k2.kept hg (own_ne k2 (fun o2 ho2 => .inl (by rw [hl] at ho2; cases ho2; exact hc)))⟩, k3.grown hg k3.size (fun k e => by cases e; omega)⟩
theorem PutI.alloc (hw : B0 < base) (s : List ByteArray) (W : World) (o : Obj) (h : PutI w B0 B1 base a0 s W) : PutI w B0 B1 base a0 s (W.alloc o) := by
  obtain ⟨k0, ⟨v, k1, k2⟩, k3⟩ := h
  exact ⟨(Below.heap_alloc _ _ _ (Array.getElem?_eq_some_iff.1 k0).1).trans k0, ⟨v, (Below.heap_alloc _ _ _ (Array.getElem?_eq_some_iff.1 k1).1).trans k1, k2.alloc o⟩, k3.alloc k3.size o⟩
theorem PutI.setCell {gb : Nat} (hgs : gb < base) (h0 : gb ≠ B0) (h1 : gb ≠ B1) (hw : w.heap.size ≤ gb) (s : List ByteArray) (W : World) (u : Value) (h : PutI w B0 B1 base a0 s W) : PutI w B0 B1 base a0 s (W.setCell ⟨gb, 0, none⟩ u) := by
  obtain ⟨k0, ⟨v, k1, k2⟩, k3⟩ := h
  have hg : W.grownBy (W.setCell ⟨gb, 0, none⟩ u) (some gb) := ⟨rfl, rfl, rfl, (KeepsWalks.setCell W _ u).size, fun k _ hk => Below.heap_setCell _ _ _ k (fun e => hk (by rw [e]))⟩
  exact ⟨(Below.heap_setCell W ⟨gb, 0, none⟩ u B0 (fun e => h0 e.symm)).trans k0, ⟨v, (Below.heap_setCell W ⟨gb, 0, none⟩ u B1 (fun e => h1 e.symm)).trans k1, k2.kept hg (own_ne k2 (fun _ _ => .inr hgs))⟩, k3.setCell (p := ⟨gb, 0, none⟩) hw u⟩
end
theorem own_isCells {W : World} {base : Nat} {e : TypeId} {size : Nat} {v : Value} {k : Nat} {xs : List Value} (h : W.ownsRow base e size v k xs) : ∀ (j : Nat) (o : Obj), v.ownBlock = some j → W.heap[j]? = some o → o.isCells = true := by
  intro j o hj ho
  rcases h.2 with ⟨rfl, _⟩ | ⟨g, cap, cur, rfl, _, hgb, _⟩
  · simp [Value.ownBlock] at hj
  · have : g = j := by simpa [Value.ownBlock] using hj
    subst this; rw [hgb] at ho; cases ho; rfl
theorem setCell_grown (W : World) (b : Nat) (u : Value) : W.grownBy (W.setCell ⟨b, 0, none⟩ u) (some b) := ⟨rfl, rfl, rfl, (KeepsWalks.setCell W _ u).size, fun k _ hk => Below.heap_setCell _ _ _ k (fun e => hk (by rw [e]))⟩
theorem put_keep {W3 w4 : World} {c o : Obj} {v : Value} {k : Nat} (h3 : W3.heap[k]? = some o) (hg : (W3.alloc c).grownBy w4 v.ownBlock) (hne : v.ownBlock = none ∨ v.ownBlock ≠ some k) : w4.heap[k]? = some o := by
  have hlt := (Array.getElem?_eq_some_iff.1 h3).1
  refine (hg.block k (by simp; omega) ?_).trans ((Below.heap_alloc _ _ _ hlt).trans h3)
  rcases hne with e | e
  · rw [e]; exact fun h => by cases h
  · exact fun h => e h.symm
set_option maxRecDepth 100000 in
set_option maxHeartbeats 2000000 in
theorem sheaf_Put.walk (a0 : Int) (a1 T : ByteArray) (w : World) (h0 : 0 < a0) (h1 : a0 < 18446744073709551616) (hs : (a1.size : Int) ≤ 98304) (hT : tally_Text.f 30 a1 = some T) (hTs : T.size < 200000) :
    Calls Try.prog 8 #[.int .u64 a0, .string a1] w fun e w' => ∃ v0_ : Value, e = .returned (.tuple #[v0_, .int .i64 0]) ∧ Kd.R Kd.string 9 w' w.heap.size (fun _ => True) v0_ ((piecesL T.data.toList).map (leafB a0)) ∧ Below w.heap.size w w' := by
  refine (callsIn_wide (n := 3)).1 ?_
  refine callsIn_of_wp_marks Try.func8 rfl trivial ?_ rfl
  have c0 : (a0 == 0) = false := beq_eq_false_iff_ne.2 (by omega)
  have c1 : decide ((98304 : Int) < (a1.size : Int)) = false := decide_eq_false (by omega)
  have f20 : Fence.wide.fn 20 := trivial
  have f21 : Fence.wide.fn 21 := trivial
  have f22 : Fence.wide.fn 22 := trivial
  have HT := Aside0.mk hT
  have HTs := hid hTs
  have H0 := hid h0
  have H1 := hid h1
  clear hT hTs h0 h1 hs
  simp only [Try.ntmps8, List.size_toArray, List.length_cons, List.length_nil, Nat.reduceAdd, Nat.reduceSub, Array.replicate_succ, Array.replicate_zero, List.push_toArray, List.append_toArray, List.nil_append, List.cons_append]
  gi_wp2_with (first
    | (gi_at_call 21; refine CallsIn.mono (callsIn_wide.2 (tally_Text.calls 30 a1 T _ HT.out)) ?_; rintro e w1 ⟨rfl, b1⟩)
    | (gi_at_call 20; refine CallsIn.mono (callsIn_wide.2 (pieces_calls T _)) ?_; rintro e w2 ⟨rfl, rfl⟩))
  have hsz : ((w.alloc (Obj.cells #[Value.int IntKind.u64 a0] 22)).alloc (Obj.cells #[Value.slice none 0 0] 24)).heap.size = w.heap.size + 2 := by simp
  have hb1 := b1
  rw [hsz] at hb1
  have g0 : w1.heap[w.heap.size]? = some (.cells #[.int .u64 a0] 22 (0, 0)) := (hb1.block _ (by omega)).trans ((Below.heap_alloc _ _ _ (by simp)).trans (heap_alloc_new w _))
  have g1 : w1.heap[w.heap.size + 1]? = some (.cells #[.slice none 0 0] 24 (0, 0)) := (hb1.block _ (by omega)).trans (by have := heap_alloc_new (w.alloc (Obj.cells #[Value.int IntKind.u64 a0] 22)) (Obj.cells #[Value.slice none 0 0] 24); simpa using this)
  have hs1 : w.heap.size + 2 ≤ w1.heap.size := by have := hb1.size; rw [hsz] at this; exact this
  have bw : Below w.heap.size w w1 := (((Below.refl _ w).alloc (Nat.le_refl _) _).alloc (by simp) _).trans (hb1.mono (by omega))
  have hTl : T.data.toList.length = T.size := Array.length_toList
  have hTB : B T.data.toList = T := by simp [B]
  clear hb1 b1 hsz
  refine wpIn_range_pieces 3 w1.heap.size T.data.toList (by have := HTs.out; omega) rfl (Go.Proofs.enters_of Try.func39 (by kernel_rfl) rfl) (by rw [hTB]; exact heap_alloc_new w1 _) rfl
    (PutI w w.heap.size (w.heap.size + 1) (w1.heap.size + 1) a0)
    (fun s W l o o' hi hl hc hle => PutI.putObj (by omega) (by omega) (by omega) s W l o o' hi hl hc (by simpa using hle))
    (fun s W o hi => PutI.alloc (by omega) s W o hi)
    (fun s W v hi => PutI.setCell (by omega) (by omega) (by omega) (by omega) s W v hi)
    ⟨(Below.heap_alloc _ _ _ (by omega)).trans g0, ⟨.slice none 0 0, (Below.heap_alloc _ _ _ (by omega)).trans g1, ⟨rfl, .inl ⟨rfl, rfl⟩⟩⟩, bw.alloc bw.size _⟩
    (fun x => { tmps := #[.int .u64 a0, .string a1, .pointer (some ⟨w.heap.size, 0, none⟩), undef, .slice none 0 0, .int .i64 0, .pointer (some ⟨w.heap.size + 1, 0, none⟩), .string x, undef, undef, .bool false, .int .u64 a0, .bool false, .bool false, .string a1, .int .i64 (a1.size : Int), .bool false, .string a1, .string T, .func (.func 39) #[] #[.pointer (some ⟨w1.heap.size, 0, none⟩)], .string x, undef, undef, undef, undef, undef, undef, undef, undef, undef, undef, undef], defers := [] }) ?assign ?body ?done
  case assign =>
    intro l x W K hK
    gi_wp2
    exact hK
  case body =>
    rintro l j W hjL ⟨k0, ⟨v, k1, k2⟩, k3⟩ hbx
    have hjl : (piecesTo T.data.toList j).length = j := by unfold piecesTo; simp
    have hjm : j < 200000 := by have := HTs.out; omega
    have HJL := hid hjl
    have HJM := hid hjm
    clear hjl hjm hjL
    obtain ⟨i0, hi, hz0, hz1, hz2⟩ := info_parts info9
    have f22' : (Fence.wide.inRound l).fn 22 := trivial
    have hp := leaf_piece a0 H0.out H1.out T.data.toList j
    obtain ⟨X, hX⟩ : ∃ X, X = pieceAt T.data.toList j := ⟨_, rfl⟩
    rw [← hX] at hp ⊢
    obtain ⟨Y, hY⟩ : ∃ Y, Y = leafB a0 X := ⟨_, rfl⟩
    rw [← hY] at hp
    have HP := Aside0.mk hp
    have HY := hid hY
    have HX := hid hX
    have HK2 := Aside0.mk k2
    have HBX := hid hbx
    have HK0 := hid k0
    have HK1 := hid k1
    have HK3 := hid k3
    have HG0 := hid g0
    have HG1 := hid g1
    have HI := hid hi
    have HZ0 := hid hz0
    have HZ1 := hid hz1
    have HZ2 := hid hz2
    have hc0 : W.cell? ⟨w.heap.size, 0, none⟩ = some (.int .u64 a0) := by simp [World.cell?, k0]
    have HS1 := hid hs1
    have HBW := hid bw
    clear hp hX hY k2 hbx k0 k1 k3 g0 g1 hi hz0 hz1 hz2 hs1 bw hTB hTl
    gi_wp2_with (first
      | (gi_at_call 22; refine (CallsIn.inRound l (callsIn_wide.2 (leaf_Put.calls a0 X Y 0 W HP.out))).mono ?_; rintro e w3 ⟨rfl, b3⟩
         have hB3 := hid b3
         have hc1 : w3.cell? ⟨w.heap.size + 1, 0, none⟩ = some v := by
           have := (b3.block _ (Array.getElem?_eq_some_iff.1 HK1.out).1).trans HK1.out
           simp [World.cell?, this]
         have hr3 := Aside0.mk (own_move HK2.out (fun k hk => b3.block k (own_lt HK2.out k hk)))
         have hl3 : W.heap.size ≤ w3.heap.size := b3.size
         clear b3)
      | (gi_at_builtin; refine wpListIn_append_own _ rfl _ _ 24 rfl (w1.heap.size + 1) 9 i0 (.string ⟨#[]⟩) 1 16 Try.underlying24 HI.out HZ0.out HZ1.out HZ2.out rfl (by decide) _ _ _ rfl (hr3.out.alloc _) ⟨w3.heap.size, 0, none⟩ 1 1 [.string Y] rfl rfl (cell_one_new _ _ _) (by simp [Value.oneCell']) (by have := HJL.out; have := HJM.out; simp only [maxLen]; omega) (by have := HJL.out; have := HJM.out; omega) (by have := (Array.getElem?_eq_some_iff.1 HBX.out).1; simp; omega) ?_; intro v' w4 hown' hg4 hnil4
         obtain ⟨g', cap', rfl⟩ : ∃ g' cap', v' = .slice (some ⟨g', 0, none⟩) ((piecesTo T.data.toList j).length + 1) cap' := by
           rcases hown'.2 with ⟨_, hz⟩ | ⟨g', cap', cur', h', _⟩
           · exact absurd hz (by omega)
           · exact ⟨g', cap', h'⟩
         have HO' := Aside0.mk hown'
         have HG4 := hid hg4
         have hb1 : w4.heap[w.heap.size + 1]? = some (.cells #[v] 24 (0, 0)) := by
           exact put_keep ((hB3.out.block _ (Array.getElem?_eq_some_iff.1 HK1.out).1).trans HK1.out) hg4 (own_ne HK2.out (fun _ _ => .inr (by have := HS1.out; omega)))
         have HB1 := hid hb1
         have hc4 : w4.cell? ⟨w.heap.size + 1, 0, none⟩ = some v := by simp [World.cell?, hb1]
         have hf4 : w4.frozen? ⟨w.heap.size + 1, 0, none⟩ = false := by simp [World.frozen?, hb1]
         clear hown' hg4 hnil4 hb1))
    have hG4 := HG4.out
    have hB3' := hB3.out
    have hB1 := HB1.out
    have hO' := HO'.out
    have hs1 := HS1.out
    have hgbW := HBX.out.lt
    have hgb3 : w3.heap[w1.heap.size]? = W.heap[w1.heap.size]? := hB3'.block _ hgbW
    have hgb4 : w4.heap[w1.heap.size]? = W.heap[w1.heap.size]? := (put_keep (hgb3.trans HBX.out) hG4 (own_ne HK2.out (fun _ _ => .inr (by omega)))).trans HBX.out.symm
    have h04 : w4.heap[w.heap.size]? = some (.cells #[.int .u64 a0] 22 (0, 0)) := put_keep ((hB3'.block _ (Array.getElem?_eq_some_iff.1 HK0.out).1).trans HK0.out) hG4 (own_ne HK2.out (fun _ _ => .inr (by omega)))
    have hb4 : Below w.heap.size w w4 := by
      have hb3 : Below w.heap.size w w3 := HK3.out.trans (hB3'.mono HK3.out.size)
      refine (hb3.alloc hb3.size _).grown hG4 (by have := hb3.size; simp; omega) (fun k e => ?_)
      have := own_base HK2.out k e
      omega
    refine ⟨?_, ?_, ?_, ?_, ?_⟩
    · refine ((⟨hB3'.size, fun k o hk _ => (hB3'.block k (Array.getElem?_eq_some_iff.1 hk).1).trans hk⟩ : KeepsOthers W w3).trans (KeepsOthers.alloc _ _)).trans ((KeepsOthers.of_grownBy hG4 (fun q o hq ho => ?_)).trans (KeepsOthers.setCell _ _ _))
      exact own_isCells (hr3.out.alloc (Obj.cells #[Value.string Y] 9)) q o hq ho
    · exact (Below.heap_setCell w4 ⟨w.heap.size + 1, 0, none⟩ _ w1.heap.size (by show w1.heap.size ≠ w.heap.size + 1; omega)).trans hgb4
    · exact (Below.heap_setCell w4 ⟨w.heap.size + 1, 0, none⟩ _ w.heap.size (by show w.heap.size ≠ w.heap.size + 1; omega)).trans h04
    · refine ⟨_, setCell_row w4 (w.heap.size + 1) 0 _ 24 (0, 0) _ hB1, ?_⟩
      have := hO'.kept (setCell_grown w4 (w.heap.size + 1) (.slice (some ⟨g', 0, none⟩) ((piecesTo T.data.toList j).length + 1) cap')) (own_ne hO' (fun _ _ => .inr (by omega)))
      rw [List.length_append, List.map_append, List.length_singleton, List.map_singleton, ← HY.out]
      exact this
    · exact hb4.setCell (p := ⟨w.heap.size + 1, 0, none⟩) (by show w.heap.size ≤ w.heap.size + 1; omega) _
  case done =>
    rintro D W hD ⟨k0, ⟨v, k1, k2⟩, k3⟩ hK
    have hc1 : W.cell? ⟨w.heap.size + 1, 0, none⟩ = some v := by simp [World.cell?, k1]
    have K2 := Aside0.mk k2
    have K3 := hid k3
    have hKK := hid hK
    clear k2 k3 k0 hK
    gi_wp2
    refine ⟨by simp, .inl ⟨_, _, rfl, run_takeDeferred hKK, ?_⟩⟩
    have hDl := (Array.getElem?_eq_some_iff.1 hKK).1
    have hDb : w1.heap.size + 1 ≤ D := by simpa using hD
    have ho := fun (o : Obj) => K2.out.kept (grownBy_putObj' W D o) (own_ne K2.out (fun o2 ho2 => .inl (by rw [hKK] at ho2; cases ho2; rfl)))
    have hb := fun (o : Obj) => K3.out.grown (grownBy_putObj' W D o) K3.out.size (fun k e => by cases e; omega)
    refine ⟨.tuple #[v, .int .i64 0], by simp [results, Try.results8], v, rfl, ?_, hb _⟩
    refine Kd.R_of_own ?_ (fun _ _ => trivial)
    rw [List.length_map]
    have e : encs Value.string ((piecesL T.data.toList).map (leafB a0)) = (piecesL T.data.toList).map (fun p => Value.string (leafB a0 p)) := by
      unfold encs
      rw [List.map_map]
      rfl
    rw [e]
    exact own_weaken (ho _) (show w.heap.size ≤ w1.heap.size + 1 by omega)
theorem sheaf_Put.calls (a0 : Int) (a1 : ByteArray) (r1 : List ByteArray) (r2 : Int) (w : World) (h : sheaf_Put.f a0 a1 = some (r1, r2)) :
    Calls Try.prog 8 #[.int .u64 a0, .string a1] w fun e w' => ∃ v0_ : Value, e = .returned (.tuple #[v0_, .int .i64 r2]) ∧ Kd.R Kd.string 9 w' w.heap.size (fun _ => True) v0_ r1 ∧ Below w.heap.size w w' := by
  unfold sheaf_Put.f at h
  by_cases h0 : a0 = 0
  · rw [if_pos h0] at h
    obtain ⟨rfl, rfl⟩ := Prod.mk.inj (Option.some.inj h)
    subst h0
    clear h
    go_enter Try.func8, Try.ntmps8
    go_wp2
    refine bodyPost_ret (v := .tuple #[.slice none 0 0, .int .i64 2]) (by simp [results, Try.results8]) rfl ⟨_, rfl, Kd.R_nil _ _ _ _ _, (Below.refl _ w).alloc (Nat.le_refl _) _⟩
  · rw [if_neg h0] at h
    by_cases h1 : (a1.size : Int) > 98304
    · rw [if_pos h1] at h
      obtain ⟨rfl, rfl⟩ := Prod.mk.inj (Option.some.inj h)
      have c0 : (a0 == 0) = false := beq_eq_false_iff_ne.2 h0
      have c1 : decide ((98304 : Int) < (a1.size : Int)) = true := decide_eq_true h1
      clear h h0 h1
      go_enter Try.func8, Try.ntmps8
      go_wp2
      refine bodyPost_ret (v := .tuple #[.slice none 0 0, .int .i64 3]) (by simp [results, Try.results8]) rfl ⟨_, rfl, Kd.R_nil _ _ _ _ _, (Below.refl _ w).alloc (Nat.le_refl _) _⟩
    · rw [if_neg h1] at h
      obtain ⟨T, hT, h⟩ := Option.bind_eq_some_iff.mp h
      by_cases h2 : (0 < a0 ∧ a0 < 18446744073709551616) ∧ T.size < 200000
      · rw [if_pos h2] at h
        obtain ⟨rfl, rfl⟩ := Prod.mk.inj (Option.some.inj h)
        exact sheaf_Put.walk a0 a1 T w h2.1.1 h2.1.2 (by omega) hT h2.2
      · rw [if_neg h2] at h; cases h
end Go.Proofs.Ytknmbhllinbcjaa
