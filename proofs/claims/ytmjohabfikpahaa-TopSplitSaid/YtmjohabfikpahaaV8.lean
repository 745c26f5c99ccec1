/- The list in its order: the comparing closure, slices.SortStableFunc, slices.Clone, split.ordered. -/
import Derived.Test.YtmjohabfikpahaaV7
import Derived.Shelf.RegionOpenPlain
import Derived.WalkKit
import Derived.Lib.Walk
import Derived.Lib.SliceRun
import Derived.Laws.AppendOwn
import Derived.OwnWalk
set_option maxRecDepth 1000000
set_option linter.unusedVariables false
set_option linter.unusedSimpArgs false
namespace Go.Proofs.Ytmjohabfikpahaa
open Go Go.Shelf Go.RowKit Go.Lib Go.Sort Go.Proofs
/-- From w to W nothing that was there has changed, but blocks of the list. -/
structure Only (fp : List Nat) (w W : World) : Prop where
  os : W.os = w.os
  tape : W.tape = w.tape
  output : W.output = w.output
  size : w.heap.size ≤ W.heap.size
  block : ∀ k, k < w.heap.size → k ∉ fp → W.heap[k]? = w.heap[k]?
theorem Only.refl (fp : List Nat) (w : World) : Only fp w w := ⟨rfl, rfl, rfl, Nat.le_refl _, fun _ _ _ => rfl⟩
theorem Only.trans {fp fp' : List Nat} {w w1 w2 : World} (h : Only fp w w1) (h' : Only fp' w1 w2) (hf : ∀ k, k ∈ fp' → k < w.heap.size → k ∈ fp) : Only fp w w2 :=
  ⟨h'.os.trans h.os, h'.tape.trans h.tape, h'.output.trans h.output, Nat.le_trans h.size h'.size, fun k hk hn =>
    (h'.block k (Nat.lt_of_lt_of_le hk h.size) (fun e => hn (hf k e hk))).trans (h.block k hk hn)⟩
theorem Only.mono {fp fp' : List Nat} {w W : World} (h : Only fp w W) (hf : ∀ k, k ∈ fp → k ∈ fp') : Only fp' w W := ⟨h.os, h.tape, h.output, h.size, fun k hk hn => h.block k hk (fun e => hn (hf k e))⟩
theorem Only.below {fp : List Nat} {w W : World} (h : Only fp w W) {B : Nat} (hB : B ≤ w.heap.size) (hf : ∀ k, k ∈ fp → B ≤ k) : Below B w W :=
  ⟨h.os, h.tape, h.output, h.size, fun k hk => h.block k (by omega) (fun e => by have := hf k e; omega)⟩
theorem Only.of_below {fp : List Nat} {w W : World} (h : Below w.heap.size w W) : Only fp w W := ⟨h.os, h.tape, h.output, h.size, fun k hk _ => h.block k hk⟩
theorem Only.of_grown {fp : List Nat} {w W : World} {row : Option Nat} (h : w.grownBy W row) (hr : ∀ k, row = some k → k ∈ fp) : Only fp w W :=
  ⟨h.os, h.tape, h.output, h.size, fun k hk hn => h.block k hk (fun e => hn (hr k e.symm))⟩
theorem Only.setCell {fp : List Nat} (w : World) (p : Addr) (v : Value) (hp : p.block ∈ fp) : Only fp w (w.setCell p v) :=
  ⟨rfl, rfl, rfl, by simp [World.setCell], fun k hk hn => heap_setCell_other _ _ _ _ (fun e => hn (e ▸ hp))⟩
theorem Only.alloc (fp : List Nat) (w : World) (o : Obj) : Only fp w (w.alloc o) := ⟨rfl, rfl, rfl, by simp, fun k hk _ => heap_alloc_old w o hk⟩
theorem Only.drewN (fp : List Nat) (w : World) (n : Nat) : Only fp w (w.drewN n) := ⟨rfl, rfl, rfl, Nat.le_refl _, fun _ _ _ => rfl⟩
theorem Only.grow (fp : List Nat) (w : World) (os : Array Obj) : Only fp w (grow w os) := ⟨rfl, rfl, rfl, by rw [size_grow]; omega, fun k hk _ => by
  show (w.heap ++ os)[k]? = _
  rw [Array.getElem?_append_left hk]⟩
theorem Only.putRow {fp : List Nat} (w : World) (blk off : Nat) (d : Array Value) (hb : blk ∈ fp) : Only fp w (Go.Sort.putRow id w blk off d) := by
  refine ⟨rfl, rfl, rfl, by rw [size_putRow]; exact Nat.le_refl _, fun k hk hn => ?_⟩
  have : blk ≠ k := fun e => hn (e ▸ hb)
  simp [Go.Sort.putRow, Go.Sort.mapBlock, Array.getElem?_modify, this]
theorem SWK.only {α : Type} [Inhabited α] {enc : α → List Value} {k : Nat} {w0 W : World} {blk off : Nat} {dk : Array α} (h : SWK enc k w0 blk off dk W) : Only [blk] w0 W := by
  obtain ⟨n, os, rfl⟩ := h
  unfold sortWorldK putRowK
  exact ((Only.drewN _ w0 n).trans (Only.putRow _ _ _ _ (by simp)) (fun _ h _ => h)).trans (Only.grow _ _ _) (fun _ h _ => h)
/-- A share: its quotient, its rest, its place. -/
structure Shr where
  q : Int
  r : Int
  pl : Fin 4096
instance : Inhabited Shr := ⟨⟨0, 0, 0⟩⟩
def encS (x : Shr) : List Value := [.int .i64 x.q, .int .i64 x.r, .int .i64 (x.pl.val : Int)]
def cfS (x y : Shr) : Int := if y.r < x.r then -1 else if x.r < y.r then 1 else (x.pl.val : Int) - (y.pl.val : Int)
theorem cfS_neg (x y : Shr) : ltOf cfS x y = true ↔ y.r < x.r ∨ (x.r = y.r ∧ x.pl.val < y.pl.val) := by
  unfold ltOf cfS
  rw [decide_eq_true_iff]
  split
  · omega
  · split <;> omega
theorem swoS : SWO (ltOf cfS) := by
  have nf : ∀ x y, ltOf cfS x y = false ↔ ¬ (y.r < x.r ∨ (x.r = y.r ∧ x.pl.val < y.pl.val)) := fun x y => by rw [← cfS_neg, Bool.not_eq_true]
  refine ⟨fun x => (nf x x).2 (by omega), fun x y z h1 h2 => ?_, fun x y z h1 h2 => ?_⟩
  · rw [cfS_neg] at *; omega
  · rw [nf] at *; omega
set_option maxHeartbeats 1000000 in
theorem closure11 (x y : Shr) (W : World) : Calls Try.prog 11 #[.agg (encS x).toArray, .agg (encS y).toArray] W fun e w' => e = .returned (.int .i64 (cfS x y)) ∧ ∃ q os', w' = grow (W.drewN q) os' := by
  obtain ⟨xq, xr, ⟨xp, hx⟩⟩ := x
  obtain ⟨yq, yr, ⟨yp, hy⟩⟩ := y
  show Calls Try.prog 11 #[.agg #[.int .i64 xq, .int .i64 xr, .int .i64 (xp : Int)], .agg #[.int .i64 yq, .int .i64 yr, .int .i64 (yp : Int)]] W fun e w' => e = .returned (.int .i64 (if yr < xr then -1 else if xr < yr then 1 else (xp : Int) - (yp : Int))) ∧ ∃ q os', w' = grow (W.drewN q) os'
  by_cases c1 : yr < xr
  · have q1 : decide (yr < xr) = true := decide_eq_true c1
    rw [if_pos c1]
    go_enter Try.func11, Try.ntmps11
    go_wp2
    go_ret
    exact ⟨rfl, 0, _, by rw [alloc_eq_grow, alloc_eq_grow, grow_grow]; rfl⟩
  · have q1 : decide (yr < xr) = false := decide_eq_false c1
    rw [if_neg c1]
    by_cases c2 : xr < yr
    · have q2 : decide (xr < yr) = true := decide_eq_true c2
      rw [if_pos c2]
      go_enter Try.func11, Try.ntmps11
      go_wp2
      go_ret
      exact ⟨rfl, 0, _, by rw [alloc_eq_grow, alloc_eq_grow, grow_grow]; rfl⟩
    · have q2 : decide (xr < yr) = false := decide_eq_false c2
      have e1 : IntKind.i64.wrap ((xp : Int) - (yp : Int)) = (xp : Int) - (yp : Int) := by rw [IntKind.wrap_i64]; omega
      rw [if_neg c2]
      go_enter Try.func11, Try.ntmps11
      go_wp2
      go_ret
      exact ⟨by first | rfl | go_num, 0, _, by rw [alloc_eq_grow, alloc_eq_grow, grow_grow]; rfl⟩
theorem cmprS (blk off size : Nat) (w : World) : Cmpr Try.prog 11 #[] encS 3 cfS blk off size w :=
  ⟨enters_of Try.func11 (by kernel_rfl) rfl, fun _ _ _ _ x y => closure11 x y _, swoS⟩
theorem encS_len (x : Shr) : (encS x).length = 3 := rfl
theorem encS_one (x : Shr) : ∀ v ∈ encS x, v.oneCell' = true := by
  intro v hv
  unfold encS at hv
  simp only [List.mem_cons, List.not_mem_nil, or_false] at hv
  rcases hv with rfl | rfl | rfl <;> rfl
set_option maxHeartbeats 1000000 in
theorem sortStable_calls {w : World} {blk : Nat} {d : Array Shr} (cap : Nat) (hH : HoldsK encS 3 w blk 0 d) (hblk : blk < w.heap.size) (hsz : d.size ≤ 4096) :
    Calls Try.prog 19 #[.slice (some ⟨blk, 0, none⟩) d.size cap, .func (.func 11) #[] #[]] w fun e w' => e = .returned (.tuple #[]) ∧ ∃ d', PermIn 0 d.size d d' ∧ SortedIn (ltOf cfS) 0 d.size d' ∧ SWK encS 3 w blk 0 d' w' := by
  have hc := stable_calls sh_try ⟨encS_len, encS_one, hH, hblk⟩ (cmprS blk 0 d.size w) rfl (SWK.start hH) cap hsz
  have e23 : ∀ args w, (callFunc 23 args).run Try.prog w = .ok (.enter 23 args) w := enters_of Try.func23 (by kernel_rfl) rfl
  obtain ⟨n, hn⟩ : ∃ n, n = d.size := ⟨_, rfl⟩
  have hn4 : n ≤ 4096 := by omega
  rw [← hn] at hc ⊢
  clear hH hn hsz
  go_enter Try.func19, Try.ntmps19
  go_wp2_with fail
  go_at_call 23
  refine hc.mono ?_
  rintro e w1 ⟨rfl, d', p, s, S⟩
  have HS : Aside (PermIn 0 n d d' ∧ SortedIn (ltOf cfS) 0 n d' ∧ SWK encS 3 w blk 0 d' w1) := ⟨p, s, S⟩
  clear hc p s S
  go_wp2_with fail
  go_end0
  exact ⟨rfl, d', HS.out⟩
theorem info36 : ∃ i, Try.prog.info? 36 = some i ∧ i.zero = some (.agg #[.int .i64 0, .int .i64 0, .int .i64 0]) ∧ i.size = 3 ∧ i.bytes = 24 := by
  have h : (Try.prog.info? 36).map (fun i => (i.zero, i.size, i.bytes)) = some (some (.agg #[.int .i64 0, .int .i64 0, .int .i64 0]), 3, 24) := by kernel_rfl
  obtain ⟨i, hi, hzz⟩ := Option.map_eq_some_iff.1 h
  simp only [Prod.mk.injEq] at hzz
  exact ⟨i, hi, hzz.1, hzz.2.1, hzz.2.2⟩
set_option maxHeartbeats 2000000 in
theorem clone_calls (b n c : Nat) (news : List Value) (w : World) (hl : news.length = n * 3) (hn : n ≤ 4096) (hc : ∀ j u, news[j]? = some u → w.cell? ⟨b, j, none⟩ = some u) (h1 : ∀ u ∈ news, u.oneCell' = true) :
    Calls Try.prog 18 #[.slice (some ⟨b, 0, none⟩) n c] w fun e w' => ∃ v', e = .returned v' ∧ w'.ownsRow w.heap.size 36 3 v' n news ∧ v' ≠ .slice none 0 0 ∧ Below w.heap.size w w' := by
  obtain ⟨i0, hi, hz0, hz1, hz2⟩ := info36
  have q34 : ∀ (w : World) (a : Option Addr) (n c n' c' : Nat), (binOp .eql 34 (.slice a n c) (.slice none n' c')).run Try.prog w = .ok (.bool a.isNone) w := fun w a n c n' c' => Lib.run_eql_slice_nil w _ _ a n c n' c' Try.underlying34
  have A : Aside (∀ j u, news[j]? = some u → w.cell? ⟨b, j, none⟩ = some u) := hc
  clear hc
  go_enter Try.func18, Try.ntmps18
  go_wp2_with (at_builtin; refine wpList_append_own _ rfl _ _ 34 rfl w.heap.size 36 i0 (.agg #[.int .i64 0, .int .i64 0, .int .i64 0]) 3 24 Try.underlying34 hi hz0 hz1 hz2 rfl (by decide) _ _ _ rfl (World.ownsRow_made w #[] 0 (Nat.le_refl _) (Nat.zero_le _) (by simp)) ⟨b, 0, none⟩ n c news rfl ?qc1 ?qc2 ?qc3 ?qc4 ?qc5 ?qc6 ?_)
  case qc1 => exact hl
  case qc2 =>
    intro j u hj
    rw [Addr.add_lit, Nat.zero_add]
    exact Lib.cell?_alloc_some _ (A.out j u hj)
  case qc3 => exact h1
  case qc4 => show 0 + n ≤ maxLen; simp only [maxLen]; omega
  case qc5 => omega
  case qc6 => simp
  intro v' w1 hown hgrow hnil
  go_wp2
  go_ret
  refine ⟨v', rfl, by simpa using hown, ?_, ?_⟩
  · exact hnil
  · exact ((Below.refl _ w).alloc (Nat.le_refl _) _).grown hgrow (by simp) (by intro k hk; simp [Value.ownBlock] at hk; omega)
theorem flat_len (d : Array Shr) : (flatK encS 3 d).toList.length = d.size * 3 := by simp
/-- A row that is owned holds its shares. -/
theorem holds_own {w : World} {base g cap : Nat} {d : Array Shr} (h : w.ownsRow base 36 3 (.slice (some ⟨g, 0, none⟩) d.size cap) d.size (flatK encS 3 d).toList) : HoldsK encS 3 w g 0 d := by
  rcases h.2 with ⟨h0, _⟩ | ⟨g', cap', cur, hv, hb, hg, h2, h3, h4, h5⟩
  · cases h0
  · cases hv
    intro j hj
    have hj2 : j < (flatK encS 3 d).toList.length := by simpa using hj
    rw [Nat.zero_add]
    refine ⟨?_, frozen_of_row w _ _ _ _ hg⟩
    rw [cell_of_row w _ _ _ _ _ hg]
    have e : (flatK encS 3 d).toList[j]? = some (flatK encS 3 d)[j]! := by
      rw [Array.getElem?_toList, getElem!_pos _ j hj, Array.getElem?_eq_getElem hj]
    rw [← h5, List.getElem?_take_of_lt (by rw [← h5] at hj2; rw [List.length_take] at hj2; omega), Array.getElem?_toList] at e
    exact e
set_option maxHeartbeats 2000000 in
theorem ordered_calls {w : World} {b cap : Nat} {d : Array Shr} (hc : ∀ j u, (flatK encS 3 d).toList[j]? = some u → w.cell? ⟨b, j, none⟩ = some u) (hsz : d.size ≤ 4096) :
    Calls Try.prog 10 #[.slice (some ⟨b, 0, none⟩) d.size cap, .func (.func 11) #[] #[]] w fun e w' => ∃ g cap' d', e = .returned (.slice (some ⟨g, 0, none⟩) d.size cap') ∧ w.heap.size ≤ g ∧ g < w'.heap.size ∧ PermIn 0 d.size d d' ∧ SortedIn (ltOf cfS) 0 d.size d' ∧ HoldsK encS 3 w' g 0 d' ∧ Only [] w w' := by
  have hone : ∀ u ∈ (flatK encS 3 d).toList, u.oneCell' = true := fun u hu => by
    obtain ⟨j, hj, e⟩ := List.getElem_of_mem hu
    have hj2 : j < d.size * 3 := by simpa using hj
    have e2 : u = (flatK encS 3 d)[j]! := by rw [← e, Array.getElem_toList, getElem!_pos _ j (by simpa using hj2)]
    rw [e2, get_flatK _ _ _ j hj2]
    refine encS_one d[j / 3]! _ ?_
    have hm : j % 3 < (encS d[j / 3]!).length := by rw [encS_len]; omega
    rw [getElem!_pos (encS d[j / 3]!) (j % 3) hm]
    exact List.getElem_mem hm
  have hcl := clone_calls b d.size cap (flatK encS 3 d).toList w (flat_len d) hsz hc hone
  have HST : Aside (∀ (g c : Nat) (wr : World), HoldsK encS 3 wr g 0 d → g < wr.heap.size → Calls Try.prog 19 #[.slice (some ⟨g, 0, none⟩) d.size c, .func (.func 11) #[] #[]] wr fun e w' => e = .returned (.tuple #[]) ∧ ∃ d', PermIn 0 d.size d d' ∧ SortedIn (ltOf cfS) 0 d.size d' ∧ SWK encS 3 wr g 0 d' w') := fun g c wr h1 h2 => sortStable_calls c h1 h2 hsz
  have HO : Aside (∀ (g c : Nat) (wr : World), wr.ownsRow w.heap.size 36 3 (.slice (some ⟨g, 0, none⟩) d.size c) d.size (flatK encS 3 d).toList → HoldsK encS 3 wr g 0 d) := fun g c wr h => holds_own h
  have HF : Aside (∀ (g : Nat) (wr w1 : World) (d' : Array Shr), PermIn 0 d.size d d' → SWK encS 3 wr g 0 d' w1 → HoldsK encS 3 wr g 0 d → g < wr.heap.size → HoldsK encS 3 w1 g 0 d') := fun g wr w1 d' p S hH hg => S.holds hg hH p.1
  obtain ⟨n, hn⟩ : ∃ n, n = d.size := ⟨_, rfl⟩
  rw [← hn] at hcl HST HO HF ⊢
  have hn4 : n ≤ 4096 := by omega
  generalize (flatK encS 3 d).toList = news at hcl HO
  have e18 : ∀ args w, (callFunc 18 args).run Try.prog w = .ok (.enter 18 args) w := enters_of Try.func18 (by kernel_rfl) rfl
  have e19 : ∀ args w, (callFunc 19 args).run Try.prog w = .ok (.enter 19 args) w := enters_of Try.func19 (by kernel_rfl) rfl
  clear hc hone hn hsz
  go_enter Try.func10, Try.ntmps10
  go_wp2_with fail
  go_at_call 18
  refine hcl.mono ?_
  rintro e w1 ⟨v', rfl, hown, hnn, hbel⟩
  obtain ⟨g, c, rfl⟩ : ∃ g c, v' = .slice (some ⟨g, 0, none⟩) n c := by
    rcases hown.2 with ⟨h0, _⟩ | ⟨g, cp, cur, hv, _⟩
    · exact absurd h0 hnn
    · exact ⟨g, cp, hv⟩
  have hlt := World.ownsRow.lt hown g rfl
  have hH := HO.out g c w1 hown
  have HB : Aside (Only [] w w1) := Only.of_below hbel
  have HH : Aside (HoldsK encS 3 w1 g 0 d) := hH
  have hc2 := HST.out g c w1 hH hlt.2
  clear hcl hown hnn hbel hH HST HO
  go_wp2_with fail
  go_at_call 19
  refine hc2.mono ?_
  rintro e w2 ⟨rfl, d', p, s, S⟩
  have HP : Aside (PermIn 0 n d d' ∧ SortedIn (ltOf cfS) 0 n d' ∧ HoldsK encS 3 w2 g 0 d' ∧ Only [] w w2) := ⟨p, s, HF.out g w1 w2 d' p S HH.out hlt.2, HB.out.trans (SWK.only S) (fun k hk hl => by have h9 := hlt.1; rw [List.mem_singleton] at hk; omega)⟩
  have hl2 : g < w2.heap.size := Nat.lt_of_lt_of_le hlt.2 (SWK.only S).size
  clear hc2 p s S HB HH HF
  go_wp2_with fail
  go_ret
  exact ⟨g, c, d', rfl, hlt.1, hl2, HP.out⟩
end Go.Proofs.Ytmjohabfikpahaa
