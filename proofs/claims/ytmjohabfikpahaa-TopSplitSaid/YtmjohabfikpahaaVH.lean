/- split.Split, by walking it. -/
import Derived.Test.YtmjohabfikpahaaVG
import Derived.Deep.RegionHeld3
import Derived.Deep.RegionLaw
set_option maxRecDepth 1000000
set_option linter.unusedVariables false
set_option linter.unusedSimpArgs false
namespace Go.Proofs.Ytmjohabfikpahaa
open Go Go.Shelf Go.RowKit Go.Lib Go.Sort Go.Proofs
/-- The weights as numbers. -/
def nats (zs : List Int) : List Nat := zs.map Int.toNat
theorem nats_len (zs : List Int) : (nats zs).length = zs.length := by unfold nats; simp
theorem nats_at (zs : List Int) (h : ∀ z ∈ zs, 0 ≤ z) (i : Nat) : ((nats zs).getD i 0 : Int) = zs.getD i 0 := by
  unfold nats
  rw [List.getD_eq_getElem?_getD, List.getD_eq_getElem?_getD, List.getElem?_map]
  by_cases c : i < zs.length
  · rw [List.getElem?_eq_getElem c]
    have := h _ (List.getElem_mem c)
    simp
    omega
  · rw [List.getElem?_eq_none (by omega)]; rfl
theorem nats_sum (zs : List Int) (h : ∀ z ∈ zs, 0 ≤ z) : ((nats zs).sum : Int) = zs.sum := by
  unfold nats
  induction zs with
  | nil => rfl
  | cons z l ih =>
    have h1 := ih (fun y hy => h y (by simp [hy]))
    have h2 := h z (by simp)
    simp only [List.map_cons, List.sum_cons]
    omega
theorem le_sum (W : List Nat) (i : Nat) : W.getD i 0 ≤ W.sum := by
  induction W generalizing i with
  | nil => simp
  | cons a l ih =>
    cases i with
    | zero => simp
    | succ i => have := ih i; simp only [List.getD_cons_succ, List.sum_cons]; omega
/-- The slices so far: the quotients of those that were met. -/
def qouts (T S : Nat) (W : List Nat) (n i : Nat) : List Int := (List.range n).map fun x => if x < i then (qN T S W x : Int) else 0
theorem qouts_len (T S : Nat) (W : List Nat) (n i : Nat) : (qouts T S W n i).length = n := by unfold qouts; simp
theorem qouts_zero (T S : Nat) (W : List Nat) (n : Nat) : qouts T S W n 0 = List.replicate n 0 := by
  unfold qouts
  refine List.ext_getElem (by simp) fun x h1 h2 => by simp
theorem qouts_get (T S : Nat) (W : List Nat) (n i x : Nat) (hx : x < (qouts T S W n i).length) : (qouts T S W n i)[x] = if x < i then (qN T S W x : Int) else 0 := by simp [qouts]
theorem qouts_set (T S : Nat) (W : List Nat) {n i : Nat} (hi : i < n) : (qouts T S W n i).set i (qN T S W i : Int) = qouts T S W n (i + 1) := by
  refine List.ext_getElem (by rw [List.length_set, qouts_len, qouts_len]) fun x h1 h2 => ?_
  rw [List.getElem_set, qouts_get, qouts_get]
  split
  · rename_i e
    subst e
    simp
  · rename_i e
    by_cases c : x < i
    · rw [if_pos c, if_pos (by omega)]
    · rw [if_neg c, if_neg (by omega)]
theorem qouts_all (T S : Nat) (W : List Nat) (D : List Shr) : qouts T S W W.length W.length = outs T S W D 0 := by
  unfold qouts outs
  refine List.map_congr_left fun x hx => ?_
  rw [if_pos (List.mem_range.1 hx), outAt_zero]
theorem qN_le (T S : Nat) (W : List Nat) (x : Nat) (h : W.getD x 0 ≤ S) (h0 : 0 < S) : qN T S W x ≤ T := by
  unfold qN
  have h1 : T * W.getD x 0 ≤ T * S := Nat.mul_le_mul_left _ h
  have h2 := Nat.div_le_div_right (c := S) h1
  rwa [Nat.mul_div_cancel _ h0] at h2
theorem wrap_ok (n : Int) (h : I64 n) : RowKit.wrap64 n = n ∧ IntKind.i64.wrap n = n := by
  unfold I64 at h
  exact ⟨by unfold RowKit.wrap64; omega, by rw [IntKind.wrap_i64]; omega⟩
theorem toList_at (d : Array Shr) (a : Nat) : d.toList[a]! = d[a]! := by
  by_cases h : a < d.size
  · rw [getElem!_pos d.toList a (by simpa using h), getElem!_pos d a h]; simp
  · rw [getElem!_neg d.toList a (by simpa using h), getElem!_neg d a h]
set_option maxHeartbeats 8000000 in
theorem Split_calls (T : Nat) (A : Option Addr) (zs : List Int) (n c : Nat) (w : World) (hT : T < 4611686018427387904) (hI : Ints w A zs) (hn : n = zs.length) (hz : ∀ z ∈ zs, I64 z) (hF : Fine zs) :
    Calls Try.prog 4 #[.int .i64 T, .slice A n c] w fun e w' => ∃ (O : Nat) (o : List Int), e = .returned (.tuple #[.slice (some ⟨O, 0, none⟩) n n, .int .i64 0]) ∧ Told T zs.sum.toNat (nats zs) o ∧ Ints w' (some ⟨O, 0, none⟩) o ∧ Only [] w w' := by
  have hsum := sum_calls A zs n c w hI hn hz (by have := hF.2.1; omega)
  have e8 : ∀ args w, (callFunc 8 args).run Try.prog w = .ok (.enter 8 args) w := enters_of Try.func8 (by kernel_rfl) rfl
  have e7 : ∀ args w, (callFunc 7 args).run Try.prog w = .ok (.enter 7 args) w := enters_of Try.func7 (by kernel_rfl) rfl
  have e9 : ∀ args w, (callFunc 9 args).run Try.prog w = .ok (.enter 9 args) w := enters_of Try.func9 (by kernel_rfl) rfl
  have e10 : ∀ args w, (callFunc 10 args).run Try.prog w = .ok (.enter 10 args) w := enters_of Try.func10 (by kernel_rfl) rfl
  have mixed : Try.prog.follows Departure.mixedOrders = true := sh_try.mixed
  obtain ⟨W, hW⟩ : ∃ W, W = nats zs := ⟨_, rfl⟩
  obtain ⟨S, hS⟩ : ∃ S, S = zs.sum.toNat := ⟨_, rfl⟩
  have hpos := hF.2.2.1
  have hs1 := hF.2.2.2
  have hsS : zs.sum = (S : Int) := by omega
  have HSW : Aside (S = W.sum) := by
    have := nats_sum zs hpos
    show S = W.sum
    rw [hW]; omega
  have HWz : Aside (∀ i, zs.getD i 0 = (W.getD i 0 : Int)) := fun i => by rw [hW]; exact (nats_at zs hpos i).symm
  have hWn : W.length = n := by rw [hW, nats_len]; omega
  have HWn : Aside (W.length = n) := hWn
  have hn0 : 0 < n := by have := hF.1; omega
  have hn4 : n ≤ 4096 := by have := hF.2.1; omega
  have hS0 : 0 < S := by omega
  have hSb : S < 4611686018427387904 := by omega
  have HF : Aside (Fine zs) := hF
  have HI : Aside (Ints w A zs) := hI
  have HN : Aside (n = zs.length) := hn
  rw [← hW, ← hS]
  have HSs : Aside (zs.sum = (S : Int)) := hsS
  have t1 : decide ((T : Int) < 0) = false := decide_eq_false (by omega)
  have t2 : decide ((4611686018427387904 : Int) ≤ (T : Int)) = false := decide_eq_false (by omega)
  clear hF hI hz hn hW hS hpos hs1 hsS hWn
  have HMK := run_make22 n hn4
  go_enter Try.func4, Try.ntmps4
  go_wp2_with fail
  go_at_call 8
  refine hsum.mono ?_
  rintro e w1 ⟨s, is, rfl, hs1, hs2, ho⟩
  have his := hs1.2 HF.out
  subst his
  have hsv := hs2 rfl
  rw [HSs.out] at hsv
  subst hsv
  have HO1 : Aside (Only [] w w1) := ho
  clear hsum hs1 hs2 ho
  obtain ⟨L, hL⟩ : ∃ L, w1.heap.size = L := ⟨_, rfl⟩
  obtain ⟨wb, hwb⟩ : ∃ wb, (w1.alloc (.cells #[.int .i64 (T : Int)] 2)).alloc (.cells (ivals (List.replicate n 0)).toArray 2) = wb := ⟨_, rfl⟩
  have hsz : wb.heap.size = L + 2 := by rw [← hwb]; simp [hL]
  have HB : Aside (Only [] w wb) := by
    show Only [] w wb
    rw [← hwb]
    exact (HO1.out.trans (Only.alloc [] _ _) (fun _ h _ => h)).trans (Only.alloc [] _ _) (fun _ h _ => h)
  have hLw : w.heap.size ≤ L := by rw [← hL]; exact HO1.out.size
  have HSP : Aside (Sp wb wb L (L + 1) ((T : Int) - (usum (qN T S W) 0 : Nat)) (qouts T S W n 0)) := by
    refine ⟨Only.refl _ _, ?_, ?_, by omega, by omega, by omega⟩
    · rw [← hwb, heap_alloc_old _ _ (by simp; omega), ← hL]
      have e : ((T : Int) - (usum (qN T S W) 0 : Nat)) = (T : Int) := by simp [usum]
      rw [e]
      exact heap_alloc_new w1 _
    · rw [← hwb, qouts_zero]
      have h := heap_alloc_new (w1.alloc (.cells #[.int .i64 (T : Int)] 2)) (.cells (ivals (List.replicate n 0)).toArray 2)
      rw [show (w1.alloc (.cells #[.int .i64 (T : Int)] 2)).heap.size = L + 1 by simp [hL]] at h
      exact h
  have HOW : Aside (wb.ownsRow wb.heap.size 36 3 (.slice none 0 0) 0 ((shares T S W 0).flatMap encS)) := World.ownsRow_nil _ _ _ _
  go_wp2_with fail
  go_loopg [41, 10] n (fun kx s41 s10 wr => ∃ (i : Nat) (v : Value), s41 = .int .i64 i ∧ s10 = v ∧ i ≤ n ∧ n - i ≤ kx ∧ Aside (Sp wb wr L (L + 1) ((T : Int) - (usum (qN T S W) i : Nat)) (qouts T S W n i)) ∧ Aside (wr.ownsRow wb.heap.size 36 3 v i ((shares T S W i).flatMap encS)))
  case atStart => exact ⟨0, _, rfl, rfl, by omega, by omega, HSP, HOW⟩
  case round =>
    clear HSP HOW
    obtain ⟨i, v, rfl, hv0, hin, hk, SP, OW⟩ := hrel
    have hv1 := hv0.symm
    clear hv0
    subst hv1
    have HOB : Aside (Only [] w wr) := HB.out.trans SP.out.only (fun k hk hl => by simp only [List.mem_cons, List.not_mem_nil, or_false] at hk; omega)
    by_cases hlt : i < n
    · have q1 : decide ((i : Int) < (n : Int)) = true := decide_eq_true (by omega)
      obtain ⟨b, off, hA, hb, hc⟩ := (HI.out.new HOB.out) (by have := HN.out; omega)
      subst hA
      obtain ⟨wi, hwi⟩ : ∃ wi, wi = W.getD i 0 := ⟨_, rfl⟩
      have hcz := hc i (by have := HN.out; omega)
      rw [HWz.out i, ← hwi] at hcz
      have hwS : wi ≤ S := by rw [hwi, HSW.out]; exact le_sum W i
      have hmd := MulDiv_calls T wi S wr hT hwS hS0 hSb
      obtain ⟨q, hq⟩ : ∃ q, T * wi / S = q := ⟨_, rfl⟩
      obtain ⟨r, hr⟩ : ∃ r, T * wi % S = r := ⟨_, rfl⟩
      rw [hq, hr] at hmd
      have HQ : Aside (qN T S W i = q ∧ rN T S W i = r) := ⟨by unfold qN; rw [← hwi]; exact hq, by unfold rN; rw [← hwi]; exact hr⟩
      have HSH : Aside (encS (share T S W i) = [.int .i64 (q : Int), .int .i64 (r : Int), .int .i64 (i : Int)]) := by
        show [Value.int .i64 (qN T S W i : Int), .int .i64 (rN T S W i : Int), .int .i64 (((share T S W i).pl.val : Nat) : Int)] = _
        rw [HQ.out.1, HQ.out.2, share_pl T S W (by omega)]
      have ei : ((i : Int)).toNat = i := by omega
      have hin2 : (i : Int) < (n : Int) := by omega
      clear hc hwi hq hr HOB
      go_wp2_with fail
      go_at_call 7
      refine hmd.mono ?_
      rintro e w2 ⟨rfl, o2⟩
      have SP2 : Aside (Sp wb w2 L (L + 1) ((T : Int) - (usum (qN T S W) i : Nat)) (qouts T S W n i)) := SP.out.new o2
      have OW2 : Aside (w2.ownsRow wb.heap.size 36 3 v i ((shares T S W i).flatMap encS)) := ownsRow_kept OW.out o2 (by simp)
      clear hmd o2 SP OW hcz
      obtain ⟨i0, hi36, hz0, hz1, hz2⟩ := info36
      go_wp2_with (at_builtin; refine wpList_append_own _ rfl _ _ 34 rfl wb.heap.size 36 i0 (.agg #[.int .i64 0, .int .i64 0, .int .i64 0]) 3 24 Try.underlying34 hi36 hz0 hz1 hz2 rfl (by decide) v i ((shares T S W i).flatMap encS) rfl (World.ownsRow.alloc OW2.out _) ⟨w2.heap.size, 0, none⟩ 1 1 [.int .i64 (q : Int), .int .i64 (r : Int), .int .i64 (i : Int)] rfl ?qc1 ?qc2 ?qc3 ?qc4 ?qc5 ?qc6 ?_)
      case qc1 => rfl
      case qc2 =>
        intro j u hj
        rw [Addr.add_lit, Nat.zero_add, cell_of_row _ _ _ _ _ _ (heap_alloc_new w2 _)]
        show ([Value.int .i64 (q : Int), Value.int .i64 (r : Int), Value.int .i64 (i : Int)].toArray)[j]? = _
        rw [List.getElem?_toArray]; exact hj
      case qc3 =>
        intro u hu
        simp only [List.mem_cons, List.not_mem_nil, or_false] at hu
        rcases hu with rfl | rfl | rfl <;> rfl
      case qc4 => simp only [maxLen]; omega
      case qc5 => omega
      case qc6 => have := SP2.out.only.size; simp; omega
      intro v' w3 hown hgrow hnil
      have ho3 : Only v.ownBlock.toList w2 w3 := (Only.alloc _ w2 _).trans (Only.of_grown hgrow (fun k hk => by rw [hk]; simp)) (fun _ h _ => h)
      have SP3 : Aside (Sp wb w3 L (L + 1) ((T : Int) - (usum (qN T S W) i : Nat)) (qouts T S W n i)) := SP2.out.kept ho3 (fun k hk => (World.ownsRow.lt OW2.out k (by simpa using hk)).1)
      have OW3 : Aside (w3.ownsRow wb.heap.size 36 3 v' (i + 1) ((shares T S W (i + 1)).flatMap encS)) := by
        show w3.ownsRow _ _ _ _ _ _
        rw [shares_succ, List.flatMap_append, List.flatMap_cons, List.flatMap_nil, List.append_nil, HSH.out, hsz]
        exact hown
      clear hown hgrow hnil ho3 SP2 OW2 hi36 hz0 hz1 hz2
      have HLO : Aside (usum (qN T S W) (i + 1) ≤ T) := Nat.le_trans (usum_mono _ (by have := HWn.out; omega)) (left_over HSW.out hS0).1
      have hus : usum (qN T S W) (i + 1) = usum (qN T S W) i + q := by rw [← HQ.out.1]; rfl
      obtain ⟨lf, hlf⟩ : ∃ lf : Int, lf = (T : Int) - (usum (qN T S W) i : Nat) := ⟨_, rfl⟩
      have htk := take_calls (q : Int) lf L w3 (by unfold I64; have := HLO.out; omega) (by rw [hlf]; exact SP3.out.hL)
      have HLF : Aside (lf - (q : Int) = (T : Int) - (usum (qN T S W) (i + 1) : Nat)) := by show lf - (q : Int) = _; omega
      have SP4 : Aside (Sp wb (w3.setCell ⟨L, 0, none⟩ (.int .i64 (lf - (q : Int)))) L (L + 1) ((T : Int) - (usum (qN T S W) (i + 1) : Nat)) (qouts T S W n i)) := by
        rw [HLF.out]; exact (SP3.out.take _).1
      have OW4 : Aside ((w3.setCell ⟨L, 0, none⟩ (.int .i64 (lf - (q : Int)))).ownsRow wb.heap.size 36 3 v' (i + 1) ((shares T S W (i + 1)).flatMap encS)) := ownsRow_kept OW3.out (SP3.out.take _).2 (fun k hk e => by have h8 := (World.ownsRow.lt OW3.out k (by simpa using hk)).1; rw [List.mem_singleton] at e; omega)
      clear hus hlf SP3 OW3 HLO
      go_wp2_with fail
      go_at_call 9
      refine htk.mono ?_
      rintro e w4 ⟨rfl, hw4⟩
      have SP5 : Aside (Sp wb w4 L (L + 1) ((T : Int) - (usum (qN T S W) (i + 1) : Nat)) (qouts T S W n i)) := by rw [hw4]; exact SP4.out
      have OW5 : Aside (w4.ownsRow wb.heap.size 36 3 v' (i + 1) ((shares T S W (i + 1)).flatMap encS)) := by rw [hw4]; exact OW4.out
      have d1 := SP5.out.cellO (j := i) (by rw [qouts_len]; exact hlt)
      have d2 := SP5.out.frozenO i
      have SP6 : Aside (Sp wb (w4.setCell ⟨L + 1, i, none⟩ (.int .i64 (q : Int))) L (L + 1) ((T : Int) - (usum (qN T S W) (i + 1) : Nat)) (qouts T S W n (i + 1))) := by
        rw [← qouts_set T S W hlt, HQ.out.1]; exact (SP5.out.put i (q : Int)).1
      have OW6 : Aside ((w4.setCell ⟨L + 1, i, none⟩ (.int .i64 (q : Int))).ownsRow wb.heap.size 36 3 v' (i + 1) ((shares T S W (i + 1)).flatMap encS)) := ownsRow_kept OW5.out (SP5.out.put i (q : Int)).2 (fun k hk e => by have h8 := (World.ownsRow.lt OW5.out k (by simpa using hk)).1; rw [List.mem_singleton] at e; omega)
      clear htk hw4 SP4 OW4 SP5 OW5
      go_wp2_with fail
      go_roundg (n - (i + 1))
      case measure => omega
      case rel => exact ⟨i + 1, v', by go_num, rfl, hlt, Nat.le_refl _, SP6, OW6⟩
    · have q1 : decide ((i : Int) < (n : Int)) = false := decide_eq_false (by omega)
      have hin2 : i = n := by omega
      subst hin2
      obtain ⟨g, cap, rfl⟩ : ∃ g cap, v = .slice (some ⟨g, 0, none⟩) i cap := by
        rcases OW.out.2 with ⟨_, h0⟩ | ⟨g, cap, cur, rfl, _⟩
        · omega
        · exact ⟨g, cap, rfl⟩
      have hds : (shares T S W i).toArray.size = i := by simp [shares_len]
      have hor := ordered_calls (w := wr) (b := g) (cap := cap) (d := (shares T S W i).toArray) (fun j u hj => by
        rw [flat_list] at hj
        have h9 := World.ownsRow.cells OW.out (g := g) rfl j u hj
        rw [Addr.add_lit, Nat.zero_add] at h9
        exact h9) (by omega)
      rw [hds] at hor
      have HSRT : Aside (∀ d' : Array Shr, PermIn 0 i (shares T S W i).toArray d' → SortedIn (ltOf cfS) 0 i d' → Sorted T S W d'.toList ∧ d'.size = i) := fun d' p s => by
        have hsd : d'.size = i := p.1.trans hds
        refine ⟨⟨?_, fun a b hab hb => ?_, by rw [HWn.out]; exact hn4⟩, hsd⟩
        · have h9 := p.2.2
          rw [Array.toList_extract, Array.toList_extract] at h9
          simp only [List.extract_eq_take_drop, List.drop_zero, Nat.sub_zero] at h9
          rw [List.take_of_length_le (by simp [hsd]), List.take_of_length_le (by simp [shares_len])] at h9
          rw [HWn.out]
          exact h9
        · have h9 := s a b (by omega) hab (by simpa [hsd] using hb)
          rw [toList_at, toList_at]; exact h9
      have HG : Aside (wb.heap.size ≤ g) := (World.ownsRow.lt OW.out g rfl).1
      clear hds OW
      generalize (shares T S W i).toArray = d at hor HSRT
      go_wp2_with fail
      go_at_call 10
      refine hor.mono ?_
      rintro e w2 ⟨g2, cap2, d', rfl, hg1, hg2, p, s, hH, o2⟩
      obtain ⟨hS1, hS2⟩ := HSRT.out d' p s
      have HST : Aside (Sorted T S W d'.toList) := hS1
      have HSZ : Aside (d'.size = i) := hS2
      have SP2 : Aside (Sp wb w2 L (L + 1) ((T : Int) - (usum (qN T S W) i : Nat)) (qouts T S W i i)) := SP.out.new o2
      have HH : Aside (HoldsK encS 3 w2 g2 0 d') := hH
      have HG2 : Aside (wb.heap.size ≤ g2) := Nat.le_trans SP.out.only.size hg1
      have HGL : Aside (g2 < w2.heap.size) := hg2
      clear hor HSRT hg1 hg2 p s hH o2 hS1 hS2 SP HG
      obtain ⟨m0, hm0⟩ : ∃ m0, m0 = T - usum (qN T S W) i := ⟨_, rfl⟩
      have HM0 : Aside (m0 = T - usum (qN T S W) i) := hm0
      have hm0n : m0 ≤ i := by have h9 := (left_over (T := T) HSW.out hS0).2.2; rw [HWn.out] at h9; omega
      have hlf : (T : Int) - (usum (qN T S W) i : Nat) = (m0 : Int) := by have h9 := (left_over (T := T) HSW.out hS0).1; rw [HWn.out] at h9; omega
      have hqo : qouts T S W i i = outs T S W d'.toList 0 := by rw [← qouts_all T S W d'.toList, HWn.out]
      rw [hlf, hqo] at SP2
      clear hm0 hlf hqo
      go_wp2_with fail
      go_loopg [71] i (fun kx s71 wr => ∃ (j m : Nat), s71 = .int .i64 j ∧ j ≤ i ∧ i - j ≤ kx ∧ ((j ≤ m0 ∧ m = j) ∨ (m0 ≤ j ∧ m = m0)) ∧ Aside (Sp wb wr L (L + 1) ((m0 : Int) - (m : Int)) (outs T S W d'.toList m)) ∧ Aside (HoldsK encS 3 wr g2 0 d') ∧ Aside (g2 < wr.heap.size))
      case atStart => exact ⟨0, 0, rfl, by omega, by omega, .inl ⟨by omega, rfl⟩, by show Sp _ _ _ _ _ _; rw [Int.natCast_zero, Int.sub_zero]; exact SP2.out, HH, HGL⟩
      case round =>
        clear SP2 HH HGL
        obtain ⟨j, m, rfl, hji, hk, hjm, SP, HH, HGL⟩ := hrel
        by_cases hlt : j < i
        · have q2 : decide ((j : Int) < (i : Int)) = true := decide_eq_true (by omega)
          obtain ⟨xq, xr, xp, hxp, k1, k2, k3⟩ : ∃ (xq xr : Int) (xp : Nat), d'.toList[j]!.pl.val = xp ∧ wr.cell? ⟨g2, j * 3, none⟩ = some (.int .i64 xq) ∧ wr.cell? ⟨g2, j * 3 + 1, none⟩ = some (.int .i64 xr) ∧ wr.cell? ⟨g2, j * 3 + 2, none⟩ = some (.int .i64 (xp : Int)) := by
            obtain ⟨k1, k2, k3⟩ := holdsK_cells HH.out (j := j) (by rw [HSZ.out]; exact hlt)
            rw [toList_at]
            exact ⟨_, _, _, rfl, k1, k2, k3⟩
          have HXP : Aside (d'.toList[j]!.pl.val = xp) := hxp
          have hxi : xp < i := by have h9 := (HST.out.share_at (j := j) (by rw [HWn.out]; exact hlt)).2; rw [hxp, HWn.out] at h9; exact h9
          obtain ⟨bx, hbx⟩ : ∃ bx, wr.heap.size = bx := ⟨_, rfl⟩
          obtain ⟨w3, hw3⟩ : ∃ w3, wr.alloc (.cells #[.int .i64 xq, .int .i64 xr, .int .i64 (xp : Int)] 36) = w3 := ⟨_, rfl⟩
          have hbx2 : L + 2 ≤ bx := by have h9 := SP.out.only.size; omega
          have o3 : Only [] wr w3 := by rw [← hw3]; exact Only.alloc _ _ _
          have hbc : w3.heap[bx]? = some (.cells #[.int .i64 xq, .int .i64 xr, .int .i64 (xp : Int)] 36 (0, 0)) := by rw [← hw3, ← hbx]; exact heap_alloc_new wr _
          have HBC : Aside _ := hbc
          have k4 : w3.cell? ⟨bx, 2, none⟩ = some (.int .i64 (xp : Int)) := by rw [cell_of_row _ _ _ _ _ _ hbc]; rfl
          have SP3 : Aside (Sp wb w3 L (L + 1) ((m0 : Int) - (m : Int)) (outs T S W d'.toList m)) := SP.out.new o3
          have HH3 : Aside (HoldsK encS 3 w3 g2 0 d') := holdsK_only HH.out o3 HGL.out (by simp)
          have HGL3 : Aside (g2 < w3.heap.size) := Nat.lt_of_lt_of_le HGL.out o3.size
          obtain ⟨k5, k6⟩ := one_cell SP3.out.hL
          have e0 : ((j : Int)).toNat = j := by omega
          have hj2 : (j : Int) < (i : Int) := by omega
          clear hxp hbc o3 HH HGL SP
          by_cases hlm : j < m0
          · have hmj : m = j := by omega
            subst hmj
            have q3 : decide ((0 : Int) < (m0 : Int) - (m : Int)) = true := decide_eq_true (by omega)
            go_wp2_with fail
            obtain ⟨ov, hov⟩ : ∃ ov : Nat, ov = qN T S W xp := ⟨_, rfl⟩
            have hovT : ov ≤ T := by rw [hov]; exact qN_le T S W xp (by rw [HSW.out]; exact le_sum W xp) hS0
            have k7 := SP3.out.cellO (j := xp) (by rw [outs_len, HWn.out]; exact hxi)
            rw [outs_at m (by rw [HWn.out]; exact hxi)] at k7
            have hon := outAt_new HST.out (m := m) (by rw [HWn.out]; exact hlt)
            rw [HXP.out, ← hov] at hon
            rw [hon] at k7
            have k8 := SP3.out.frozenO xp
            have HOV : Aside (ov = qN T S W xp) := hov
            have htk := take_calls 1 ((m0 : Int) - (m : Int)) L w3.drew (by unfold I64; omega) SP3.out.hL
            obtain ⟨w4, hw4⟩ : ∃ w4, w3.drew.setCell ⟨L, 0, none⟩ (.int .i64 ((m0 : Int) - (m : Int) - 1)) = w4 := ⟨_, rfl⟩
            rw [hw4] at htk
            have SP3d : Sp wb w3.drew L (L + 1) ((m0 : Int) - (m : Int)) (outs T S W d'.toList m) := SP3.out.new (Only.drewN [] w3 1)
            have st := SP3d.take ((m0 : Int) - (m : Int) - 1)
            rw [hw4] at st
            have SP4 : Aside (Sp wb w4 L (L + 1) ((m0 : Int) - (m : Int) - 1) (outs T S W d'.toList m)) := st.1
            have hbL : bx ≠ L := by omega
            have o34 : Only [L] w3 w4 := ((Only.drewN [] w3 1).mono (by simp)).trans st.2 (fun _ h _ => h)
            have HBC4 := Only.at o34 HBC.out (by simpa using hbL)
            have HH4 : Aside (HoldsK encS 3 w4 g2 0 d') := holdsK_only HH3.out o34 HGL3.out (by have h9 := HG2.out; have h8 := SP3.out.ltL; simp; omega)
            have HGL4 : Aside (g2 < w4.heap.size) := Nat.lt_of_lt_of_le HGL3.out o34.size
            have HK3 : Aside (w3.drew.cell? ⟨bx, 2, none⟩ = some (.int .i64 (xp : Int)) ∧ w3.drew.cell? ⟨L + 1, xp, none⟩ = some (.int .i64 (ov : Int)) ∧ w3.drew.frozen? ⟨L + 1, xp, none⟩ = false) := ⟨k4, k7, k8⟩
            have HK4 : Aside (w4.cell? ⟨bx, 2, none⟩ = some (.int .i64 (xp : Int)) ∧ w4.cell? ⟨L + 1, xp, none⟩ = some (.int .i64 (ov : Int)) ∧ w4.frozen? ⟨L + 1, xp, none⟩ = false) := by
              refine ⟨by rw [cell_of_row _ _ _ _ _ _ HBC4]; rfl, ?_, SP4.out.frozenO xp⟩
              have k9 := SP4.out.cellO (j := xp) (by rw [outs_len, HWn.out]; exact hxi)
              rw [outs_at m (by rw [HWn.out]; exact hxi), hon] at k9
              exact k9
            obtain ⟨ew, ew2⟩ := wrap_ok ((ov : Int) + 1) (by unfold I64; omega)
            have hx0 : (0 : Int) ≤ (xp : Int) := by omega
            have hx1 : (xp : Int) < (i : Int) := by omega
            clear hov hon hw4 SP3d st o34 HBC4 k1 k2 k3 k5 k6 hw3 hbx HBC
            obtain ⟨y1, y2, y3⟩ := HK3.out
            obtain ⟨z1, z2, z3⟩ := HK4.out
            clear HK3 HK4
            go_region_law (first | (go_simp; go_at_call 9; refine htk.mono ?_; rintro e w5 ⟨rfl, hw5⟩; subst hw5))
            all_goals
              have SP6 : Aside (Sp wb (w5.setCell ⟨L + 1, xp, none⟩ (.int .i64 ((ov : Int) + 1))) L (L + 1) ((m0 : Int) - ((m + 1 : Nat) : Int)) (outs T S W d'.toList (m + 1))) := by
                have h9 := (SP4.out.put xp ((ov : Int) + 1)).1
                have h8 := outs_set HST.out (m := m) (by rw [HWn.out]; exact hlt)
                rw [HXP.out, ← HOV.out] at h8
                rw [h8, show (m0 : Int) - (m : Int) - 1 = (m0 : Int) - ((m + 1 : Nat) : Int) by omega] at h9
                exact h9
              have o6 : Only [L + 1] w5 (w5.setCell ⟨L + 1, xp, none⟩ (.int .i64 ((ov : Int) + 1))) := Only.setCell _ _ _ (by simp)
              have HH6 : Aside (HoldsK encS 3 (w5.setCell ⟨L + 1, xp, none⟩ (.int .i64 ((ov : Int) + 1))) g2 0 d') := holdsK_only HH4.out o6 HGL4.out (by have h9 := HG2.out; simp; omega)
              have HGL6 : Aside (g2 < (w5.setCell ⟨L + 1, xp, none⟩ (.int .i64 ((ov : Int) + 1))).heap.size) := Nat.lt_of_lt_of_le HGL4.out o6.size
              clear htk SP4 HH4 HGL4 z1 z2 z3 y1 y2 y3 o6
              go_wp2_with fail
              go_roundg (i - (m + 1))
              case measure => omega
              case rel => exact ⟨m + 1, m + 1, by go_num, by omega, Nat.le_refl _, .inl ⟨by omega, rfl⟩, SP6, HH6, HGL6⟩
          · have hmm : m = m0 := by omega
            subst hmm
            have q3 : decide ((0 : Int) < (m : Int) - (m : Int)) = false := decide_eq_false (by omega)
            clear k4 HBC
            go_wp2_with fail
            go_roundg (i - (j + 1))
            case measure => omega
            case rel => exact ⟨j + 1, m, by go_num, by omega, Nat.le_refl _, .inr ⟨by omega, rfl⟩, SP3, HH3, HGL3⟩
        · have q2 : decide ((j : Int) < (i : Int)) = false := decide_eq_false (by omega)
          have hmm : m = m0 := by omega
          subst hmm
          go_wp2_with fail
          go_ret2
          refine ⟨L + 1, rfl, outs T S W d'.toList m, ?_, ?_, ?_⟩
          · have h9 := told HST.out HSW.out hS0
            rw [HWn.out, ← HM0.out] at h9
            exact h9
          · intro _
            exact ⟨L + 1, 0, rfl, Nat.lt_of_lt_of_le SP.out.ltO SP.out.only.size, fun x hx => by rw [Nat.zero_add]; exact SP.out.cellO hx⟩
          · exact HB.out.trans SP.out.only (fun k hk hl => by simp only [List.mem_cons, List.not_mem_nil, or_false] at hk; omega)
end Go.Proofs.Ytmjohabfikpahaa
