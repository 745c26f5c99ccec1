import Derived.Test.YtnhgakmnkpjpdaaGreatX0
import Derived.Test.YtnhgakmnkpjpdaaGreatPY
/- The document's log: half, Age, Room, over halves that are only looked at. -/
set_option maxRecDepth 100000
set_option linter.unusedVariables false
set_option linter.unusedSimpArgs false
namespace Go.Proofs.YtnhgakmnkpjpdaaGreat
open Go Go.RowKit Go.Proofs.YtnhgakmnkpjpdaaGreat.Q Go.Proofs.YtnhgakmnkpjpdaaGreatW.PrintWords Go.Proofs.YtnhgakmnkpjpdaaGreatW.PrintLast Go.Proofs.YtnhgakmnkpjpdaaGreatW.PrintMore
attribute [local go_sem] Oper.semAt_some max2_int min2_int max_two min_two max_three min_three max_four min_four
/-- Two halves, in blocks of B. -/
structure LogAt (w : World) (B : List Nat) (va vb : Value) (a b : List ByteArray) : Prop where
 sa : StrAt w B va a
 sb : StrAt w B vb b
 la : a.length ≤ 60
 lb : b.length ≤ 60
 lt : ∀ k ∈ B, k < w.heap.size
theorem LogAt.kept {w W : World} {B fp : List Nat} {va vb : Value} {a b : List ByteArray} (h : LogAt w B va vb a b) (ho : Only fp w W) (hd : ∀ k ∈ B, k ∉ fp) : LogAt W B va vb a b := ⟨h.sa.kept ho hd, h.sb.kept ho hd, h.la, h.lb, fun k hk => Nat.lt_of_lt_of_le (h.lt k hk) ho.size⟩
theorem LogAt.new {w W : World} {B : List Nat} {va vb : Value} {a b : List ByteArray} (h : LogAt w B va vb a b) (ho : Only [] w W) : LogAt W B va vb a b := h.kept ho (by simp)
theorem StrAt.of_R {w : World} {base : Nat} {P : Nat → Prop} {v : Value} {t : List ByteArray} (h : Kd.R Kd.string 9 w base P v t) : StrAt w v.ownBlock.toList v t ∧ ∀ k ∈ v.ownBlock.toList, base ≤ k ∧ k < w.heap.size := by
 have hb : ∀ k ∈ v.ownBlock.toList, base ≤ k ∧ k < w.heap.size := fun k hk => by
  have h2 := (Kd.R_bound h).1 k (by simpa using hk)
  exact ⟨h2.2.1, h2.2.2.1⟩
 obtain ⟨A, c, rfl, h1, h2⟩ := Kd.R_reads h
 exact ⟨StrAt.of_C h1 h2 (fun k hk => (hb k hk).2), hb⟩
def lgBox (va vb : Value) : Obj := .cells #[va, vb] 34 (0, 0)
theorem lgBox_lt (w : World) (o : Obj) : w.heap.size < (w.alloc o).heap.size := (Array.getElem?_eq_some_iff.1 (heap_alloc_new w o)).1
theorem box_cells {w w2 : World} {va vb : Value} (h : Only [] (w.alloc (lgBox va vb)) w2) : w2.cell? ⟨w.heap.size, 0, none⟩ = some va ∧ w2.cell? ⟨w.heap.size, 1, none⟩ = some vb ∧ ∀ j, w2.frozen? ⟨w.heap.size, j, none⟩ = false := by
 have hb : w2.heap[w.heap.size]? = some (lgBox va vb) := by
  rw [h.block w.heap.size (lgBox_lt w _) (by simp)]
  exact heap_alloc_new w _
 exact ⟨cell_of_row _ _ _ _ _ _ hb, cell_of_row _ _ _ _ _ _ hb, fun j => frozen_of_row _ _ _ _ _ hb⟩
section
variable {w : World} {B : List Nat} {va vb : Value} {a b : List ByteArray}
theorem second_D (h : LogAt w B va vb a b) : Calls Tryz.prog 36 #[.agg #[va, vb]] w fun e w' => e = .returned (.bool (Pure.secD a b)) ∧ Only [] w w' := by
 obtain ⟨A1, c1, rfl, h1, C1⟩ := h.sa.C
 obtain ⟨A2, c2, rfl, h2, C2⟩ := h.sb.C
 refine (quittanceref06_second.calls 20000 A1 c1 a A2 c2 b _ w C1 h1 C2 h2 (Pure.second_f 20000 a b h.la h.lb (by decide))).mono ?_
 rintro e w2 ⟨rfl, hb⟩
 exact ⟨rfl, Only.of_below hb⟩
theorem texts_D {v : Value} {t : List ByteArray} (h : StrAt w B v t) (hl : t.length ≤ 60) : Calls Tryz.prog 33 #[v] w fun e w' => ∃ v2, e = .returned (.tuple #[v2, .int .u64 ((Pure.rowT t).first : Int), .int .i64 ((Pure.rowT t).en : Int)]) ∧ StrAt w' v2.ownBlock.toList v2 (Pure.rowT t).texts ∧ (∀ k ∈ v2.ownBlock.toList, w.heap.size ≤ k ∧ k < w'.heap.size) ∧ Only [] w w' := by
 obtain ⟨A1, c1, rfl, h1, C1⟩ := h.C
 refine (quittanceref05_Texts.calls 20000 A1 c1 t _ _ _ w C1 h1 (Pure.RTexts_f 20000 t hl (by decide))).mono ?_
 rintro e w2 ⟨v2, rfl, hR, hb⟩
 obtain ⟨q1, q2⟩ := StrAt.of_R hR
 exact ⟨v2, rfl, q1, q2, Only.of_below hb⟩
set_option maxHeartbeats 2000000 in
theorem half_D (h : LogAt w B va vb a b) : Calls Tryz.prog 34 #[.agg #[va, vb]] w fun e w' => e = .returned (if Pure.secD a b = true then vb else va) ∧ Only [] w w' := by
 have H47 := hid (fun w2 (ho : Only [] w w2) => second_D (h.new ho))
 have e47 : ∀ args w, (callFunc 36 args).run Tryz.prog w = .ok (.enter 36 args) w := enters_of Tryz.func36 (by kernel_rfl) rfl
 generalize Pure.secD a b = q at *
 clear h
 cases q with
 | true =>
  simp only [if_true]
  go_enter Tryz.func34, Tryz.ntmps34
  go_wp2_with fail
  go_at_call 36
  refine (H47.out _ (Only.alloc [] w _)).mono ?_
  rintro e w2 ⟨rfl, ho⟩
  obtain ⟨b0, b1, f⟩ := box_cells ho
  have f0 := f 0
  have f1 := f 1
  have HO := hid ((Only.alloc [] w (lgBox va vb)).trans ho (fun _ h _ => h))
  clear f ho
  go_wp2
  go_ret
  exact ⟨rfl, HO.out⟩
 | false =>
  rw [if_neg (by decide)]
  go_enter Tryz.func34, Tryz.ntmps34
  go_wp2_with fail
  go_at_call 36
  refine (H47.out _ (Only.alloc [] w _)).mono ?_
  rintro e w2 ⟨rfl, ho⟩
  obtain ⟨b0, b1, f⟩ := box_cells ho
  have f0 := f 0
  have f1 := f 1
  have HO := hid ((Only.alloc [] w (lgBox va vb)).trans ho (fun _ h _ => h))
  clear f ho
  go_wp2
  go_ret
  exact ⟨rfl, HO.out⟩
set_option maxHeartbeats 2000000 in
theorem Age_D (h : LogAt w B va vb a b) : Calls Tryz.prog 17 #[.agg #[va, vb]] w fun e w' => e = .returned (.int .u64 ((Pure.rowT (Pure.halfD a b)).first : Int)) ∧ Only [] w w' := by
 have H39 := hid (fun w2 (ho : Only [] w w2) => half_D (h.new ho))
 have H38 := hid (fun w2 (ho : Only [] w w2) => texts_D (w := w2) (B := B) (v := if Pure.secD a b = true then vb else va) (t := Pure.halfD a b) (by
  unfold Pure.halfD
  split
  ·
   exact h.sb.kept ho (by simp)
  ·
   exact h.sa.kept ho (by simp)) (Pure.halfD_len a b h.la h.lb))
 have e39 : ∀ args w, (callFunc 34 args).run Tryz.prog w = .ok (.enter 34 args) w := enters_of Tryz.func34 (by kernel_rfl) rfl
 have e38 : ∀ args w, (callFunc 33 args).run Tryz.prog w = .ok (.enter 33 args) w := enters_of Tryz.func33 (by kernel_rfl) rfl
 generalize (Pure.rowT (Pure.halfD a b)).first = x1 at *
 generalize (Pure.rowT (Pure.halfD a b)).en = x2 at *
 generalize (Pure.rowT (Pure.halfD a b)).texts = x3 at *
 generalize (if Pure.secD a b = true then vb else va) = vh at *
 clear h
 go_enter Tryz.func17, Tryz.ntmps17
 go_wp2_with fail
 go_at_call 34
 refine (H39.out _ (Only.alloc [] w _)).mono ?_
 rintro e w2 ⟨rfl, ho⟩
 have HO := hid ((Only.alloc [] w (lgBox va vb)).trans ho (fun _ h _ => h))
 clear ho
 go_wp2_with fail
 go_at_call 33
 refine (H38.out _ HO.out).mono ?_
 rintro e w3 ⟨v2, rfl, -, -, ho⟩
 have HO3 := hid (HO.out.trans ho (fun _ h _ => h))
 clear ho
 go_wp2
 go_ret
 exact ⟨rfl, HO3.out⟩
set_option maxHeartbeats 2000000 in
theorem Room_D (h : LogAt w B va vb a b) : Calls Tryz.prog 19 #[.agg #[va, vb]] w fun e w' => e = .returned (.int .i64 ((a.length : Int) - ((Pure.rowT (Pure.halfD a b)).en : Int))) ∧ Only [] w w' := by
 have H39 := hid (fun w2 (ho : Only [] w w2) => half_D (h.new ho))
 have H38 := hid (fun w2 (ho : Only [] w w2) => texts_D (w := w2) (B := B) (v := if Pure.secD a b = true then vb else va) (t := Pure.halfD a b) (by
  unfold Pure.halfD
  split
  ·
   exact h.sb.kept ho (by simp)
  ·
   exact h.sa.kept ho (by simp)) (Pure.halfD_len a b h.la h.lb))
 have e39 : ∀ args w, (callFunc 34 args).run Tryz.prog w = .ok (.enter 34 args) w := enters_of Tryz.func34 (by kernel_rfl) rfl
 have e38 : ∀ args w, (callFunc 33 args).run Tryz.prog w = .ok (.enter 33 args) w := enters_of Tryz.func33 (by kernel_rfl) rfl
 have hen : (Pure.rowT (Pure.halfD a b)).en ≤ 60 := by have h1 := (Pure.rowT_ok (Pure.halfD a b)).en; have h2 := Pure.halfD_len a b h.la h.lb; omega
 have hla := h.la
 obtain ⟨A1, c1, rfl, -, -⟩ := h.sa.C
 generalize (Pure.rowT (Pure.halfD a b)).first = x1 at *
 generalize (Pure.rowT (Pure.halfD a b)).en = x2 at *
 generalize (Pure.rowT (Pure.halfD a b)).texts = x3 at *
 generalize (if Pure.secD a b = true then vb else _) = vh at *
 clear h
 generalize a.length = n at *
 have ew : IntKind.i64.wrap ((n : Int) - (x2 : Int)) = (n : Int) - (x2 : Int) := by rw [IntKind.wrap_i64]; omega
 go_enter Tryz.func19, Tryz.ntmps19
 go_wp2_with fail
 go_at_call 34
 refine (H39.out _ (Only.alloc [] w _)).mono ?_
 rintro e w2 ⟨rfl, ho⟩
 have HO1 := hid ho
 have HO := hid ((Only.alloc [] w (lgBox (.slice A1 n c1) vb)).trans ho (fun _ h _ => h))
 clear ho
 go_wp2_with fail
 go_at_call 33
 refine (H38.out _ HO.out).mono ?_
 rintro e w3 ⟨v2, rfl, -, -, ho⟩
 obtain ⟨b0, -, f⟩ := box_cells (HO1.out.trans ho (fun _ h _ => h))
 have f0 := f 0
 have HO3 := hid (HO.out.trans ho (fun _ h _ => h))
 clear ho f
 go_wp2
 go_ret
 exact ⟨rfl, HO3.out⟩
end
end Go.Proofs.YtnhgakmnkpjpdaaGreat

/- The document's log: its transactions. -/
set_option maxRecDepth 100000
set_option linter.unusedVariables false
set_option linter.unusedSimpArgs false
namespace Go.Proofs.YtnhgakmnkpjpdaaGreat
open Go Go.RowKit Go.Proofs.YtnhgakmnkpjpdaaGreat.Q Go.Proofs.YtnhgakmnkpjpdaaGreatW.PrintWords Go.Proofs.YtnhgakmnkpjpdaaGreatW.PrintLast Go.Proofs.YtnhgakmnkpjpdaaGreatW.PrintMore
attribute [local go_sem] Oper.semAt_some max2_int min2_int max_two min_two max_three min_three max_four min_four
theorem TxV.lower {base base' : Nat} {w : World} {B : List Nat} {v : Value} {L : List (List ByteArray)} (h : TxV base w B v L) (hb : base' ≤ base) : TxV base' w B v L := by
 obtain ⟨A, c, vs, rfl, h1, h2, h3, h4⟩ := h
 exact ⟨A, c, vs, rfl, h1, h2, ⟨h3.len, h3.each, fun k hk => ⟨by have := (h3.lt k hk).1; omega, (h3.lt k hk).2⟩⟩, h4⟩
theorem txn_ne {r : ByteArray} (h : r ≠ B []) : r.toList.isEmpty = false := by
 cases hh : r.toList.isEmpty with
 | false => rfl
 | true =>
  exfalso
  rw [List.isEmpty_iff] at hh
  exact h (by rw [← Pure.B_self' r, ← ByteArray.toList_eq, hh])
section
variable {w : World} {BB : List Nat} {va vb : Value} {a b : List ByteArray}
set_option maxHeartbeats 8000000 in
theorem Txns_D (h : LogAt w BB va vb a b) : Calls Tryz.prog 13 #[.agg #[va, vb]] w fun e w' => match Pure.txD (Pure.halfD a b) with
  | some L => ∃ v B2, e = .returned (.tuple #[v, .bool true]) ∧ TxV w.heap.size w' B2 v L ∧ Only [] w w'
  | none => e = .returned (.tuple #[.slice none 0 0, .bool false]) ∧ Only [] w w' := by
 have H39 := hid (fun w2 (ho : Only [] w w2) => half_D (h.new ho))
 have H38 := hid (fun w2 (ho : Only [] w w2) => texts_D (w := w2) (B := BB) (v := if Pure.secD a b = true then vb else va) (t := Pure.halfD a b) (by
  unfold Pure.halfD
  split
  ·
   exact h.sb.kept ho (by simp)
  ·
   exact h.sa.kept ho (by simp)) (Pure.halfD_len a b h.la h.lb))
 have HTL : Hid ((Pure.rowT (Pure.halfD a b)).texts.length ≤ 60) := by
  have h1 := (Pure.rowT_ok (Pure.halfD a b)).en
  have h2 := (Pure.rowT_ok (Pure.halfD a b)).texts
  have h3 := Pure.halfD_len a b h.la h.lb
  show _ ≤ _
  omega
 have HTS : Hid (∀ t ∈ (Pure.rowT (Pure.halfD a b)).texts, t.size ≤ 3000) := fun t ht => by
  have h1 := (Pure.rowT_texts _ t ht).2
  have h3 := Pure.halfD_len a b h.la h.lb
  omega
 have e39 : ∀ args w, (callFunc 34 args).run Tryz.prog w = .ok (.enter 34 args) w := enters_of Tryz.func34 (by kernel_rfl) rfl
 have e38 : ∀ args w, (callFunc 33 args).run Tryz.prog w = .ok (.enter 33 args) w := enters_of Tryz.func33 (by kernel_rfl) rfl
 have e40 : ∀ args w, (callFunc 42 args).run Tryz.prog w = .ok (.enter 42 args) w := enters_of Tryz.func42 (by kernel_rfl) rfl
 unfold Pure.txD
 generalize (Pure.rowT (Pure.halfD a b)).first = x1 at *
 generalize (Pure.rowT (Pure.halfD a b)).en = x2 at *
 generalize (Pure.rowT (Pure.halfD a b)).texts = T at *
 generalize (if Pure.secD a b = true then vb else va) = vh at *
 clear h
 obtain ⟨Post, hPost⟩ : ∃ Post : Ending → World → Prop, Post = (fun e w' => match Pure.parseA [] T with
  | some L => ∃ v B2, e = .returned (.tuple #[v, .bool true]) ∧ TxV w.heap.size w' B2 v L ∧ Only [] w w'
  | none => e = .returned (.tuple #[.slice none 0 0, .bool false]) ∧ Only [] w w') := ⟨_, rfl⟩
 have HPN : Hid (∀ w', Only [] w w' → Pure.parseA [] T = none → Post (.returned (.tuple #[.slice none 0 0, .bool false])) w') := fun w' ho hn => by
  rw [hPost]
  simp only [hn]
  exact ⟨trivial, ho⟩
 have HPS : Hid (∀ w' v B2 L, Only [] w w' → TxV w.heap.size w' B2 v L → Pure.parseA [] T = some L → Post (.returned (.tuple #[v, .bool true])) w') := fun w' v B2 L ho ht hn => by
  rw [hPost]
  simp only [hn]
  exact ⟨v, B2, rfl, ht, ho⟩
 rw [← hPost]
 clear hPost
 obtain ⟨ti, hti, htz, hts, htb⟩ := info_three Q.info32
 have HTI := hid (And.intro hti (And.intro htz (And.intro hts htb)))
 clear hti htz hts htb
 go_enter Tryz.func13, Tryz.ntmps13
 go_wp2_with fail
 go_at_call 34
 refine (H39.out _ (Only.alloc [] w _)).mono ?_
 rintro e w2 ⟨rfl, ho⟩
 have HO := hid ((Only.alloc [] w (lgBox va vb)).trans ho (fun _ h _ => h))
 clear ho
 go_wp2_with fail
 go_at_call 33
 refine (H38.out _ HO.out).mono ?_
 rintro e wt ⟨tv, rfl, hst, hlt, ho⟩
 have HOT := hid (HO.out.trans ho (fun _ h _ => h))
 have HST := hid hst
 obtain ⟨tA, tc, htv⟩ : ∃ tA tc, tv = .slice tA T.length tc := by
  obtain ⟨tA, tc, e, -⟩ := hst
  exact ⟨tA, tc, e⟩
 subst htv
 clear ho hst hlt HO H39 H38
 obtain ⟨n, hn⟩ : ∃ n, n = T.length := ⟨_, rfl⟩
 have HLN := hid hn
 rw [← hn] at HTL HST ⊢
 clear hn
 obtain ⟨TB, hTB⟩ : ∃ TB, TB = (Value.slice tA n tc).ownBlock.toList := ⟨_, rfl⟩
 rw [← hTB] at HST
 clear hTB
 go_wp2_with fail
 go_loopg [8, 7] n (fun kx s8 s7 wr => ∃ (i : Nat) (ov : Value) (us : List Value) (B : List Nat) (L : List (List ByteArray)), s8 = .int .i64 i ∧ s7 = ov ∧ i ≤ n ∧ n - i ≤ kx ∧ Hid (wr.ownsRow wt.heap.size 32 1 ov i us) ∧ Hid (Txs wt.heap.size wr B us L) ∧ Hid (∀ k ∈ B, k ∉ ov.ownBlock.toList) ∧ Hid (Only [] wt wr) ∧ Hid (Pure.parseA [] T = Pure.parseA L (T.drop i) ∧ L.length = i))
 case atStart => exact ⟨0, _, [], [], [], rfl, rfl, by omega, by omega, World.ownsRow_nil _ _ _ _, Txs.none _ _, (show ∀ k ∈ ([] : List Nat), _ from fun k hk => by simp at hk), Only.refl _ _, rfl, rfl⟩
 case round =>
  obtain ⟨i, ov, us, B, L, rfl, hov, hin, hk, HOW, HT, HND, HO, HPA⟩ := hrel
  have hov2 := hov.symm
  clear hov
  subst hov2
  obtain ⟨oA, oc, rfl⟩ : ∃ oA oc, ov = .slice oA i oc := by
   rcases HOW.out.2 with ⟨h1, h2⟩ | ⟨g, cap, cur, hv, -⟩
   ·
    exact ⟨none, 0, by rw [h1, h2]⟩
   ·
    exact ⟨_, cap, hv⟩
  by_cases hlt : i < n
  ·
   have q1 : decide ((i : Int) < (n : Int)) = true := decide_eq_true (by omega)
   have q2 : (i : Int) < (n : Int) := by omega
   have q3 : ((i : Int)).toNat = i := by omega
   obtain ⟨tx, ht⟩ : ∃ tx, T[i]? = some tx := ⟨T[i]'(by rw [← HLN.out]; exact hlt), List.getElem?_eq_getElem _⟩
   have hstw : StrAt wr TB (.slice tA n tc) T := (HST.out).kept HO.out (by simp)
   obtain ⟨tA2, tc2, heq, htc2, hrd, -⟩ := hstw
   have hsl := Value.slice.inj heq
   obtain ⟨rfl, -, rfl⟩ := hsl
   obtain ⟨ad, hA, hcell⟩ := Kd.at_string (Kd.C_of_reads (h1 := fun _ => rfl) hrd : Kd.C Kd.string wr tA T.length T) (i : Int) (by omega) (by rw [← HLN.out]; omega)
   subst hA
   have hrdo : rdOf ByteArray.empty T (i : Int) = tx := by
    unfold rdOf
    rw [Int.toNat_natCast, List.getD_eq_getElem?_getD, ht]; rfl
   rw [hrdo, Int.toNat_natCast] at hcell
   have HT1 := hid ht
   have hsz := HTS.out tx (List.mem_of_getElem? ht)
   have hres : quittanceref01_TakeRow.f 12000 tx = some (Pure.resR tx.data.toList) := by
    have h9 := Pure.RTakeRow_f 12000 tx.data.toList (by rw [Array.length_toList]; exact hsz) (by decide)
    rwa [Pure.B_self'] at h9
   obtain ⟨r1, r2, r3, hr⟩ : ∃ r1 r2 r3, Pure.resR tx.data.toList = (r1, r2, r3) := ⟨_, _, _, rfl⟩
   have HONE : Hid (Pure.one tx = if r3 = true ∧ r2 = Go.Proofs.YtnhgakmnkpjpdaaGreat.B [] then some r1 else none) := by show Pure.one tx = _; unfold Pure.one; rw [hr]
   rw [hr] at hres
   have htk := quittanceref01_TakeRow.calls 12000 tx r1 r2 r3 wr hres
   clear hres hr hsz hrdo hrd heq ht htc2
   by_cases good : r3 = true ∧ r2 = Go.Proofs.YtnhgakmnkpjpdaaGreat.B []
   ·
    rw [if_pos good] at HONE
    obtain ⟨rfl, hr2⟩ := good
    have hr3 : r2 = (⟨#[]⟩ : ByteArray) := hr2
    clear hr2
    subst hr3
    go_wp2_with fail
    go_at_call 42
    refine htk.mono ?_
    rintro e w2 ⟨v2, rfl, hR, hb⟩
    have o2 := Only.of_below (fp := []) hb
    obtain ⟨hS2, hL2⟩ := StrAt.of_R hR
    obtain ⟨A5, c5, e5⟩ : ∃ A5 c5, v2 = .slice A5 r1.length c5 := by
     obtain ⟨A5, c5, e5, -⟩ := hS2
     exact ⟨A5, c5, e5⟩
    subst e5
    have HS2 := hid hS2
    have HL2 := hid hL2
    have HO2 := hid (HO.out.trans o2 (fun _ h _ => h))
    have HOW2 := hid (ownsRow_kept HOW.out o2 (by simp))
    have HT2 := hid (HT.out.kept o2 (by simp))
    have hsz1 := HO.out.size
    have HOB := hid (fun k (hk : (Value.slice oA i oc).ownBlock = some k) => (World.ownsRow.lt HOW.out k hk).2)
    have HTLL := HTL.out
    clear htk hR hb hS2 hL2 o2 HOW HT HO hcell
    go_wp2_with (at_builtin; refine wpList_append_lies _ rfl _ _ 44 rfl wt.heap.size 32 ti _ 1 24 Tryz.underlying44 HTI.out.1 HTI.out.2.1 HTI.out.2.2.1 HTI.out.2.2.2 rfl (by decide) (.slice oA i oc) i us rfl (World.ownsRow.alloc HOW2.out _) ⟨w2.heap.size, 0, none⟩ 1 1 [.slice A5 r1.length c5] rfl ?qc1 ?qc2 ?qc3 (by decide) ?qc4 ?qc5 ?qc6 (w2.heap.size + 1) (by simp) ?_)
    case qc1 => rfl
    case qc2 =>
     intro j u hj
     rw [Addr.add_lit, Nat.zero_add, cell_of_row _ _ _ _ _ _ (heap_alloc_new w2 _)]
     show ([Value.slice A5 r1.length c5].toArray)[j]? = _
     rw [List.getElem?_toArray]; exact hj
    case qc3 =>
     intro u hu
     rw [List.mem_singleton] at hu
     rw [hu]; rfl
    case qc4 => unfold maxLen; omega
    case qc5 => omega
    case qc6 => have := HO2.out.size; simp; omega
    intro g3 cap3 w3 hown3 hgrow hat hgl3
    have ho3 : Only (Value.slice oA i oc).ownBlock.toList w2 w3 := (Only.alloc _ w2 _).trans (Only.of_grown hgrow (fun k hk => by rw [hk]; simp)) (fun _ h _ => h)
    have hdj : ∀ k ∈ (Value.slice A5 r1.length c5).ownBlock.toList ++ B, k ∉ (Value.slice oA i oc).ownBlock.toList ∧ k ≠ g3 := fun k hk => by
     rcases List.mem_append.1 hk with e | e
     ·
      have h7 := HL2.out k e
      have h8 : k ∉ (Value.slice oA i oc).ownBlock.toList := fun e2 => by
       have h6 := HOB.out k (by simpa using e2)
       omega
      refine ⟨h8, fun e3 => ?_⟩
      rcases hat with e4 | e4
      ·
       exact h8 (by rw [e4, e3]; simp)
      ·
       omega
     ·
      have h8 := HND.out k e
      refine ⟨h8, fun e3 => ?_⟩
      have h7 := (HT2.out.lt k e).2
      rcases hat with e4 | e4
      ·
       exact h8 (by rw [e4, e3]; simp)
      ·
       omega
    have hT3 := (HT2.out.snoc HS2.out (fun k hk => ⟨by have h7 := (HL2.out k hk).1; omega, (HL2.out k hk).2⟩)).kept ho3 (fun k hk => (hdj k hk).1)
    have HPA3 : Hid (Pure.parseA [] T = Pure.parseA (L ++ [r1]) (T.drop (i + 1)) ∧ (L ++ [r1]).length = i + 1) := by
     obtain ⟨hj2, he2⟩ := List.getElem?_eq_some_iff.1 HT1.out
     refine ⟨?_, by rw [List.length_append, List.length_singleton, HPA.out.2]⟩
     rw [HPA.out.1, List.drop_eq_getElem_cons hj2, he2]
     show (match Pure.one tx with | some x => Pure.parseA (L ++ [x]) (T.drop (i + 1)) | none => none) = _
     rw [HONE.out]
    have HT3 := hid hT3
    have HOW3 := hid hown3
    have HND3 : Hid (∀ k ∈ (Value.slice A5 r1.length c5).ownBlock.toList ++ B, k ∉ (Value.slice (some ⟨g3, 0, none⟩) (i + 1) cap3).ownBlock.toList) := fun k hk e => (hdj k hk).2 (by simpa [Value.ownBlock] using e)
    have HO3 := hid (HO2.out.on ho3 (fun k hk => (World.ownsRow.lt HOW2.out k (by simpa using hk)).1))
    clear hown3 hgrow hat hgl3 ho3 hdj hT3 HT2 HOW2 HS2 HL2 HO2 HND HPA HONE HT1
    go_wp2_with fail
    go_roundg (n - (i + 1))
    case measure => omega
    case rel => exact ⟨i + 1, _, _, _, _, (by go_num), rfl, hlt, Nat.le_refl _, HOW3, HT3, HND3, HO3, HPA3⟩
   ·
    rw [if_neg good] at HONE
    have HNONE : Hid (Pure.parseA [] T = none) := by
     obtain ⟨hj2, he2⟩ := List.getElem?_eq_some_iff.1 HT1.out
     show Pure.parseA [] T = none
     rw [HPA.out.1, List.drop_eq_getElem_cons hj2, he2]
     show (match Pure.one tx with | some x => Pure.parseA (L ++ [x]) (T.drop (i + 1)) | none => none) = _
     rw [HONE.out]
    cases r3 with
    | false =>
     go_wp2_with fail
     go_at_call 42
     refine htk.mono ?_
     rintro e w5 ⟨v2, rfl, hR, hb⟩
     have HFIN := hid (HPN.out w5 (HOT.out.trans (HO.out.trans (Only.of_below (fp := []) hb) (fun _ h _ => h)) (fun _ h _ => h)) HNONE.out)
     clear htk hR hb
     go_wp2_with fail
     exact HFIN.out
    | true =>
     have hne : r2 ≠ Go.Proofs.YtnhgakmnkpjpdaaGreat.B [] := fun e => good ⟨rfl, e⟩
     have qs : r2.toList.isEmpty = false := txn_ne hne
     go_wp2_with fail
     go_at_call 42
     refine htk.mono ?_
     rintro e w5 ⟨v2, rfl, hR, hb⟩
     have HFIN := hid (HPN.out w5 (HOT.out.trans (HO.out.trans (Only.of_below (fp := []) hb) (fun _ h _ => h)) (fun _ h _ => h)) HNONE.out)
     clear htk hR hb
     go_wp2_with fail
     exact HFIN.out
  ·
   have q1 : decide ((i : Int) < (n : Int)) = false := decide_eq_false (by omega)
   have hin2 : i = n := by omega
   subst hin2
   have HF : Hid (TxV w.heap.size wr ((Value.slice oA i oc).ownBlock.toList ++ B) (.slice oA i oc) L) := by
    have hoc : i ≤ oc := by
     rcases HOW.out.2 with ⟨-, h2⟩ | ⟨g, cap, cur, hv, -, -, h4, -⟩
     ·
      omega
     ·
      cases hv; exact h4
    have h8 := HOW.out
    have hLL := HPA.out.2
    subst hLL
    exact (TxV.of_own h8 HT.out (A := oA) (c := oc) (c2 := oc) rfl hoc (by have := HTL.out; omega)).lower HOT.out.size
   have HFIN := hid (HPS.out wr (.slice oA i oc) _ L (HOT.out.trans HO.out (fun _ h _ => h)) HF.out (by rw [HPA.out.1, List.drop_eq_nil_of_le (by rw [← HLN.out]; exact Nat.le_refl _)]; rfl))
   go_wp2_with fail
   exact HFIN.out
end
end Go.Proofs.YtnhgakmnkpjpdaaGreat

/- The document's row: a sheaf is put into sectors; a new slice. -/
set_option maxRecDepth 100000
set_option linter.unusedVariables false
set_option linter.unusedSimpArgs false
namespace Go.Proofs.YtnhgakmnkpjpdaaGreat
open Go Go.RowKit Go.Proofs.YtnhgakmnkpjpdaaGreat.Q Go.Proofs.YtnhgakmnkpjpdaaGreatW.PrintWords Go.Proofs.YtnhgakmnkpjpdaaGreatW.PrintLast Go.Proofs.YtnhgakmnkpjpdaaGreatW.PrintMore
attribute [local go_sem] Oper.semAt_some max2_int min2_int max_two min_two max_three min_three max_four min_four
theorem StrAt.cells {w : World} {B : List Nat} {ad : Addr} {n c : Nat} {t : List ByteArray} (h : StrAt w B (.slice (some ad) n c) t) : ∀ j u, (strV t)[j]? = some u → w.cell? (ad.add j) = some u := by
 obtain ⟨A1, cc1, heq, -, hrd, -⟩ := h
 have hsl1 := Value.slice.inj heq
 obtain ⟨hA1, -, -⟩ := hsl1
 subst hA1
 intro j u hj
 have hjl : j < t.length := by
  have := (List.getElem?_eq_some_iff.1 hj).1
  rwa [strV_len] at this
 obtain ⟨ad2, e2, hcell⟩ := hrd.2.2 (by omega)
 cases e2
 rw [strV_at t hjl] at hj
 rw [← hj]
 exact hcell j hjl
theorem strV_take (t : List ByteArray) (k : Nat) {j : Nat} {u : Value} (h : (strV (t.take k))[j]? = some u) : (strV t)[j]? = some u := by
 unfold strV at h ⊢
 rw [List.map_take, List.getElem?_take] at h
 split at h
 ·
  exact h
 ·
  cases h
theorem strV_drop (t : List ByteArray) (k : Nat) {j : Nat} {u : Value} (h : (strV (t.drop k))[j]? = some u) : (strV t)[k + j]? = some u := by
 unfold strV at h ⊢
 rwa [List.map_drop, List.getElem?_drop] at h
theorem strV_app (t s : List ByteArray) : strV t ++ strV s = strV (t ++ s) := by unfold strV; rw [List.map_append]
section
variable {w : World} {BB : List Nat} {v : Value} {l : List ByteArray}
theorem Top4_D (h : StrAt w BB v l) (hl : l.length ≤ 60) : Calls Tryz.prog 80 #[v] w fun e w' => e = .returned (.int .u64 ((Pure.topL l 0 : Nat) : Int)) ∧ Only [] w w' := by
 obtain ⟨A1, c1, rfl, h1, C1⟩ := h.C
 refine (quittanceref04_Top.calls 20000 A1 c1 l _ w C1 h1 (Pure.RTop_nat 20000 l hl (by decide))).mono ?_
 rintro e w2 ⟨rfl, n, rfl⟩
 exact ⟨rfl, Only.drewN _ _ _⟩
theorem Put4_D (n : Nat) (S : ByteArray) (h0 : n ≠ 0) (hn : n < 18446744073709551616) (hS : S.size ≤ 4200) (w : World) : Calls Tryz.prog 82 #[.int .u64 (n : Int), .string S] w fun e w' => ∃ v2, e = .returned (.tuple #[v2, .int .i64 0]) ∧ StrAt w' v2.ownBlock.toList v2 (Pure.sheafL n S.data.toList) ∧ (∀ k ∈ v2.ownBlock.toList, w.heap.size ≤ k ∧ k < w'.heap.size) ∧ Only [] w w' := by
 have hp := Pure.RPut4_f 20000 n S.data.toList h0 hn (by rw [Array.length_toList]; exact hS) (by decide)
 rw [Pure.B_self'] at hp
 refine (quittanceref04_Put.calls 20000 n S _ _ w hp).mono ?_
 rintro e w2 ⟨v2, rfl, hR, hb⟩
 obtain ⟨q1, q2⟩ := StrAt.of_R hR
 exact ⟨v2, rfl, q1, q2, Only.of_below hb⟩
set_option maxHeartbeats 4000000 in
theorem Put5_D (h : StrAt w BB v l) (hl : l.length ≤ 60) (hl0 : 0 < l.length) (a n : Nat) (S : ByteArray) (ha : a ≤ l.length) (hn : n < 18446744073709551616) (hS : S.size ≤ 4200) :
  Calls Tryz.prog 61 #[v, .int .i64 (a : Int), .int .u64 (n : Int), .string S] w fun e w' => ∃ v2 B2, e = .returned (.tuple #[v2, .int .i64 (Pure.rput l a n S).2]) ∧ StrAt w' B2 v2 (Pure.rput l a n S).1 ∧ (∀ k ∈ B2, k ∈ BB ∨ (w.heap.size ≤ k ∧ k < w'.heap.size)) ∧ Only [] w w' := by
 have HT := hid (Top4_D h hl)
 have HV := hid h
 have e83 : ∀ args w, (callFunc 80 args).run Tryz.prog w = .ok (.enter 80 args) w := enters_of Tryz.func80 (by kernel_rfl) rfl
 have e80 : ∀ args w, (callFunc 82 args).run Tryz.prog w = .ok (.enter 82 args) w := enters_of Tryz.func82 (by kernel_rfl) rfl
 have HL := hid hl
 have HL0 := hid hl0
 have HA := hid ha
 unfold Pure.rput
 by_cases c1 : n ≤ Pure.topL l 0
 ·
  rw [if_pos c1]
  obtain ⟨tp, htp⟩ : ∃ tp : Nat, Pure.topL l 0 = tp := ⟨_, rfl⟩
  rw [htp] at HT c1
  clear h htp hl hl0 ha
  have q1 : decide ((n : Int) ≤ (tp : Int)) = true := decide_eq_true (by omega)
  go_enter Tryz.func61, Tryz.ntmps61
  go_wp2_with fail
  go_at_call 80
  refine HT.out.mono ?_
  rintro e w2 ⟨rfl, ho⟩
  have HO := hid ho
  clear ho
  go_wp2_with fail
  go_ret2
  exact ⟨v, BB, rfl, HV.out.kept HO.out (by simp), fun k hk => .inl hk, HO.out⟩
 ·
  rw [if_neg c1]
  have h0 : n ≠ 0 := by omega
  have HP := hid (fun w2 => Put4_D n S h0 hn hS w2)
  obtain ⟨tp, htp⟩ : ∃ tp : Nat, Pure.topL l 0 = tp := ⟨_, rfl⟩
  rw [htp] at HT c1
  clear htp
  have q1 : decide ((n : Int) ≤ (tp : Int)) = false := decide_eq_false (by omega)
  have hsl := Pure.sheafL_len n S.data.toList
  obtain ⟨A, c, hv⟩ : ∃ A c, v = .slice A l.length c := by
   obtain ⟨A, c, e, -⟩ := h
   exact ⟨A, c, e⟩
  subst hv
  have hpos := Pure.nP_pos S.data.toList
  generalize Pure.nP (Pure.txt S.data.toList) = np at *
  obtain ⟨L2, hL2⟩ : ∃ L2, Pure.sheafL n S.data.toList = L2 := ⟨_, rfl⟩
  rw [hL2] at HP hsl ⊢
  clear hL2
  by_cases c2 : l.length - a < np
  ·
   rw [if_pos c2]
   have HSL := hid hsl
   obtain ⟨nl, hnl⟩ : ∃ nl, l.length = nl := ⟨_, rfl⟩
   rw [hnl] at HT HV HL HL0 HA hl ha c2 ⊢
   clear h hl0 hnl
   have ew : IntKind.i64.wrap ((nl : Int) - (a : Int)) = ((nl - a : Nat) : Int) := by rw [IntKind.wrap_i64]; omega
   have q2 : decide (((nl - a : Nat) : Int) < (np : Int)) = true := decide_eq_true (by omega)
   clear hsl hl ha
   go_enter Tryz.func61, Tryz.ntmps61
   go_wp2_with fail
   go_at_call 80
   refine HT.out.mono ?_
   rintro e w2 ⟨rfl, ho⟩
   have HO := hid ho
   clear ho
   go_wp2_with fail
   go_at_call 82
   refine (HP.out _).mono ?_
   rintro e w3 ⟨v2, rfl, hst, -, ho⟩
   obtain ⟨A2, cc2, hv2⟩ : ∃ A2 c2, v2 = .slice A2 L2.length c2 := by
    obtain ⟨A2, c2, e, -⟩ := hst
    exact ⟨A2, c2, e⟩
   rw [HSL.out] at hv2
   subst hv2
   have HO3 := hid (HO.out.trans ho (fun _ h _ => h))
   clear ho hst
   go_wp2_with fail
   go_ret2
   exact ⟨_, BB, rfl, HV.out.kept HO3.out (by simp), fun k hk => .inl hk, HO3.out⟩
  ·
   rw [if_neg c2]
   have HSL := hid hsl
   have HS2 : Hid (Pure.splice l a L2 = l.take a ++ L2 ++ l.drop (a + np)) := by show Pure.splice l a L2 = _; unfold Pure.splice; rw [hsl]
   obtain ⟨nl, hnl⟩ : ∃ nl, l.length = nl := ⟨_, rfl⟩
   have HNL := hid hnl
   rw [hnl] at HT HV HL HL0 HA hl ha c2 ⊢
   obtain ⟨A1, cc1, heq, hcc, hrd, hbl⟩ := h
   have hsl1 := Value.slice.inj heq
   obtain ⟨hA1, -, hc1⟩ := hsl1
   subst hA1
   subst hc1
   obtain ⟨ad, hA, hcell⟩ := hrd.2.2 (by omega)
   subst hA
   have HCE := hid hcell
   have HBL := hid (hbl (by omega))
   rw [hnl] at hcc
   clear hl0 hnl heq hrd hbl hcell
   have ew : IntKind.i64.wrap ((nl : Int) - (a : Int)) = ((nl - a : Nat) : Int) := by rw [IntKind.wrap_i64]; omega
   have q2 : decide (((nl - a : Nat) : Int) < (np : Int)) = false := decide_eq_false (by omega)
   have q3 : ¬ (nl - a < np) := c2
   clear hsl
   obtain ⟨ti, hti, htz, hts, htb⟩ := info_three Q.info9
   have HTI := hid (And.intro hti (And.intro htz (And.intro hts htb)))
   clear hti htz hts htb
   go_enter Tryz.func61, Tryz.ntmps61
   go_wp2_with fail
   go_at_call 80
   refine HT.out.mono ?_
   rintro e w2 ⟨rfl, ho⟩
   have HO := hid ho
   clear ho
   go_wp2_with fail
   go_at_call 82
   refine (HP.out _).mono ?_
   rintro e w3 ⟨v2, rfl, hst, hlt, ho⟩
   obtain ⟨A2, cc2, hv2⟩ : ∃ A2 c2, v2 = .slice A2 L2.length c2 := by
    obtain ⟨A2, c2, e, -⟩ := hst
    exact ⟨A2, c2, e⟩
   have HST := hid hst
   have HLT := hid hlt
   have HO3 := hid (HO.out.trans ho (fun _ h _ => h))
   rw [HSL.out] at hv2
   subst hv2
   obtain ⟨ad2, hA2⟩ : ∃ ad2, A2 = some ad2 := by
    obtain ⟨A3, c3, heq3, -, -, hbl3⟩ := hst
    obtain ⟨ad2, e2, -⟩ := hbl3 (by rw [HSL.out]; exact hpos)
    obtain ⟨hA3, -, -⟩ := Value.slice.inj heq3
    exact ⟨ad2, by rw [hA3, e2]⟩
   subst hA2
   clear ho hst hlt
   have hv3 := HV.out.kept HO3.out (by simp)
   have hva := hv3.kept (Only.alloc [] w3 (.cells #[] 9)) (by simp)
   have HCA := hid hva.cells
   have hal : a ≤ 60 := by omega
   have hnp : a + np ≤ 60 := by omega
   clear hva
   go_wp2_with (at_builtin; refine wpList_append_own _ rfl _ _ 32 rfl w3.heap.size 9 ti _ 1 16 Tryz.underlying32 HTI.out.1 HTI.out.2.1 HTI.out.2.2.1 HTI.out.2.2.2 rfl (by decide) _ _ _ rfl (World.ownsRow_made w3 #[] 0 (Nat.le_refl _) (Nat.zero_le _) (by simp)) ad a c (strV (l.take a)) rfl ?qc1 ?qc2 ?qc3 ?qc4 ?qc5 ?qc6 ?_)
   case qc1 => rw [strV_len, List.length_take, HNL.out]; omega
   case qc2 => exact fun j u hj => HCA.out j u (strV_take _ _ hj)
   case qc3 => exact strV_one _
   case qc4 => rw [Nat.zero_add]; unfold maxLen; omega
   case qc5 => omega
   case qc6 => simp
   intro v4 w4 hown4 hgrow4 hnil4
   have ho4 : Only [] w3 w4 := (Only.alloc [] w3 _).trans (Only.of_grown (fp := [w3.heap.size]) hgrow4 (fun k hk => by simp [Value.ownBlock] at hk; simp [hk])) (fun k hk hl => by rw [List.mem_singleton.1 hk] at hl; omega)
   have HO4 := hid ho4
   have HOW4 := hid hown4
   have HC4 := hid (HST.out.kept ho4 (by simp)).cells
   clear hgrow4 hnil4 ho4 hown4 HCA
   go_wp2_with (at_builtin; refine wpList_append_own _ rfl _ _ 32 rfl w3.heap.size 9 ti _ 1 16 Tryz.underlying32 HTI.out.1 HTI.out.2.1 HTI.out.2.2.1 HTI.out.2.2.2 rfl (by decide) _ _ _ rfl HOW4.out ad2 np cc2 (strV L2) rfl ?qd1 ?qd2 ?qd3 ?qd4 ?qd5 ?qd6 ?_)
   case qd1 => rw [strV_len, HSL.out]; omega
   case qd2 => exact HC4.out
   case qd3 => exact strV_one _
   case qd4 => unfold maxLen; omega
   case qd5 => omega
   case qd6 => exact HO4.out.size
   intro v5 w5 hown5 hgrow5 hnil5
   have ho5 : Only [] w3 w5 := HO4.out.on (Only.of_grown (fp := v4.ownBlock.toList) hgrow5 (fun k hk => by simpa using hk)) (fun k hk => (World.ownsRow.lt HOW4.out k (by simpa using hk)).1)
   have HO5 := hid ho5
   have HOW5 := hid hown5
   have HC5 := hid (hv3.kept ho5 (by simp)).cells
   clear hgrow5 hnil5 ho5 hown5 HC4 hv3
   have ew2 : IntKind.i64.wrap ((a : Int) + (np : Int)) = ((a + np : Nat) : Int) := by rw [IntKind.wrap_i64]; omega
   have p1 : a + np ≤ nl := by omega
   have p2 : ((a + np : Nat) : Int) ≤ (nl : Int) := by omega
   have p3 : nl ≤ c := hcc
   have p4 : (0 : Int) ≤ ((a + np : Nat) : Int) := by omega
   have p5 : (((a + np : Nat) : Int)).toNat = a + np := by omega
   have HCAP := HNL.out
   have hlen : (strV (l.take a)).length = a := by rw [strV_len, List.length_take, HNL.out]; omega
   clear hlen
   have HFIN : Hid (∀ (v6 : Value) (w6 : World), w6.ownsRow w3.heap.size 9 1 v6 nl (strV (l.take a) ++ (strV L2 ++ strV (l.drop (a + np)))) → w5.grownBy w6 v5.ownBlock →
     ∃ v2 B2, Ending.returned (.tuple #[v6, .int .i64 0]) = Ending.returned (.tuple #[v2, .int .i64 0]) ∧ StrAt w6 B2 v2 (Pure.splice l a L2) ∧ (∀ k ∈ B2, k ∈ BB ∨ (w.heap.size ≤ k ∧ k < w6.heap.size)) ∧ Only [] w w6) := fun v6 w6 hown6 hg => by
    have ho6 : Only [] w3 w6 := HO5.out.on (Only.of_grown (fp := v5.ownBlock.toList) hg (fun k hk => by simpa using hk)) (fun k hk => (World.ownsRow.lt HOW5.out k (by simpa using hk)).1)
    rw [strV_app, strV_app, ← List.append_assoc, ← HS2.out] at hown6
    have hll : nl = (Pure.splice l a L2).length := by
     rw [HS2.out, List.length_append, List.length_append, List.length_take, List.length_drop, HSL.out, HNL.out]; omega
    rw [hll] at hown6
    exact ⟨v6, v6.ownBlock.toList, rfl, StrAt.of_own hown6, fun k hk => .inr ⟨by have h1 := (ownsRow_lt hown6 hk).1; have h2 := HO3.out.size; omega, (ownsRow_lt hown6 hk).2⟩, HO3.out.trans ho6 (fun _ h _ => h)⟩
   have HDL : Hid ((strV (l.drop (a + np))).length = nl - (a + np)) := by show (strV (l.drop (a + np))).length = _; rw [strV_len, List.length_drop, HNL.out]
   by_cases hcap : c = a + np
   ·
    have hz : nl = a + np := by omega
    subst hcap
    rw [hz] at HFIN
    go_wp2_with (at_builtin; refine wpList_append_own _ rfl _ _ 32 rfl w3.heap.size 9 ti _ 1 16 Tryz.underlying32 HTI.out.1 HTI.out.2.1 HTI.out.2.2.1 HTI.out.2.2.2 rfl (by decide) _ _ _ rfl HOW5.out _ _ _ (strV (l.drop (a + np))) rfl ?qe1 ?qe2 ?qe3 ?qe4 ?qe5 ?qe6 ?_)
    case qe1 => rw [HDL.out]; omega
    case qe2 => exact fun j u hj => absurd hj (by rw [List.getElem?_eq_none (by rw [HDL.out]; omega)]; simp)
    case qe3 => exact strV_one _
    case qe4 => unfold maxLen; omega
    case qe5 => omega
    case qe6 => exact HO5.out.size
    intro v6 w6 hown6 hgrow6 hnil6
    have HEND := hid (HFIN.out v6 w6 hown6 hgrow6)
    clear hown6 hgrow6 hnil6
    go_wp2_with fail
    go_ret2
    exact HEND.out
   ·
    go_wp2_with (at_builtin; refine wpList_append_own _ rfl _ _ 32 rfl w3.heap.size 9 ti _ 1 16 Tryz.underlying32 HTI.out.1 HTI.out.2.1 HTI.out.2.2.1 HTI.out.2.2.2 rfl (by decide) _ _ _ rfl HOW5.out _ _ _ (strV (l.drop (a + np))) rfl ?qf1 ?qf2 ?qf3 ?qf4 ?qf5 ?qf6 ?_)
    case qf1 => rw [HDL.out]; omega
    case qf2 => exact fun j u hj => by rw [Addr.add_add]; exact HC5.out _ _ (strV_drop _ _ hj)
    case qf3 => exact strV_one _
    case qf4 => unfold maxLen; omega
    case qf5 => omega
    case qf6 => exact HO5.out.size
    intro v6 w6 hown6 hgrow6 hnil6
    have HEND := hid (HFIN.out v6 w6 hown6 hgrow6)
    clear hown6 hgrow6 hnil6
    go_wp2_with fail
    go_ret2
    exact HEND.out
end
end Go.Proofs.YtnhgakmnkpjpdaaGreat
