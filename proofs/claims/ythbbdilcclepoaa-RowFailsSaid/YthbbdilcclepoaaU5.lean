/- Chapter 05: a row that may fail: its calls, in memory. -/
import Derived.Test.YthbbdilcclepoaaU4
set_option maxRecDepth 100000
set_option linter.unusedVariables false
set_option linter.unusedSimpArgs false
namespace Go.Proofs.Ythbbdilcclepoaa
open Go Go.RowKit Go.Proofs.Ythbbdilcclepoaa.Q Go.Proofs.Ythbbdilcclepoaa.Pure Go.Proofs.YthbbdilcclepoaaW.PrintWords Go.Proofs.YthbbdilcclepoaaW.PrintLast Go.Proofs.YthbbdilcclepoaaW.PrintMore
/-- A failure, where it lies. -/
def boxC (k t a : Int) : Obj := .cells #[.int .u64 k, .int .i64 t, .int .i64 a] 42
/-- An act, where it lies. -/
def boxX (X : S44) : Obj := .cells #[.int .u8 X.f0, .int .i16 X.f1, .string X.f2, .int .u8 X.f3, .int .u64 X.f4.f0, .int .i64 X.f4.f1, .int .i64 X.f4.f2] 44
theorem boxX_cells {W : World} {XB : Nat} {X : S44} (h : W.heap[XB]? = some (boxX X)) : W.cell? ⟨XB, 0, none⟩ = some (.int .u8 X.f0) ∧ W.cell? ⟨XB, 1, none⟩ = some (.int .i16 X.f1) ∧ W.cell? ⟨XB, 2, none⟩ = some (.string X.f2) ∧ W.cell? ⟨XB, 3, none⟩ = some (.int .u8 X.f3) ∧ W.cell? ⟨XB, 4, none⟩ = some (.int .u64 X.f4.f0) ∧ W.cell? ⟨XB, 5, none⟩ = some (.int .i64 X.f4.f1) ∧ W.cell? ⟨XB, 6, none⟩ = some (.int .i64 X.f4.f2) :=
  ⟨cell_of_row W _ _ _ _ _ h, cell_of_row W _ _ _ _ _ h, cell_of_row W _ _ _ _ _ h, cell_of_row W _ _ _ _ _ h, cell_of_row W _ _ _ _ _ h, cell_of_row W _ _ _ _ _ h, cell_of_row W _ _ _ _ _ h⟩
/-- Under way. -/
structure Fl (n : Nat) (w wr : World) (F : List Nat) (D : Nat) (s : DS) (R : Nat) (tv : Value) (r : RS) (sv : Value) (xs : List ByteArray) (nv : Value) (ys : List ByteArray) (adds : List (Nat × List UInt8)) (fz : List (Nat × Obj)) : Prop where
  hf : Hf w wr F D s R tv r sv xs nv ys fz
  hope : Hope n s r adds
  xs_ : xs = (T0 s n).texts
  ys_ : ys = adds.map fun a => B a.2
theorem Fl.new {n : Nat} {w wr w' : World} {F : List Nat} {D : Nat} {s : DS} {R : Nat} {tv : Value} {r : RS} {sv : Value} {xs : List ByteArray} {nv : Value} {ys : List ByteArray} {adds : List (Nat × List UInt8)} {fz : List (Nat × Obj)} (h : Fl n w wr F D s R tv r sv xs nv ys adds fz) (ho : Only [] wr w') : Fl n w w' F D s R tv r sv xs nv ys adds fz := ⟨h.hf.new ho, h.hope, h.xs_, h.ys_⟩
theorem Hf.start {w0 w : World} {F : List Nat} {D : Nat} {s : DS} {R : Nat} {tv : Value} {r : RS} (h : Rw w0 w [(D, s)] F 0 D s R tv r) : Hf w0 w F D s R tv r (.slice none 0 0) [] (.slice none 0 0) [] [] :=
  ⟨h, World.ownsRow_nil _ _ _ _, World.ownsRow_nil _ _ _ _, fun b hb => by simp [Value.ownBlock] at hb, fun b hb => by simp [Value.ownBlock] at hb, fun p hp => by cases hp⟩
theorem hope_new (n : Nat) (hn : 1 ≤ n ∧ n ≤ 16) : Hope n (newS 16) (openRS (newS 16) 0 n) [] :=
  Hope.fresh hn (by show (List.replicate 16 z64).length = 16; rw [List.length_replicate]) rfl rfl fun i hi => by
    have e : sat (newS 16).sure i = z64 := by
      show (List.replicate 16 z64).getD i [] = z64
      rw [List.getD_eq_getElem?_getD, List.getElem?_replicate, if_pos hi]; rfl
    rw [e]
    exact ⟨by kernel_rfl, by have h1 : footNum z64 = 0 := by kernel_rfl
                             omega⟩
theorem open_texts {s : DS} {n : Nat} (hl : s.sure.length = 16) (hn : n ≤ 16) (he : s.now = s.sure) : (openRS s 0 n).texts = (T0 s n).texts := by
  show (rowT (rowSec s 0 n)).texts = _
  rw [rowSec_zero (by rw [he]; exact hl) hn, he]; rfl
section
variable {w0 w w' : World} {F : List Nat} {D : Nat} {s : DS} {R : Nat} {tv : Value} {r : RS} {sv nv : Value} {xs ys : List ByteArray} {fz : List (Nat × Obj)}
theorem Hf.addCall (h : Hf w0 w F D s R tv r sv xs nv ys fz) (st : Nat) (S : ByteArray) (hst : st < 18446744073709551616) (hm : s.opn.length < 900000) : Calls Try.prog 18 #[.pointer (some ⟨R, 0, none⟩), .int .u64 (st : Int), .string S] w fun e w' =>
    e = .returned (.int .i64 (addR s r st S).e) ∧ ∃ F' tv', Hf w0 w' F' D (addR s r st S).s R tv' (addR s r st S).r sv xs nv ys fz :=
  (Row_Add h.rw st S hst hm).mono fun e w' ⟨he, tv', hw⟩ => ⟨he, _, tv', h.went hw⟩
theorem Hf.beginCall (h : Hf w0 w F D s R tv r sv xs nv ys fz) (st : Nat) (S : ByteArray) (hst : st < 18446744073709551616) (hm : s.opn.length < 900000) : Calls Try.prog 19 #[.pointer (some ⟨R, 0, none⟩), .int .u64 (st : Int), .string S] w fun e w' =>
    e = .returned (.int .i64 (beginR s r st S).e) ∧ ∃ F' tv', Hf w0 w' F' D (beginR s r st S).s R tv' (beginR s r st S).r sv xs nv ys fz :=
  (Row_Begin h.rw st S hst hm).mono fun e w' ⟨he, tv', hw⟩ => ⟨he, _, tv', h.went hw⟩
theorem Hf.addDown (h : Hf w0 w F D s R tv r sv xs nv ys fz) (hd : r.down = true) (st : Nat) (S : ByteArray) (hst : st < 18446744073709551616) (hm : s.opn.length < 900000) : Calls Try.prog 18 #[.pointer (some ⟨R, 0, none⟩), .int .u64 (st : Int), .string S] w fun e w' =>
    e = .returned (.int .i64 30) ∧ ∃ F' tv', Hf w0 w' F' D s R tv' r sv xs nv ys fz := by
  have h2 := h.addCall st S hst hm
  rw [addR_down hd] at h2
  exact h2
theorem Hf.beginDown (h : Hf w0 w F D s R tv r sv xs nv ys fz) (hd : r.down = true) (st : Nat) (S : ByteArray) (hst : st < 18446744073709551616) (hm : s.opn.length < 900000) : Calls Try.prog 19 #[.pointer (some ⟨R, 0, none⟩), .int .u64 (st : Int), .string S] w fun e w' =>
    e = .returned (.int .i64 30) ∧ ∃ F' tv', Hf w0 w' F' D s R tv' r sv xs nv ys fz := by
  have h2 := h.beginCall st S hst hm
  rw [beginR_down hd] at h2
  exact h2
theorem Hf.syncCall (h : Hf w0 w F D s R tv r sv xs nv ys fz) : Calls Try.prog 20 #[.pointer (some ⟨D, 0, none⟩)] w fun e w' => e = .returned (.int .i64 (syncR s).2) ∧ Hf w0 w' F D (syncR s).1 R tv r sv xs nv ys fz :=
  (h.rw.dr.sync (i := 0) rfl).mono fun e w' ⟨he, hd, hs⟩ => ⟨he, h.ran hd hs⟩
theorem Hf.fuseCall (h : Hf w0 w F D s R tv r sv xs nv ys fz) (k : Int) (hk : k < 9223372036854775808) : Calls Try.prog 24 #[.pointer (some ⟨D, 0, none⟩), .int .i64 k] w fun e w' => e = .returned (.tuple #[]) ∧ Hf w0 w' F D (fuseS s k) R tv r sv xs nv ys fz :=
  (h.rw.dr.fuse (i := 0) rfl k hk).mono fun e w' ⟨he, hd, hs⟩ => ⟨he, h.ran hd hs⟩
theorem Hf.crashCall (h : Hf w0 w F D s R tv r sv xs nv ys fz) (hm : s.opn.length < 1000000) (k t a : Int) (hk : 0 ≤ k ∧ k < 18446744073709551616) : Calls Try.prog 25 #[.pointer (some ⟨D, 0, none⟩), .agg #[.int .u64 k, .int .i64 t, .int .i64 a]] w fun e w' => e = .returned (.tuple #[]) ∧ Hf w0 w' F D (crashS s k t a) R tv r sv xs nv ys fz :=
  (h.rw.dr.crash (i := 0) rfl hm k t a hk).mono fun e w' ⟨he, hd, hs⟩ => ⟨he, h.ran hd hs⟩
theorem Hf.openCall (h : Hf w0 w F D s R tv r sv xs nv ys fz) (n : Nat) (hn : 1 ≤ n ∧ n ≤ 16) (hl : s.now.length = 16) : Calls Try.prog 8 #[.pointer (some ⟨D, 0, none⟩), .int .i64 0, .int .i64 (n : Int)] w fun e w' =>
    ∃ R', e = .returned (.tuple #[.pointer (some ⟨R', 0, none⟩), .int .i64 0]) ∧ ∃ F' tv', Hf w0 w' F' D s R' tv' (openRS s 0 n) sv xs nv ys fz :=
  (Open_ok h.rw.dr (i := 0) rfl 0 n hn.1 (by omega) (by omega)).mono fun e w' ⟨R', tv', he, ho, hr⟩ => ⟨R', he, _, tv', h.reopen ho hr⟩
theorem Hf.setC {b c : Nat} {o : Obj} {k t a k' t' a' : Int} (h : Hf w0 w F D s R tv r sv xs nv ys [(b, o), (c, boxC k t a)]) (u : Upd w w' c (boxC k' t' a')) (hne : c ≠ b) : Hf w0 w' F D s R tv r sv xs nv ys [(b, o), (c, boxC k' t' a')] :=
  ((h.less (fz' := [(c, boxC k t a), (b, o)]) (fun p hp => by simp only [List.mem_cons, List.not_mem_nil, or_false] at hp ⊢; exact hp.symm)).setBox (Only.of_upd (fp := [c]) u (by simp)) u.at_ (fun p hp => by rw [List.mem_singleton.1 hp]; exact fun e => hne e.symm)).less (fun p hp => by simp only [List.mem_cons, List.not_mem_nil, or_false] at hp ⊢; exact hp.symm)
end
theorem info42 : (Try.prog.info? 42).map (fun i => (i.zero, i.size)) = some (some (.agg #[.int .u64 0, .int .i64 0, .int .i64 0]), 3) := by kernel_rfl
theorem boxC_cells {W : World} {CB : Nat} {k t a : Int} (h : W.heap[CB]? = some (boxC k t a)) : W.cell? ⟨CB, 0, none⟩ = some (.int .u64 k) ∧ W.cell? ⟨CB, 1, none⟩ = some (.int .i64 t) ∧ W.cell? ⟨CB, 2, none⟩ = some (.int .i64 a) :=
  ⟨cell_of_row W _ _ _ _ _ h, cell_of_row W _ _ _ _ _ h, cell_of_row W _ _ _ _ _ h⟩
theorem Hf.closed {w0 w w1 w' : World} {F : List Nat} {D : Nat} {s : DS} {R : Nat} {tv : Value} {r : RS} {sv nv v : Value} {xs ys T : List ByteArray} {p q : Nat × Obj} (h : Hf w0 w F D s R tv r sv xs nv ys [p, q]) (hv : w1.ownsRow w.heap.size 9 1 v T.length (strV T)) (ho1 : Only [] w w1) (ho : Only [] w1 w') :
    ∃ F', Hf w0 w' F' D s R tv r v T (.slice none 0 0) [] [q] :=
  ⟨_, ((h.sureSet (ho1.trans ho (fun _ h _ => h)) (ownsRow_kept hv ho (by simp))).sinceNil).less (fun p hp => by simp only [List.mem_cons, List.not_mem_nil, or_false] at hp ⊢; exact .inr hp)⟩
theorem adds_len : ∀ adds : List (Nat × List UInt8), adds.length ≤ (lvs adds).length
  | [] => Nat.le_refl _
  | a :: t => by
    have h1 := adds_len t
    have h2 := nP_pos a.2
    rw [lvs_cons, List.length_append, List.length_map, List.length_range, List.length_cons]
    omega
theorem T0_len {s : DS} {n : Nat} (hs : s.sure.length = 16) (hn : n ≤ 16) : (T0 s n).texts.length ≤ 16 := by
  have h1 := (rowT_ok (secS s n)).texts
  have h2 := (rowT_ok (secS s n)).en
  rw [secS_len hs hn] at h2
  unfold T0
  omega
/-- Behind a failure: the row has the sure sheaves and the first of those since. -/
theorem crash_tells {n : Nat} {s : DS} {adds : List (Nat × List UInt8)} (h : Loose n s adds) (keep torn at_ : Int) {xs ys : List ByteArray} (hx : xs = (T0 s n).texts) (hy : ys = adds.map fun a => B a.2) (K : Nat) (hK : 8000 ≤ K) :
    Hope n (crashS s keep torn at_) (openRS (crashS s keep torn at_) 0 n) [] ∧ quittanceref05_Begins.f K (openRS (crashS s keep torn at_) 0 n).texts xs ys = some true := by
  obtain ⟨h1, k, h2, h3⟩ := h.crash keep torn at_
  refine ⟨h1, Begins_f K _ xs ys k (by rw [hy, List.length_map]; exact h2) (by rw [h3, hx, hy, List.map_take]) ?_ ?_ hK⟩
  · rw [hx]
    have := T0_len h.slen h.n1.2
    omega
  · rw [hy, List.length_map]
    have := adds_len adds
    have := h.room
    have := h.n1
    omega
theorem own_lit (W : World) (x : ByteArray) : (W.alloc (.cells #[.string x] 9)).ownsRow W.heap.size 9 1 (.slice (some ⟨W.heap.size, 0, none⟩) 1 1) [x].length (strV [x]) :=
  ⟨rfl, .inr ⟨W.heap.size, 1, #[.string x], rfl, Nat.le_refl _, heap_alloc_new W _, Nat.le_refl _, by unfold maxLen; omega, rfl, rfl⟩⟩
theorem lit_C (W : World) (x : ByteArray) : Kd.C Kd.string (W.alloc (.cells #[.string x] 9)) (some ⟨W.heap.size, 0, none⟩) [x].length [x] := str_lit W [x] (by simp) (by simp)
theorem crash_begun {n : Nat} {s : DS} {b : Nat} {S : ByteArray} (h : Loose2 n s b S.data.toList) (keep torn at_ : Int) :
    Hope n (crashS s keep torn at_) (openRS (crashS s keep torn at_) 0 n) [] ∧ (openRS (crashS s keep torn at_) 0 n).first ≤ b ∧ ((openRS (crashS s keep torn at_) 0 n).first = b → (openRS (crashS s keep torn at_) 0 n).texts = [S]) := by
  obtain ⟨h1, h2, h3⟩ := h.crash keep torn at_
  rw [B_self'] at h3
  exact ⟨h1, h2, h3⟩
section
variable {w0 w w' : World} {F : List Nat} {D : Nat} {s : DS} {R : Nat} {tv : Value} {r : RS} {sv nv : Value} {xs ys : List ByteArray} {fz : List (Nat × Obj)}
theorem Hf.topCall (h : Hf w0 w F D s R tv r sv xs nv ys fz) {t : Nat} (ht : r.top = t) : Calls Try.prog 23 #[.pointer (some ⟨R, 0, none⟩)] w fun e w' => e = .returned (.int .u64 (t : Int)) ∧ w' = w := by
  subst ht
  exact Row_Top h.rw.row
theorem Hf.addDown1 (h : Hf w0 w F D s R tv r sv xs nv ys fz) (hd : r.down = true) (t : Nat) (ht : t ≤ 4611686018427387904) (hm : s.opn.length ≤ 100) : Calls Try.prog 18 #[.pointer (some ⟨R, 0, none⟩), .int .u64 ((t : Int) + 1), .string ⟨#[]⟩] w fun e w' =>
    e = .returned (.int .i64 30) ∧ ∃ F' tv', Hf w0 w' F' D s R tv' r sv xs nv ys fz := by
  have h2 := h.addDown hd (t + 1) ⟨#[]⟩ (by omega) (by omega)
  rw [Int.natCast_add] at h2
  exact h2
theorem Hf.beginDown1 (h : Hf w0 w F D s R tv r sv xs nv ys fz) (hd : r.down = true) (t : Nat) (ht : t ≤ 4611686018427387904) (hm : s.opn.length ≤ 100) : Calls Try.prog 19 #[.pointer (some ⟨R, 0, none⟩), .int .u64 ((t : Int) + 1), .string ⟨#[]⟩] w fun e w' =>
    e = .returned (.int .i64 30) ∧ ∃ F' tv', Hf w0 w' F' D s R tv' r sv xs nv ys fz := by
  have h2 := h.beginDown hd (t + 1) ⟨#[]⟩ (by omega) (by omega)
  rw [Int.natCast_add] at h2
  exact h2
end
end Go.Proofs.Ythbbdilcclepoaa
