/- Chapter 05: what the laws of many acts lean on. -/
import Derived.Test.YthbbdilcclepoaaRW
import Derived.Test.YthbbdilcclepoaaQ4
set_option maxRecDepth 100000
set_option linter.unusedVariables false
set_option linter.unusedSimpArgs false
namespace Go.Proofs.Ythbbdilcclepoaa
open Go Go.RowKit Go.Proofs.Ythbbdilcclepoaa.Q Go.Proofs.Ythbbdilcclepoaa.Pure Go.Proofs.YthbbdilcclepoaaW.PrintWords Go.Proofs.YthbbdilcclepoaaW.PrintLast Go.Proofs.YthbbdilcclepoaaW.PrintMore
theorem great_l0 (l : List S44) (hl : l.length < 9223372036854775808) : ∀ (d k j : Nat), j + d = l.length → d < k → ∃ r, quittancelaw05_great.l0 k l (j : Int) = some r ∧ (r = false → l.length ≤ 40 ∧ ∀ m, j ≤ m → m < l.length → (rd_T44 l (m : Int)).f2.size ≤ 600) := by
  intro d
  induction d with
  | zero =>
    intro k j hj hk
    obtain ⟨k, rfl⟩ : ∃ m, k = m + 1 := ⟨k - 1, by omega⟩
    rw [quittancelaw05_great.l0, if_neg (by omega)]
    refine ⟨_, rfl, fun h => ⟨?_, fun m h1 h2 => by omega⟩⟩
    have := of_decide_eq_false h
    omega
  | succ d ih =>
    intro k j hj hk
    obtain ⟨k, rfl⟩ : ∃ m, k = m + 1 := ⟨k - 1, by omega⟩
    rw [quittancelaw05_great.l0, if_pos (by omega), if_pos (by omega)]
    by_cases c : ((rd_T44 l (j : Int)).f2.size : Int) > 600
    · rw [if_pos c]
      exact ⟨true, rfl, fun h => by cases h⟩
    · rw [if_neg c]
      have hw : wrap64 ((j : Int) + 1) = ((j + 1 : Nat) : Int) := by unfold wrap64; omega
      rw [hw]
      obtain ⟨r, h1, h2⟩ := ih k (j + 1) (by omega) (by omega)
      refine ⟨r, h1, fun h => ⟨(h2 h).1, fun m hm1 hm2 => ?_⟩⟩
      by_cases e : m = j
      · subst e; omega
      · exact (h2 h).2 m (by omega) hm2
theorem great_f (l : List S44) (hl : l.length < 9223372036854775808) : ∃ r, quittancelaw05_great.f (l.length + 1) l = some r ∧ (r = false → l.length ≤ 40 ∧ ∀ m, m < l.length → (rd_T44 l (m : Int)).f2.size ≤ 600) := by
  obtain ⟨r, h1, h2⟩ := great_l0 l hl l.length (l.length + 1) 0 (by omega) (by omega)
  exact ⟨r, h1, fun h => ⟨(h2 h).1, fun m hm => (h2 h).2 m (Nat.zero_le _) hm⟩⟩
theorem u64_nat (x : Int) : ∃ st : Nat, st < 18446744073709551616 ∧ IntKind.u64.wrap x = (st : Int) := by
  refine ⟨(IntKind.u64.wrap x).toNat, ?_, ?_⟩ <;> simp [IntKind.wrap, IntKind.signed, IntKind.bits] <;> omega
theorem stamp_nat (a b : Int) : ∃ st : Nat, st < 18446744073709551616 ∧ quittancelaw05_stamp.f a b = some (st : Int) := by
  unfold quittancelaw05_stamp.f
  split
  · obtain ⟨st, h1, h2⟩ := u64_nat (IntKind.u64.wrap (a + 1) + IntKind.u64.wrap b)
    exact ⟨st, h1, by rw [h2]⟩
  · obtain ⟨st, h1, h2⟩ := u64_nat (a - mn a (IntKind.u64.wrap (wrap64 (-wrap64 (wrap64 b + 1)))))
    exact ⟨st, h1, by rw [h2]⟩
theorem act_cells {w wr : World} {A : Option Addr} {l : List S44} (h : Kd.C k44 w A l.length l) (hb : Below w.heap.size w wr) (i : Nat) (h1 : i < l.length) : ∃ ad, A = some ad ∧ wr.cell? (ad.add (i * 7)) = some (.int .u8 (rd_T44 l i).f0) ∧ wr.cell? ⟨(ad.add (i * 7)).block, (ad.add (i * 7)).off + 1, none⟩ = some (.int .i16 (rd_T44 l i).f1) ∧
    wr.cell? ⟨(ad.add (i * 7)).block, (ad.add (i * 7)).off + 2, none⟩ = some (.string (rd_T44 l i).f2) ∧ wr.cell? ⟨(ad.add (i * 7)).block, (ad.add (i * 7)).off + 3, none⟩ = some (.int .u8 (rd_T44 l i).f3) ∧ wr.cell? ⟨(ad.add (i * 7)).block, (ad.add (i * 7)).off + 4, none⟩ = some (.int .u64 (rd_T44 l i).f4.f0) ∧
    wr.cell? ⟨(ad.add (i * 7)).block, (ad.add (i * 7)).off + 5, none⟩ = some (.int .i64 (rd_T44 l i).f4.f1) ∧ wr.cell? ⟨(ad.add (i * 7)).block, (ad.add (i * 7)).off + 6, none⟩ = some (.int .i64 (rd_T44 l i).f4.f2) := by
  have h2 := at_T44 (Kd.C_below h hb) (i : Int) (by omega) (by omega)
  rw [Int.toNat_natCast] at h2
  exact h2
theorem act_mem {l : List S44} {i : Nat} (h : i < l.length) : rd_T44 l (i : Int) ∈ l := by
  unfold rd_T44
  rw [Int.toNat_natCast, List.getD_eq_getElem?_getD, List.getElem?_eq_getElem h]
  exact List.getElem_mem _
/-! What an Add, a Begin leaves open on the drive -/
theorem putR_opn (s : DS) (r : RS) (a st : Nat) (S : ByteArray) : (putR s r a st S).s.opn.length ≤ s.opn.length + r.mn := by
  unfold putR
  split
  · exact Nat.le_add_right _ _
  split
  · exact Nat.le_add_right _ _
  split
  · exact Nat.le_add_right _ _
  split
  · exact Nat.le_add_right _ _
  rename_i c
  have h := (wl_len (sheafL st S.data.toList) s (r.fr + a)).2
  rw [sheafL_len] at h
  split
  · exact Nat.le_trans h (by omega)
  · exact Nat.le_trans h (by omega)
theorem addR_opn (s : DS) (r : RS) (st : Nat) (S : ByteArray) : (addR s r st S).s.opn.length ≤ s.opn.length + r.mn := by
  unfold addR
  split <;> exact putR_opn _ _ _ _ _
theorem beginR_opn (s : DS) (r : RS) (st : Nat) (S : ByteArray) : (beginR s r st S).s.opn.length ≤ s.opn.length + r.mn := by
  unfold beginR
  split <;> exact putR_opn _ _ _ _ _
section
variable {w0 w w' : World} {l : List (Nat × DS)} {F : List Nat} {i D : Nat} {s s' : DS} {R R' : Nat} {tv tv' : Value} {r r' : RS} {v v' : Value} {xs xs' : List ByteArray}
/-- The slice of one's own is written to or made anew. -/
theorem Held.put (h : Held w0 w l F i D s R tv r v xs) (hb : Below w0.heap.size w0 w') (hk : Kept w w' (fun k => v.ownBlock = some k)) (hv : Kd.R Kd.string 9 w' w0.heap.size (fun k => v.ownBlock = some k ∨ w.heap.size ≤ k) v' xs') :
    Held w0 w' l (v'.ownBlock.toList ++ F) i D s R tv r v' xs' := by
  have ho : Only v.ownBlock.toList w w' := by
    have hb0 := h.rw.dr.below
    refine ⟨hb.os.trans hb0.os.symm, hb.tape.trans hb0.tape.symm, hb.output.trans hb0.output.symm, hk.1, fun k h1 h2 => hk.2 k h1 (fun e => h2 (by rw [e]; simp))⟩
  have hf : ∀ k ∈ v'.ownBlock.toList, v.ownBlock = some k ∨ w.heap.size ≤ k := fun k hkk => hv.1 k (by simpa using hkk)
  have hown := R_own_str hv
  have hdis : ∀ k ∈ rwFp R tv, k ∉ v.ownBlock.toList := fun k h1 h2 => (h.mem k h2).2 h1
  refine ⟨⟨h.rw.dr.grow v.ownBlock.toList _ ho (fun k hkk => ⟨(h.mem k hkk).1, (ownsRow_lt h.own hkk).1⟩) (fun k hkk => ?_), h.rw.hi, h.rw.row.kept ho hdis, fun k hkk => List.mem_append_right _ (h.rw.fp k hkk)⟩, hown, fun k hkk => ⟨List.mem_append_left _ hkk, fun e => ?_⟩⟩
  · rcases List.mem_append.1 hkk with e | e
    · rcases hf k e with q | q
      · exact .inl (h.mem k (by rw [q]; simp)).1
      · exact .inr ⟨q, (ownsRow_lt hown e).2⟩
    · exact .inl e
  · rcases hf k hkk with q | q
    · exact hdis k e (by rw [q]; simp)
    · have := (h.rw.row.fp_lt k e).2
      omega
/-- The drive goes on by itself. -/
theorem Held.ran (h : Held w0 w l F i D s R tv r v xs) (hd : Dr w0 w' (l.set i (D, s')) F) (hs : Same F w w') : Held w0 w' (l.set i (D, s')) F i D s' R tv r v xs :=
  ⟨h.rw.went hd hs, ownsRow_at h.own (fun k hk => hs k (h.mem k hk).1), h.mem⟩
/-- The row is opened again. -/
theorem Held.reopen (h : Held w0 w l F i D s R tv r v xs) (ho : Only [] w w') (hr : RowAt w.heap.size w' R' D tv' r') : Held w0 w' l (rwFp R' tv' ++ F) i D s R' tv' r' v xs := by
  refine ⟨Rw.opened h.rw.dr h.rw.hi ho hr, ownsRow_kept h.own ho (by simp), fun k hk => ⟨List.mem_append_right _ (h.mem k hk).1, fun e => ?_⟩⟩
  have h1 := (ownsRow_lt h.own hk).2
  have h2 := (hr.fp_lt k e).1
  omega
end
/-- Under way in RowTells: all but that the slice is the sectors. -/
structure Tel (w wr : World) (F : List Nat) (D R : Nat) (tv : Value) (s : DS) (r : RS) (qv : Value) (q : List ByteArray) (fr mn i : Nat) : Prop where
  held : Held w wr [(D, s)] F 0 D s R tv r qv q
  fit : Fit s r
  fuse : s.fuse = none
  opn : s.opn.length ≤ 20 * i
  len : s.now.length = 24
  out : ∀ k, k < 24 → (k < fr ∨ fr + mn ≤ k) → s.now[k]? = some z64
  at_ : r.fr = fr ∧ r.mn = mn
  mn16 : mn ≤ 16
  qlen : q.length = mn
section
variable {w wr w' : World} {F F' : List Nat} {D R R' : Nat} {tv tv' : Value} {s s' : DS} {r r' : RS} {qv qv' : Value} {q q' : List ByteArray} {fr mn i : Nat}
theorem Tel.new (h : Tel w wr F D R tv s r qv q fr mn i) (ho : Only [] wr w') : Tel w w' F D R tv s r qv q fr mn i := ⟨h.held.new ho, h.fit, h.fuse, h.opn, h.len, h.out, h.at_, h.mn16, h.qlen⟩
theorem Tel.next (h : Tel w wr F D R tv s r qv q fr mn i) : Tel w wr F D R tv s r qv q fr mn (i + 1) := ⟨h.held, h.fit, h.fuse, by have := h.opn; omega, h.len, h.out, h.at_, h.mn16, h.qlen⟩
theorem Tel.put (h : Tel w wr F D R tv s r qv q fr mn i) (hb : Below w.heap.size w w') (hk : Kept wr w' (fun k => qv.ownBlock = some k)) (hv : Kd.R Kd.string 9 w' w.heap.size (fun k => qv.ownBlock = some k ∨ wr.heap.size ≤ k) qv' q') (hl : q'.length = mn) :
    Tel w w' (qv'.ownBlock.toList ++ F) D R tv s r qv' q' fr mn i := ⟨h.held.put hb hk hv, h.fit, h.fuse, h.opn, h.len, h.out, h.at_, h.mn16, hl⟩
theorem Tel.lay (h : Tel w wr F D R tv s r qv q fr mn i) : fr + mn ≤ 24 := by
  have := h.fit.lay
  rw [h.len, h.at_.1, h.at_.2] at this
  exact this
theorem Tel.add (h : Tel w wr F D R tv s r qv q fr mn i) (st : Nat) (S : ByteArray) (hS : S.size ≤ 3000) (hst : st < 18446744073709551616) (hw : Went w wr w' [(D, s)] F 0 D (addR s r st S).s R tv tv' (addR s r st S).r) :
    Tel w w' (tv'.ownBlock.toList ++ F) D R tv' (addR s r st S).s (addR s r st S).r qv q fr mn (i + 1) := by
  obtain ⟨-, -, f1, f2, f3, f4, f5, f6⟩ := h.fit.add h.fuse st S hS hst
  refine ⟨h.held.went hw, f1, f2, ?_, f5.trans h.len, fun k hk hkk => (f6 k ?_).trans (h.out k hk hkk), ⟨f3.trans h.at_.1, f4.trans h.at_.2⟩, h.mn16, h.qlen⟩
  · have h1 := addR_opn s r st S
    have h2 := h.opn
    have h3 := h.mn16
    rw [h.at_.2] at h1
    omega
  · rw [h.at_.1, h.at_.2]; exact hkk
theorem Tel.begin (h : Tel w wr F D R tv s r qv q fr mn i) (st : Nat) (S : ByteArray) (hS : S.size ≤ 3000) (hst : st < 18446744073709551616) (hw : Went w wr w' [(D, s)] F 0 D (beginR s r st S).s R tv tv' (beginR s r st S).r) :
    Tel w w' (tv'.ownBlock.toList ++ F) D R tv' (beginR s r st S).s (beginR s r st S).r qv q fr mn (i + 1) := by
  obtain ⟨-, -, f1, f2, f3, f4, f5, f6⟩ := h.fit.begin h.fuse st S hS hst
  refine ⟨h.held.went hw, f1, f2, ?_, f5.trans h.len, fun k hk hkk => (f6 k ?_).trans (h.out k hk hkk), ⟨f3.trans h.at_.1, f4.trans h.at_.2⟩, h.mn16, h.qlen⟩
  · have h1 := beginR_opn s r st S
    have h2 := h.opn
    have h3 := h.mn16
    rw [h.at_.2] at h1
    omega
  · rw [h.at_.1, h.at_.2]; exact hkk
theorem syncR_free {s : DS} (h : s.fuse = none) : syncR s = ({ s with sure := s.now, opn := [] }, 0) := by
  unfold syncR
  rw [if_neg (by rw [h]; simp)]
  unfold syncS decF
  rw [h]
theorem Tel.sync (h : Tel w wr F D R tv s r qv q fr mn i) (hd : Dr w w' ([(D, s)].set 0 (D, (syncR s).1)) F) (hs : Same F wr w') :
    Tel w w' F D R tv (syncR s).1 r qv q fr mn (i + 1) := by
  have hh := h.held.ran hd hs
  rw [syncR_free h.fuse] at hh ⊢
  exact ⟨hh, ⟨h.fit.lay, h.fit.texts, h.fit.first, h.fit.en, h.fit.top, h.fit.down⟩, h.fuse, Nat.zero_le _, h.len, h.out, h.at_, h.mn16, h.qlen⟩
theorem Tel.open (h : Tel w wr F D R tv s r qv q fr mn i) (ho : Only [] wr w') (hr : RowAt wr.heap.size w' R' D tv' (openRS s fr mn)) :
    Tel w w' (rwFp R' tv' ++ F) D R' tv' s (openRS s fr mn) qv q fr mn (i + 1) :=
  ⟨h.held.reopen ho hr, Fit.opened s fr mn (by rw [h.len]; exact h.lay), h.fuse, by have := h.opn; omega, h.len, h.out, ⟨rfl, rfl⟩, h.mn16, h.qlen⟩
theorem sec_sync {s : DS} (h : s.fuse = none) (fr mn : Nat) : rowSec (syncR s).1 fr mn = rowSec s fr mn := by rw [syncR_free h]; rfl
theorem rput_len {l : List ByteArray} {a n : Nat} {S : ByteArray} (ha : a ≤ l.length) : (rput l a n S).1.length = l.length := by
  unfold rput
  split
  · rfl
  split
  · rfl
  · show (Pure.splice l a (sheafL n S.data.toList)).length = l.length
    rw [Pure.splice_len (by rw [sheafL_len]; omega)]
end
end Go.Proofs.Ythbbdilcclepoaa
