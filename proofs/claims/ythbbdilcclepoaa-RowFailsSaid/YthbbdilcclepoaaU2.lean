/- Chapter 05, plain: a row on a drive that may fail: what holds between its syncs, and behind a failure. -/
import Derived.Test.YthbbdilcclepoaaU1
set_option linter.unusedVariables false
set_option linter.unusedSimpArgs false
namespace Go.Proofs.Ythbbdilcclepoaa.Pure
open Go Go.RowKit Go.Proofs.Ythbbdilcclepoaa.Q Go.Proofs.Ythbbdilcclepoaa Go.Proofs.YthbbdilcclepoaaW.PrintWords Go.Proofs.YthbbdilcclepoaaW.PrintLast Go.Proofs.YthbbdilcclepoaaW.PrintMore
/-- A row's sectors as they are sure. -/
def secS (s : DS) (n : Nat) : List ByteArray := (s.sure.take n).map B
def T0 (s : DS) (n : Nat) : TS := rowT (secS s n)
theorem secS_len {s : DS} {n : Nat} (hs : s.sure.length = 16) (hn : n ≤ 16) : (secS s n).length = n := by unfold secS; rw [List.length_map, List.length_take]; omega
/-- Sheaves have been added since the last sync, some of the last leaves perhaps not. -/
structure Loose (n : Nat) (s : DS) (adds : List (Nat × List UInt8)) : Prop where
  n1 : 1 ≤ n ∧ n ≤ 16
  slen : s.sure.length = 16
  sound : ∀ i, i < 16 → Sound (sat s.sure i)
  opn : ∃ M, s.opn = posL (T0 s n).en ((lvs adds).take M)
  room : (T0 s n).en + (lvs adds).length ≤ n
  up : Up (topL (secS s n) 0) adds
  sz : ∀ a ∈ adds, a.2.length ≤ 98304 ∧ a.1 < 18446744073709551616
/-- A row was begun anew behind that, some of its last leaves perhaps not. -/
structure Loose2 (n : Nat) (s : DS) (b : Nat) (S : List UInt8) : Prop where
  n1 : 1 ≤ n ∧ n ≤ 16
  slen : s.sure.length = 16
  sound : ∀ i, i < 16 → Sound (sat s.sure i)
  opn : ∃ adds M, s.opn = posL (T0 s n).en (lvs adds) ++ posL 0 ((lvs [(b, S)]).take M) ∧ (T0 s n).en + (lvs adds).length ≤ n ∧ Up (topL (secS s n) 0) adds ∧ (∀ a ∈ adds, a.1 < b)
  room : nP (txt S) ≤ n
  up : topL (secS s n) 0 < b
  sz : S.length ≤ 98304 ∧ b < 18446744073709551616
structure Hope (n : Nat) (s : DS) (r : RS) (adds : List (Nat × List UInt8)) : Prop where
  n1 : 1 ≤ n ∧ n ≤ 16
  fit : Fit s r
  at_ : r.fr = 0 ∧ r.mn = n
  slen : s.sure.length = 16
  nlen : s.now.length = 16
  sound : ∀ i, i < 16 → Sound (sat s.sure i)
  nsound : ∀ i, i < 16 → Sound (sat s.now i)
  opn : s.opn = posL (T0 s n).en (lvs adds)
  room : (T0 s n).en + (lvs adds).length ≤ n
  en : r.en = (T0 s n).en + (lvs adds).length
  up : Up (topL (secS s n) 0) adds
  top : topL (secS s n) 0 ≤ r.top ∧ ∀ a ∈ adds, a.1 ≤ r.top
  sz : ∀ a ∈ adds, a.2.length ≤ 98304 ∧ a.1 < 18446744073709551616
theorem Hope.loose {n : Nat} {s : DS} {r : RS} {adds : List (Nat × List UInt8)} (h : Hope n s r adds) : Loose n s adds :=
  ⟨h.n1, h.slen, h.sound, ⟨(lvs adds).length, by rw [List.take_length]; exact h.opn⟩, h.room, h.up, h.sz⟩
theorem Hope.opn_len {n : Nat} {s : DS} {r : RS} {adds : List (Nat × List UInt8)} (h : Hope n s r adds) : s.opn.length ≤ 16 := by
  rw [h.opn, posL_length]
  have := h.room
  have := h.n1
  omega
theorem Hope.fuse {n : Nat} {s : DS} {r : RS} {adds : List (Nat × List UInt8)} (h : Hope n s r adds) (k : Int) : Hope n (fuseS s k) r adds :=
  ⟨h.n1, ⟨h.fit.lay, h.fit.texts, h.fit.first, h.fit.en, h.fit.top, h.fit.down⟩, h.at_, h.slen, h.nlen, h.sound, h.nsound, h.opn, h.room, h.en, h.up, h.top, h.sz⟩
theorem head_secS {s : DS} {n : Nat} (hs : s.sure.length = 16) (hn : n ≤ 16) (hq : ∀ i, i < 16 → Sound (sat s.sure i)) {i : Nat} (hi : i < n) : headNum (sat s.sure i) ≤ topL (secS s n) 0 := by
  have h1 : B (sat s.sure i) ∈ secS s n := List.mem_of_getElem? (sec_get s.sure n i (by omega) hi)
  have h2 := topL_mem (secS s n) 0 _ h1
  have h3 : hd (B (sat s.sure i)) = headNum (sat s.sure i) := by
    unfold hd
    rw [if_pos (by rw [B_size]; exact (hq i (by omega)).len), B_data]
  rw [h3] at h2
  exact h2
theorem rowSec_zero {s : DS} {n : Nat} (hl : s.now.length = 16) (hn : n ≤ 16) : rowSec s 0 n = (s.now.take n).map B := by
  rw [rowSec_eq s 0 n (by omega), List.drop_zero]
/-- A drive behind a failure, where all is sound: a row is opened. -/
theorem Hope.fresh {n : Nat} {s : DS} (hn : 1 ≤ n ∧ n ≤ 16) (hs : s.sure.length = 16) (he : s.now = s.sure) (ho : s.opn = []) (hq : ∀ i, i < 16 → Sound (sat s.sure i)) : Hope n s (openRS s 0 n) [] := by
  have hl : s.now.length = 16 := by rw [he]; exact hs
  have hr : rowSec s 0 n = secS s n := by rw [rowSec_zero hl hn.2, he]; rfl
  have hf := Fit.opened s 0 n (by omega)
  have ht := (rowT_ok (secS s n)).en
  rw [secS_len hs hn.2] at ht
  refine ⟨hn, hf, ⟨rfl, rfl⟩, hs, hl, hq, by rw [he]; exact hq, ho, ?_, ?_, trivial, ⟨?_, fun a h => by cases h⟩, fun a h => by cases h⟩
  · show (T0 s n).en + 0 ≤ n
    exact ht
  · show (rowT (rowSec s 0 n)).en = (T0 s n).en + 0
    rw [hr]; rfl
  · show _ ≤ topL (rowSec s 0 n) 0
    rw [hr]; exact Nat.le_refl _
theorem wrs_of {sure : List (List UInt8)} {opn : List (Nat × List UInt8)} (hs : sure.length = 16) (hq : ∀ i, i < 16 → Sound (sat sure i))
    (h : ∀ (k : Nat) (x : Nat × List UInt8), opn[k]? = some x → x.1 < 16 ∧ ∃ st p, x.2 = leafOf st p ∧ p.length ≤ 48 ∧ st < 18446744073709551616 ∧ headNum (sat sure x.1) < st ∧ ∀ (k' : Nat) (y : Nat × List UInt8), k' < k → opn[k']? = some y → y.1 = x.1 → headNum y.2 < st) : Wrs sure opn :=
  ⟨fun i hi => hq i (by omega), fun k x hx => by rw [hs]; exact h k x hx⟩
theorem crashS_eq (s : DS) (keep torn at_ : Int) : (crashS s keep torn at_).now = sureAt keep torn at_ s.sure s.opn s.opn.length ∧ (crashS s keep torn at_).sure = sureAt keep torn at_ s.sure s.opn s.opn.length ∧ (crashS s keep torn at_).opn = [] ∧ (crashS s keep torn at_).fuse = none := ⟨rfl, rfl, rfl, rfl⟩
theorem crash_hope {n : Nat} {s : DS} (hn : 1 ≤ n ∧ n ≤ 16) (hs : s.sure.length = 16) (H : Wrs s.sure s.opn) (keep torn at_ : Int) : Hope n (crashS s keep torn at_) (openRS (crashS s keep torn at_) 0 n) [] := by
  refine Hope.fresh hn ?_ rfl rfl fun i hi => ?_
  · show (sureAt keep torn at_ s.sure s.opn s.opn.length).length = 16
    rw [sureAt_len]; exact hs
  · exact (crash_src H keep torn at_ i (by omega)).1
theorem Loose.opn_len {n : Nat} {s : DS} {adds : List (Nat × List UInt8)} (h : Loose n s adds) : s.opn.length ≤ 16 := by
  obtain ⟨M, ho⟩ := h.opn
  rw [ho, posL_length, List.length_take]
  have := h.room
  have := h.n1
  omega
theorem Loose2.opn_len {n : Nat} {s : DS} {b : Nat} {S : List UInt8} (h : Loose2 n s b S) : s.opn.length ≤ 32 := by
  obtain ⟨adds, M, ho, hr, -⟩ := h.opn
  rw [ho, List.length_append, posL_length, posL_length, List.length_take, lvs_one_len]
  have := h.room
  have := h.n1
  omega
theorem Loose.wrs {n : Nat} {s : DS} {adds : List (Nat × List UInt8)} (h : Loose n s adds) : Wrs s.sure s.opn := by
  obtain ⟨M, ho⟩ := h.opn
  have hn := h.n1
  have hroom := h.room
  refine wrs_of h.slen h.sound fun k x hx => ?_
  rw [ho, posL_get] at hx
  obtain ⟨y, hy, rfl⟩ := Option.map_eq_some_iff.1 hx
  rw [List.getElem?_take] at hy
  split at hy
  · have hk : k < (lvs adds).length := (List.getElem?_eq_some_iff.1 hy).1
    have hym := List.mem_of_getElem? hy
    obtain ⟨a, ha, hae, -⟩ := lvs_mem hym
    have hup := h.up.mem a ha
    refine ⟨by show (T0 s n).en + k < 16; omega, y.1, y.2, rfl, lvs_48 hym, by rw [hae]; exact (h.sz a ha).2, ?_, fun k' z hk' hz he => ?_⟩
    · have := head_secS h.slen hn.2 h.sound (i := (T0 s n).en + k) (by omega)
      show headNum (sat s.sure ((T0 s n).en + k)) < y.1
      omega
    · rw [ho, posL_get] at hz
      obtain ⟨u, -, rfl⟩ := Option.map_eq_some_iff.1 hz
      have he' : (T0 s n).en + k' = (T0 s n).en + k := he
      omega
  · cases hy
/-- Behind a failure the row has the sure sheaves and the first of the added ones. -/
theorem Loose.crash {n : Nat} {s : DS} {adds : List (Nat × List UInt8)} (h : Loose n s adds) (keep torn at_ : Int) :
    Hope n (crashS s keep torn at_) (openRS (crashS s keep torn at_) 0 n) [] ∧ ∃ k, k ≤ adds.length ∧ (openRS (crashS s keep torn at_) 0 n).texts = (T0 s n).texts ++ (adds.take k).map (fun a => B a.2) := by
  have H := h.wrs
  have hh := crash_hope h.n1 h.slen H keep torn at_
  refine ⟨hh, ?_⟩
  have hn := h.n1
  obtain ⟨l, hl⟩ : ∃ l, l = sureAt keep torn at_ s.sure s.opn s.opn.length := ⟨_, rfl⟩
  have hll : l.length = 16 := by rw [hl, sureAt_len]; exact h.slen
  have hrs : (openRS (crashS s keep torn at_) 0 n).texts = (rowT ((l.take n).map B)).texts := by
    show (rowT (rowSec (crashS s keep torn at_) 0 n)).texts = _
    rw [rowSec_zero hh.nlen hn.2, hl]; rfl
  rw [hrs]
  obtain ⟨M, ho⟩ := h.opn
  have hroom := h.room
  have hcr : ∀ i, i < 16 → Src s.sure s.opn s.opn.length i (sat l i) ∧ ((∀ x ∈ s.opn, x.1 ≠ i) → sat l i = sat s.sure i) := fun i hi => by
    have := crash_src H keep torn at_ i (by rw [h.slen]; exact hi)
    rw [← hl] at this
    exact this.2
  have hlow : ∀ i, i < (T0 s n).en → sat l i = sat s.sure i := fun i hi => by
    refine (hcr i (by omega)).2 fun x hx => ?_
    obtain ⟨k, hk⟩ := List.getElem?_of_mem hx
    rw [ho, posL_get] at hk
    obtain ⟨u, -, rfl⟩ := Option.map_eq_some_iff.1 hk
    show (T0 s n).en + k ≠ i
    omega
  have htake : ((l.take n).map B).take (T0 s n).en = (secS s n).take (T0 s n).en := by
    refine List.ext_getElem? fun j => ?_
    rw [List.getElem?_take, List.getElem?_take]
    by_cases hj : j < (T0 s n).en
    · rw [if_pos hj, if_pos hj, sec_get l n j (by omega) (by omega)]
      unfold secS
      rw [sec_get s.sure n j (by rw [h.slen]; exact hn.2) (by omega), hlow j hj]
    · rw [if_neg hj, if_neg hj]
  have hsame := (openL_same (l := secS s n) (l' := (l.take n).map B) _ st0 (Nat.le_refl _) (Nat.zero_le _)).2 htake
  have hlast : (T0 s n).last ≤ topL (secS s n) 0 := rowT_last (secS s n)
  obtain ⟨k, hk, hT⟩ := openL_crash (sure := s.sure) (l := l) (n := n) (top := topL (secS s n) 0) (by rw [h.slen]; exact hn.2) (by rw [hll, h.slen])
    (fun i hi m h0 hv => by rw [← hv.2.1]; exact head_secS h.slen hn.2 h.sound hi) adds (T0 s n) (by rw [Nat.max_eq_left hlast]; exact h.up) (by omega)
    (fun m S hg => openL_fix (l := secS s n) _ st0 (Nat.le_refl _) m S hg) h.sz (fun i hi1 hi2 m h0 hv => by
      rcases (hcr i (by omega)).1 m h0 hv with q | ⟨k', x, hk', hx, hxi, hxv, hxm⟩
      · exact .inl q
      · rw [ho, posL_get] at hx
        obtain ⟨u, hu, rfl⟩ := Option.map_eq_some_iff.1 hx
        rw [List.getElem?_take] at hu
        split at hu
        · have hum := List.mem_of_getElem? hu
          obtain ⟨a, ha, hae, -⟩ := lvs_mem hum
          have hvl := valid_leaf u.1 u.2 (by rw [hae]; exact (h.sz a ha).2) (lvs_48 hum)
          have hxi' : (T0 s n).en + k' = i := hxi
          refine .inr ⟨u, ?_, ?_, hxm.trans hvl.2⟩
          · rw [show i - (T0 s n).en = k' by omega]; exact hu
          · exact hvl.1.2.1.symm.trans hxv.2.1
        · cases hu)
  exact ⟨k, hk, by unfold rowT; rw [hsame]; exact hT⟩
theorem Loose2.crash {n : Nat} {s : DS} {b : Nat} {S : List UInt8} (h : Loose2 n s b S) (keep torn at_ : Int) :
    Hope n (crashS s keep torn at_) (openRS (crashS s keep torn at_) 0 n) [] ∧ (openRS (crashS s keep torn at_) 0 n).first ≤ b ∧ ((openRS (crashS s keep torn at_) 0 n).first = b → (openRS (crashS s keep torn at_) 0 n).texts = [B S]) := by
  obtain ⟨adds, M, ho, hroom, hup, hlt⟩ := h.opn
  have hn := h.n1
  have hlen1 : (posL (T0 s n).en (lvs adds)).length = (lvs adds).length := posL_length _ _
  -- a write: of the sheaves added, or of the one begun
  have hcase : ∀ (k : Nat) (x : Nat × List UInt8), s.opn[k]? = some x → (k < (lvs adds).length ∧ ∃ u ∈ lvs adds, x = ((T0 s n).en + k, leafOf u.1 u.2)) ∨ ((lvs adds).length ≤ k ∧ k - (lvs adds).length < nP (txt S) ∧ x = (k - (lvs adds).length, leafOf b (pc (txt S) (k - (lvs adds).length)))) := fun k x hx => by
    rw [ho] at hx
    by_cases hk : k < (lvs adds).length
    · rw [List.getElem?_append_left (by rw [hlen1]; exact hk), posL_get] at hx
      obtain ⟨u, hu, rfl⟩ := Option.map_eq_some_iff.1 hx
      exact .inl ⟨hk, u, List.mem_of_getElem? hu, rfl⟩
    · rw [List.getElem?_append_right (by rw [hlen1]; omega), hlen1, posL_get] at hx
      obtain ⟨u, hu, rfl⟩ := Option.map_eq_some_iff.1 hx
      rw [List.getElem?_take] at hu
      split at hu
      · have hl : k - (lvs adds).length < (lvs [(b, S)]).length := (List.getElem?_eq_some_iff.1 hu).1
        rw [lvs_one_len] at hl
        rw [lvs_lo (b, S) [] _ hl] at hu
        rw [← Option.some.inj hu]
        exact .inr ⟨by omega, hl, by rw [Nat.zero_add]⟩
      · cases hu
  have hst : ∀ u ∈ lvs adds, u.1 < b ∧ topL (secS s n) 0 < u.1 := fun u hu => by
    obtain ⟨a, ha, hae, -⟩ := lvs_mem hu
    rw [hae]
    exact ⟨hlt a ha, hup.mem a ha⟩
  have hb := h.up
  have hr := h.room
  have hsz := h.sz
  have H : Wrs s.sure s.opn := wrs_of h.slen h.sound fun k x hx => by
    rcases hcase k x hx with ⟨hk, u, hu, rfl⟩ | ⟨hk, hk2, rfl⟩
    · have hu2 := hst u hu
      refine ⟨by show (T0 s n).en + k < 16; omega, u.1, u.2, rfl, lvs_48 hu, by omega, ?_, fun k' z hk' hz he => ?_⟩
      · have := head_secS h.slen hn.2 h.sound (i := (T0 s n).en + k) (by omega)
        show headNum (sat s.sure ((T0 s n).en + k)) < u.1
        omega
      · rcases hcase k' z hz with ⟨-, v, -, rfl⟩ | ⟨hq, -, rfl⟩
        · have he' : (T0 s n).en + k' = (T0 s n).en + k := he
          omega
        · omega
    · refine ⟨by show k - (lvs adds).length < 16; omega, b, _, rfl, pc_length _ _, hsz.2, ?_, fun k' z hk' hz he => ?_⟩
      · have := head_secS h.slen hn.2 h.sound (i := k - (lvs adds).length) (by omega)
        show headNum (sat s.sure (k - (lvs adds).length)) < b
        omega
      · rcases hcase k' z hz with ⟨-, v, hv, rfl⟩ | ⟨hq, -, rfl⟩
        · show headNum (leafOf v.1 v.2) < b
          have := hst v hv
          rw [leafOf_head v.1 v.2 (lvs_48 hv) (by omega)]
          exact this.1
        · have he' : k' - (lvs adds).length = k - (lvs adds).length := he
          omega
  have hh := crash_hope h.n1 h.slen H keep torn at_
  refine ⟨hh, ?_⟩
  obtain ⟨l, hl⟩ : ∃ l, l = sureAt keep torn at_ s.sure s.opn s.opn.length := ⟨_, rfl⟩
  have hll : l.length = 16 := by rw [hl, sureAt_len]; exact h.slen
  have hrow : rowSec (crashS s keep torn at_) 0 n = (l.take n).map B := by
    rw [rowSec_zero hh.nlen hn.2, hl]; rfl
  show (rowT (rowSec (crashS s keep torn at_) 0 n)).first ≤ b ∧ ((rowT (rowSec (crashS s keep torn at_) 0 n)).first = b → (rowT (rowSec (crashS s keep torn at_) 0 n)).texts = [B S])
  rw [hrow]
  refine openL_begin (by omega) (by omega) hsz.1 fun i hi m h0 hv => ?_
  have hsrc := (crash_src H keep torn at_ i (by rw [h.slen]; omega)).2.1
  rw [← hl] at hsrc
  rcases hsrc m h0 hv with ⟨q, -⟩ | ⟨k, x, -, hx, hxi, hxv, hxm⟩
  · have := head_secS h.slen hn.2 h.sound hi
    rw [q.2.1] at this
    exact .inl (by omega)
  · rcases hcase k x hx with ⟨hk, u, hu, rfl⟩ | ⟨hk, hk2, rfl⟩
    · have h2 := hst u hu
      have h3 := (valid_leaf u.1 u.2 (by omega) (lvs_48 hu)).1.2.1
      have h4 : headNum (leafOf u.1 u.2) = m := hxv.2.1
      exact .inl (by omega)
    · have hvl := valid_leaf b (pc (txt S) (k - (lvs adds).length)) hsz.2 (pc_length _ _)
      have hi' : k - (lvs adds).length = i := hxi
      have h4 : headNum (leafOf b (pc (txt S) (k - (lvs adds).length))) = m := hxv.2.1
      refine .inr ⟨by rw [← h4, hvl.1.2.1], ?_⟩
      rw [hxm, ← hi']
      exact hvl.2
end Go.Proofs.Ythbbdilcclepoaa.Pure
