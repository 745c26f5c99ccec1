/- Chapter 03: wrote; what DriveSure is about, plain. -/
import Derived.Test.YtlafanbilodafaaDB
set_option linter.unusedVariables false
set_option linter.unusedSimpArgs false
namespace Go.Proofs.Ytlafanbilodafaa
open Go Go.RowKit Go.Proofs.Ytlafanbilodafaa.Q Go.Proofs.YtlafanbilodafaaW.PrintWords Go.Proofs.YtlafanbilodafaaW.PrintLast Go.Proofs.YtlafanbilodafaaW.PrintMore
attribute [local go_sem] Oper.semAt_some max2_int min2_int max_two min_two max_three min_three max_four min_four
/-- A text's byte at a place, 0 behind it. -/
def byteOf (t : ByteArray) (a : Int) : Int := if a < (t.size : Int) then bt t a else 0
def wroteP (n a b : Int) (x : S38) : Bool := x.f1 == n && byteOf x.f2 a == b
def wroteB (l : List S38) (n a b : Int) : Bool := l.any (wroteP n a b)
theorem any_take {α : Type} (p : α → Bool) (l : List α) (i : Nat) (hi : i < l.length) : (l.take (i + 1)).any p = ((l.take i).any p || p l[i]) := by
  rw [List.take_succ_eq_append_getElem hi, List.any_append]; simp
set_option maxRecDepth 100000 in
theorem wrote_calls (w : World) (A : Option Addr) (c : Nat) (l : List S38) (hr : Kd.C k38 w A l.length l) (hc : l.length ≤ c) (hl : l.length ≤ maxLen) (n a b : Int) (ha : 0 ≤ a) (hb : 0 ≤ b ∧ b < 256) :
    Calls Try.prog 15 #[.slice A l.length c, .int .i64 n, .int .i64 a, .int .u8 b] w fun e w' => e = .returned (.bool (wroteB l n a b)) ∧ w = w' := by
  have HR := hid hr
  unfold maxLen at hl
  have HHB := hid hb
  clear hr hb
  go_enter Try.func15, Try.ntmps15
  go_wp2
  go_loop [9] (fun q => ∃ i : Int, q = .int .i64 i ∧ Aside0 (0 ≤ i ∧ i ≤ (l.length : Int)) ∧ Aside0 ((l.take i.toNat).any (wroteP n a b) = false)) (fun q => l.length - (intOf q).toNat)
  case atStart => exact ⟨0, rfl, ⟨⟨by decide, by omega⟩⟩, ⟨by simp⟩⟩
  case round =>
    obtain ⟨i, rfl, HI, HT⟩ := hrel
    have p0 : 0 ≤ i := HI.out.1
    by_cases c1 : i < (l.length : Int)
    · obtain ⟨ad, rfl, x0, x1, x2, x3, x4, x5⟩ := at_T38 HR.out i p0 c1
      have hget : rd_T38 l i = l[i.toNat]'(by omega) := by
        unfold rd_T38; rw [List.getD_eq_getElem?_getD, List.getElem?_eq_getElem (by omega)]; rfl
      have hat := any_take (wroteP n a b) l i.toNat (by omega)
      rw [HT.out, Bool.false_or, ← hget] at hat
      have HAT := hid hat
      have hwB : wroteP n a b (rd_T38 l i) = true → wroteB l n a b = true := fun h => by
        unfold wroteB
        rw [List.any_eq_true]
        exact ⟨_, List.getElem_mem (show i.toNat < l.length by omega), by rw [← hget]; exact h⟩
      have HWB := hid hwB
      obtain ⟨X, hX⟩ : ∃ X, X = rd_T38 l i := ⟨_, rfl⟩
      rw [← hX] at x0 x1 x2 x3 x4 x5 HAT HWB
      have d1 : decide (i < (l.length : Int)) = true := decide_eq_true c1
      have q0 := eq_true p0
      have q1 := eq_true c1
      have C1 := hid c1
      have hlk : i ≤ 9223372036854775806 := by omega
      clear hat hget hX c1 hwB
      have next : wroteP n a b X = false → Hid (List.any (List.take (i.toNat + 1) l) (wroteP n a b) = false) := fun h => HAT.out.trans h
      have NX := hid next
      clear next
      by_cases cn : X.f1 = n
      · have e1 : (X.f1 != n) = false := by simpa using cn
        by_cases ca : a < (X.f2.size : Int)
        · have e2 : decide (a < (X.f2.size : Int)) = true := decide_eq_true ca
          have qa := eq_true ha
          have qb := eq_true ca
          have hbo : byteOf X.f2 a = bt X.f2 a := by unfold byteOf; rw [if_pos ca]
          have hs := bt_at X.f2 a
          by_cases cb : bt X.f2 a = b
          · have e3 : (bt X.f2 a == b) = true := by simpa using cb
            have hw := HWB.out (by unfold wroteP; rw [hbo]; simp [cn, cb])
            have HHW := hid hw
            clear ca cn cb hbo hw
            go_wp2
            go_ret
            exact ⟨by rw [HHW.out]; rfl, rfl⟩
          · have e3 : (bt X.f2 a == b) = false := by simpa using cb
            have hw := NX.out (by unfold wroteP; rw [hbo]; simp [cb])
            clear ca cn cb hbo
            go_wp2
            go_round
            case rel => exact ⟨i + 1, by go_num, ⟨⟨by omega, by have := C1.out; omega⟩⟩, ⟨by rw [show (i + 1).toNat = i.toNat + 1 by omega]; exact hw.out⟩⟩
            case measure => simp [intOf]; have := C1.out; omega
        · have e2 : decide (a < (X.f2.size : Int)) = false := decide_eq_false ca
          have hbo : byteOf X.f2 a = 0 := by unfold byteOf; rw [if_neg ca]
          by_cases cb : 0 = b
          · have e3 : ((0 : Int) == b) = true := by simpa using cb
            have hw := HWB.out (by unfold wroteP; rw [hbo]; simp [cn, cb])
            have HHW := hid hw
            clear ca cn cb hbo hw
            go_wp2
            go_ret
            exact ⟨by rw [HHW.out]; rfl, rfl⟩
          · have e3 : ((0 : Int) == b) = false := by simpa using cb
            have hw := NX.out (by unfold wroteP; rw [hbo]; simp [cb])
            clear ca cn cb hbo
            go_wp2
            go_round
            case rel => exact ⟨i + 1, by go_num, ⟨⟨by omega, by have := C1.out; omega⟩⟩, ⟨by rw [show (i + 1).toNat = i.toNat + 1 by omega]; exact hw.out⟩⟩
            case measure => simp [intOf]; have := C1.out; omega
      · have e1 : (X.f1 != n) = true := by simpa using cn
        have hw := NX.out (by unfold wroteP; simp [cn])
        clear cn
        go_wp2
        go_round
        case rel => exact ⟨i + 1, by go_num, ⟨⟨by omega, by have := C1.out; omega⟩⟩, ⟨by rw [show (i + 1).toNat = i.toNat + 1 by omega]; exact hw.out⟩⟩
        case measure => simp [intOf]; have := C1.out; omega
    · have d1 : decide (i < (l.length : Int)) = false := decide_eq_false c1
      have hw : wroteB l n a b = false := by
        have := HT.out
        rw [show i.toNat = l.length by have := HI.out; omega, List.take_length] at this
        exact this
      have HHW := hid hw
      clear c1 hw
      go_wp2
      go_ret
      exact ⟨by rw [HHW.out]; rfl, rfl⟩
/-! What DriveSure is about, plain -/
def wrO (x : S38) : Nat × List UInt8 := (x.f1.toNat, padS x.f2)
/-- Some writes, none of them sure, behind which a fuse is none. -/
structure Free (s : DS) (i : Nat) : Prop where
  fuse : s.fuse = none
  opn : s.opn.length ≤ i
  now : s.now.length = 8
theorem writeR_free (s : DS) (hf : s.fuse = none) (n : Int) (t : ByteArray) :
    ((0 ≤ n ∧ n < (s.now.length : Int)) ∧ t.size ≤ 64 ∧ writeR s n t = ({ s with now := s.now.set n.toNat (padS t), opn := s.opn ++ [(n.toNat, padS t)] }, 0)) ∨ (writeR s n t).1 = s ∧ (writeR s n t).2 ≠ 0 := by
  unfold writeR hasE
  by_cases h : 0 ≤ n ∧ n < (s.now.length : Int)
  · rw [if_pos h, if_pos rfl]
    by_cases ht : t.size ≤ 64
    · left
      refine ⟨h, ht, ?_⟩
      rw [if_pos ht]
      unfold wrR
      rw [if_neg (by rw [hf]; simp)]
      cases s
      simp only at hf
      subst hf
      rfl
    · right
      rw [if_neg ht]
      exact ⟨rfl, (by decide : (3 : Int) ≠ 0)⟩
  · right
    rw [if_neg h, if_neg (by decide)]
    exact ⟨rfl, (by decide : (2 : Int) ≠ 0)⟩
theorem Free.write {s : DS} {i : Nat} (h : Free s i) (n : Int) (t : ByteArray) : Free (writeR s n t).1 (i + 1) := by
  rcases writeR_free s h.fuse n t with ⟨-, -, e⟩ | ⟨e, -⟩
  · rw [e]
    exact ⟨h.fuse, by have := h.opn; simp; omega, by simp; exact h.now⟩
  · rw [e]; exact ⟨h.fuse, Nat.le_trans h.opn (by omega), h.now⟩
structure Calm (s : DS) : Prop where
  fuse : s.fuse = none
  opn : s.opn = []
  now : s.now.length = 8
  sure : s.sure = s.now
theorem Free.sync {s : DS} {i : Nat} (h : Free s i) : (syncR s).2 = 0 ∧ Calm (syncR s).1 := by
  unfold syncR
  rw [if_neg (by rw [h.fuse]; simp), h.fuse]
  exact ⟨rfl, rfl, rfl, h.now, rfl⟩
theorem Calm.crash {s : DS} (h : Calm s) (keep torn at_ : Int) : crashS s keep torn at_ = s := by
  unfold crashS
  rw [h.opn]
  show (⟨s.sure, s.sure, [], none⟩ : DS) = s
  obtain ⟨h1, h2, h3, h4⟩ := h
  cases s
  simp only at h1 h2 h4
  rw [h4, h2, h1]
def setAll (l : List (List UInt8)) (o : List (Nat × List UInt8)) : List (List UInt8) := o.foldl (fun a x => a.set x.1 x.2) l
theorem setAll_len (o : List (Nat × List UInt8)) : ∀ l, (setAll l o).length = l.length := by
  induction o with
  | nil => intro l; rfl
  | cons x o ih => intro l; show (setAll (l.set x.1 x.2) o).length = _; rw [ih, List.length_set]
structure TornIs (s2 s : DS) (ops : List S38) (i : Nat) : Prop where
  fuse : s.fuse = none
  sure : s.sure = s2.sure
  opn : s.opn = ops.map wrO
  len : ops.length ≤ i
  ok : ∀ x ∈ ops, 0 ≤ x.f1 ∧ x.f1 < 8 ∧ x.f2.size ≤ 64
  now : s.now = setAll s2.now (ops.map wrO)
  n8 : s.now.length = 8
theorem Calm.torn {s : DS} (h : Calm s) : TornIs s s [] 0 := ⟨h.fuse, rfl, h.opn, Nat.le_refl _, (fun _ h => by cases h), rfl, h.now⟩
theorem TornIs.write {s2 s : DS} {ops : List S38} {i : Nat} (h : TornIs s2 s ops i) (x : S38) :
    ((writeR s x.f1 x.f2).2 = 0 ∧ TornIs s2 (writeR s x.f1 x.f2).1 (ops ++ [x]) (i + 1)) ∨ ((writeR s x.f1 x.f2).2 ≠ 0 ∧ TornIs s2 (writeR s x.f1 x.f2).1 ops (i + 1)) := by
  rcases writeR_free s h.fuse x.f1 x.f2 with ⟨h1, h2, e⟩ | ⟨e, e2⟩
  · left
    rw [e]
    refine ⟨rfl, h.fuse, h.sure, ?_, by have := h.len; simp; omega, fun y hy => ?_, ?_, by simp; exact h.n8⟩
    · show s.opn ++ [_] = _
      rw [h.opn, List.map_append]; rfl
    · rcases List.mem_append.1 hy with hy | hy
      · exact h.ok y hy
      · rw [List.mem_singleton.1 hy]; exact ⟨h1.1, by have := h1.2; rw [h.n8] at this; exact this, h2⟩
    · show s.now.set _ _ = _
      rw [h.now, List.map_append]
      unfold setAll
      rw [List.foldl_append]; rfl
  · right
    refine ⟨e2, ?_⟩
    rw [e]
    exact ⟨h.fuse, h.sure, h.opn, Nat.le_trans h.len (by omega), h.ok, h.now, h.n8⟩
theorem padS_byte (t : ByteArray) (ht : t.size ≤ 64) (k : Nat) (hk : k < 64) : (((padS t).getD k 0).toNat : Int) = byteOf t (k : Int) := by
  obtain ⟨l, rfl, -⟩ := B_ex t
  rw [B_size] at ht
  unfold byteOf padS
  rw [B_data, B_size, bt_B, Int.toNat_natCast, List.take_of_length_le (by omega)]
  by_cases h : k < l.length
  · rw [if_pos (by omega), List.getD_eq_getElem?_getD, List.getElem?_append_left h, ← List.getD_eq_getElem?_getD]
  · rw [if_neg (by omega), List.getD_eq_getElem?_getD, List.getElem?_append_right (by omega), List.getElem?_replicate, if_pos (by omega)]
    rfl
theorem getD_set_ne {α : Type} (l : List α) (i j : Nat) (x d : α) (h : i ≠ j) : (l.set i x).getD j d = l.getD j d := by
  rw [List.getD_eq_getElem?_getD, List.getElem?_set_ne h, ← List.getD_eq_getElem?_getD]
theorem getD_set_self {α : Type} (l : List α) (i : Nat) (x d : α) (h : i < l.length) : (l.set i x).getD i d = x := by
  rw [List.getD_eq_getElem?_getD, List.getElem?_set_self h]; rfl
/-- Each byte behind a failure is the sure one, or that of a write that was open. -/
theorem sureAt_byte (keep torn at_ : Int) (sure : List (List UInt8)) (opn : List (Nat × List UInt8)) (hs : ∀ y ∈ sure, y.length = 64) (hw : ∀ x ∈ opn, x.1 < sure.length ∧ x.2.length = 64) (n k : Nat) (hk : k < 64) :
    ∀ K, K ≤ opn.length → ((sureAt keep torn at_ sure opn K).getD n []).getD k 0 = (sure.getD n []).getD k 0 ∨ ∃ x ∈ opn, x.1 = n ∧ ((sureAt keep torn at_ sure opn K).getD n []).getD k 0 = x.2.getD k 0 := by
  intro K
  induction K with
  | zero => intro _; exact .inl rfl
  | succ K ih =>
    intro hK
    have hx : opn.getD K (0, []) ∈ opn := getD_mem (by omega)
    obtain ⟨x, hxe⟩ : ∃ x, x = opn.getD K (0, []) := ⟨_, rfl⟩
    rw [← hxe] at hx
    have e : sureAt keep torn at_ sure opn (K + 1) = tornL (sureAt keep torn at_ sure opn K) x (toOf keep torn at_ K) := by rw [sureAt, ← hxe]
    obtain ⟨hx1, hx2⟩ := hw x hx
    obtain ⟨S, hS⟩ : ∃ S, S = sureAt keep torn at_ sure opn K := ⟨_, rfl⟩
    have hSl : S.length = sure.length := by rw [hS]; exact sureAt_len ..
    rw [e, ← hS]
    rw [← hS] at ih
    unfold tornL
    by_cases hn : x.1 = n
    · subst hn
      rw [getD_set_self _ _ _ _ (by omega)]
      by_cases ht : k < toOf keep torn at_ K
      · right
        refine ⟨x, hx, rfl, ?_⟩
        rw [List.getD_eq_getElem?_getD, List.getElem?_append_left (by rw [List.length_take, hx2]; omega), List.getElem?_take, if_pos ht, ← List.getD_eq_getElem?_getD]
      · have htl : (x.2.take (toOf keep torn at_ K)).length = toOf keep torn at_ K := by rw [List.length_take, hx2]; have := toOf_le keep torn at_ K; omega
        have : ((x.2.take (toOf keep torn at_ K) ++ (S.getD x.1 []).drop (toOf keep torn at_ K)).getD k 0) = (S.getD x.1 []).getD k 0 := by
          rw [List.getD_eq_getElem?_getD, List.getElem?_append_right (by omega), htl, List.getElem?_drop, show toOf keep torn at_ K + (k - toOf keep torn at_ K) = k by omega, ← List.getD_eq_getElem?_getD]
        rw [this]
        exact ih (by omega)
    · rw [getD_set_ne _ _ _ _ _ hn]
      exact ih (by omega)
/-- All is kept. -/
theorem sureAt_all (keep torn at_ : Int) (hk : keep = 18446744073709551615) (ht : torn < 0) (sure : List (List UInt8)) (opn : List (Nat × List UInt8)) (hs : ∀ y ∈ sure, y.length = 64) (hw : ∀ x ∈ opn, x.1 < sure.length ∧ x.2.length = 64) :
    ∀ K, K ≤ opn.length → sureAt keep torn at_ sure opn K = setAll sure (opn.take K) := by
  intro K
  induction K with
  | zero => intro _; rfl
  | succ K ih =>
    intro hK
    have hx : opn.getD K (0, []) ∈ opn := getD_mem (by omega)
    have hto : toOf keep torn at_ K = 64 := by
      unfold toOf
      rw [if_neg (by omega), if_pos]
      unfold keptB
      rw [hk]
      have : K % 64 < 64 := Nat.mod_lt _ (by decide)
      generalize K % 64 = j at this
      revert j
      decide +kernel
    have h64 := sureAt_64 (keep := keep) (torn := torn) (at_ := at_) (s := ⟨sure, sure, opn, none⟩) hs hw K (by show K ≤ opn.length; omega)
    rw [List.take_succ_eq_append_getElem (by omega)]
    have hg : opn.getD K (0, []) = opn[K]'(by omega) := by rw [List.getD_eq_getElem?_getD, List.getElem?_eq_getElem (by omega)]; rfl
    rw [hg] at hx
    obtain ⟨hx1, hx2⟩ := hw _ hx
    unfold setAll
    rw [List.foldl_append]
    show _ = (setAll sure (opn.take K)).set _ _
    rw [← ih (by omega), sureAt, hg, hto]
    unfold tornL
    congr 1
    have hl : ((sureAt keep torn at_ sure opn K).getD (opn[K]'(by omega)).1 []).length = 64 := getD_64 h64 (by rw [sureAt_len]; exact hx1)
    rw [List.take_of_length_le (by omega), List.drop_of_length_le (by omega), List.append_nil]
end Go.Proofs.Ytlafanbilodafaa
