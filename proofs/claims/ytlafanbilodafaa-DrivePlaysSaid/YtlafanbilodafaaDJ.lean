/- Chapter 03: the document's New. -/
import Derived.Test.YtlafanbilodafaaDI
set_option linter.unusedVariables false
set_option linter.unusedSimpArgs false
namespace Go.Proofs.Ytlafanbilodafaa
open Go Go.RowKit Go.Proofs.YtlafanbilodafaaW.PrintWords Go.Proofs.YtlafanbilodafaaW.PrintLast Go.Proofs.YtlafanbilodafaaW.PrintMore
attribute [local go_sem] Oper.semAt_some max2_int min2_int max_two min_two max_three min_three max_four min_four
theorem RNew_no (w : World) (n : Int) (h : ¬ (8 ≤ n ∧ n ≤ 4096)) :
    Calls Try.prog 16 #[.int .i64 n] w fun e w' => e = .returned (.tuple #[.pointer none, .int .i64 2]) ∧ w' = w := by
  by_cases c : n < 8
  · have c1 : decide (n < 8) = true := decide_eq_true c
    clear c h
    go_enter Try.func16, Try.ntmps16
    go_wp2
    go_ret2
    exact ⟨rfl, rfl⟩
  · have c1 : decide (n < 8) = false := decide_eq_false c
    have c2 : decide (4096 < n) = true := decide_eq_true (by omega)
    clear c h
    go_enter Try.func16, Try.ntmps16
    go_wp2
    go_ret2
    exact ⟨rfl, rfl⟩
/-- The document's drive is made. -/
def RMade (w w' : World) (n : Nat) (v : Value) : Prop := ∃ q : QV, v = ptr q.Q ∧ Rd w.heap.size w' q (newS n) ∧ Only [] w w'
def zC (i : Nat) : List Value := List.replicate i (.string (B z64))
theorem zC_succ (i : Nat) : zC i ++ [.string (B z64)] = zC (i + 1) := by unfold zC; rw [List.replicate_succ']
theorem zC_len (i : Nat) : (zC i).length = i := by unfold zC; rw [List.length_replicate]
theorem zC_str (n : Nat) : zC n = strC (List.replicate n z64) := by unfold zC strC; rw [List.map_replicate]
theorem Rp.mades {w W : World} {q : QV} {n : Nat} (h8 : 8 ≤ n) (hn : n ≤ 4096) (h : Rp w.heap.size [w.heap.size] w W q (zC n) (zC n) [] [] (-1)) : RMade w W n (ptr q.Q) := by
  have hz : ∀ x ∈ List.replicate n z64, x.length = 64 := fun x hx => by rw [List.eq_of_mem_replicate hx]; rfl
  rw [zC_str] at h
  have e := QV.rows_eq q (newS n)
  refine ⟨q, rfl, ⟨by rw [← e]; exact h.ob, ?_, hz, hz, (fun x hx => by cases hx), (fun k hk => by cases hk)⟩, ?_⟩
  · show (List.replicate n z64).length = (List.replicate n z64).length ∧ 8 ≤ (List.replicate n z64).length ∧ (List.replicate n z64).length ≤ 4096
    rw [List.length_replicate]; exact ⟨rfl, h8, hn⟩
  · exact (Only.refl [] w).trans h.only (fun k hk hl => by rw [List.mem_singleton] at hk; omega)
set_option maxRecDepth 100000 in
theorem RNew_calls (w : World) (n : Nat) (h8 : 8 ≤ n) (hn : n ≤ 4096) :
    Calls Try.prog 16 #[.int .i64 (n : Int)] w fun e w' => ∃ v, e = .returned (.tuple #[v, .int .i64 0]) ∧ RMade w w' n v := by
  have HM := hid (And.intro h8 hn)
  have c1 : decide ((n : Int) < 8) = false := decide_eq_false (by omega)
  have c2 : decide (4096 < (n : Int)) = false := decide_eq_false (by omega)
  obtain ⟨W, hW⟩ : ∃ W, W = w.alloc (.cells #[.slice none 0 0, .slice none 0 0, .slice none 0 0, .slice none 0 0, .int .i64 (-1)] 54) := ⟨_, rfl⟩
  have HR0 := hid (show Rp w.heap.size [w.heap.size] w W ⟨w.heap.size, .slice none 0 0, .slice none 0 0, .slice none 0 0, .slice none 0 0⟩ (zC 0) (zC 0) [] [] (-1) from
    ⟨⟨Nat.le_refl _, by rw [hW]; exact heap_alloc_new w _, fun r hr => by
        simp only [QV.rows, List.mem_cons, List.not_mem_nil, or_false] at hr
        rcases hr with rfl | rfl | rfl | rfl <;> exact World.ownsRow_nil _ _ _ _, by simp [obFp, QV.rows, RowV.fp, Value.ownBlock]⟩,
      by rw [hW]; exact Only.alloc _ _ _, fun k hk => .inl (by simpa [obFp, QV.rows, RowV.fp, Value.ownBlock] using hk)⟩)
  have HW := hid hW
  have hnb : (n : Int) ≤ 4096 := by omega
  clear h8 hn hW
  go_enter Try.func16, Try.ntmps16
  go_wp2_with fail
  rw [← HW.out]
  go_at_call 27
  refine (zero_calls W).mono ?_
  rintro e w2 ⟨rfl, rfl⟩
  go_wp2_with fail
  clear c1 c2
  go_loopw [6] (fun v wr => ∃ (i : Nat) (vN vS : Value), v = .int .i64 (i : Int) ∧ Aside0 (i ≤ n) ∧ Aside0 (Rp w.heap.size [w.heap.size] w wr ⟨w.heap.size, vN, vS, .slice none 0 0, .slice none 0 0⟩ (zC i) (zC i) [] [] (-1))) (fun v _ => n - (intOf v).toNat)
  case atStart => exact ⟨0, _, _, rfl, ⟨Nat.zero_le _⟩, ⟨HR0.out⟩⟩
  case round =>
    obtain ⟨i, vN, vS, rfl, HI, HR⟩ := hrel
    clear HR0
    by_cases c : i < n
    · have d1 : decide ((i : Int) < (n : Int)) = true := decide_eq_true (by omega)
      have d2 : decide (i < n) = true := decide_eq_true c
      obtain ⟨k0, -, -, -, -, -⟩ := HR.out.cells
      replace k0 : wr.cell? ⟨w.heap.size, 0, none⟩ = some vN := k0
      obtain ⟨tj, htj, hjz, hjs, hjb⟩ := info_three info9
      have HTJ := hid (And.intro htj (And.intro hjz (And.intro hjs hjb)))
      have hib : i < 4096 := by omega
      have HIB := hid hib
      have HRN := hid (show wr.ownsRow w.heap.size 9 1 vN i (zC i) by have := HR.out.ownN; rw [zC_len] at this; exact this)
      have C1 := hid c
      clear c htj hjz hjs hjb
      go_upto_region 9 with (at_builtin; refine wpList_append_lies _ rfl (.tmp 25) (.tmp 27) 51 rfl w.heap.size 9 tj _ 1 16 Try.underlying51 HTJ.out.1 HTJ.out.2.1 HTJ.out.2.2.1 HTJ.out.2.2.2 rfl (by decide) vN i _ rfl (HRN.out.alloc _) ⟨wr.heap.size, 0, none⟩ 1 1 [.string (B z64)] rfl rfl (World.news_of_block (heap_alloc_new wr _)) (one_str _) (by decide) (by have := HIB.out; unfold maxLen; omega) (by have := HIB.out; omega) (by have := HR.out.baseW; simp; omega) (wr.heap.size + 1) (by simp) ?_; intro g4 cap4 W4 hown4 hgrow4 hat4 hgl4; have HST4 := hid (HR.out.appN (u := .string (B z64)) (by rw [zC_len]; exact hown4) hgrow4 hat4); have k4 := ((HR.out.mid (v := vN) (by simp) hgrow4).1 0).trans k0; have f4 := (HR.out.mid (v := vN) (by simp) hgrow4).2 0; clear hown4 hgrow4 hat4 hgl4)
      obtain ⟨W5, hW5⟩ : ∃ W5, W5 = W4.setCell ⟨w.heap.size, 0, none⟩ (.slice (some ⟨g4, 0, none⟩) (i + 1) cap4) := ⟨_, rfl⟩
      rw [zC_len] at HST4
      replace HST4 := HST4
      rw [← hW5] at HST4 ⊢
      obtain ⟨-, k5, -, -, -, f5⟩ := HST4.out.cells
      replace k5 : W5.cell? ⟨w.heap.size, 1, none⟩ = some vS := k5
      replace f5 : ∀ j, W5.frozen? ⟨w.heap.size, j, none⟩ = false := f5
      have f51 := f5 1
      have HRS := hid (show W5.ownsRow w.heap.size 9 1 vS i (zC i) by have := HST4.out.ownS; rw [zC_len] at this; exact this)
      clear k0 k4 f4 hW5 f5
      go_wp2_with (at_builtin; refine wpList_append_lies _ rfl (.tmp 35) (.tmp 37) 51 rfl w.heap.size 9 tj _ 1 16 Try.underlying51 HTJ.out.1 HTJ.out.2.1 HTJ.out.2.2.1 HTJ.out.2.2.2 rfl (by decide) vS i _ rfl (HRS.out.alloc _) ⟨W5.heap.size, 0, none⟩ 1 1 [.string (B z64)] rfl rfl (World.news_of_block (heap_alloc_new W5 _)) (one_str _) (by decide) (by have := HIB.out; unfold maxLen; omega) (by have := HIB.out; omega) (by have := HST4.out.baseW; simp; omega) (W5.heap.size + 1) (by simp) ?_; intro g6 cap6 W6 hown6 hgrow6 hat6 hgl6; have HST6 := hid (HST4.out.appS (u := .string (B z64)) (by rw [zC_len]; exact hown6) hgrow6 hat6); have k6 := ((HST4.out.mid (v := vS) (by simp) hgrow6).1 1).trans k5; have f6 := (HST4.out.mid (v := vS) (by simp) hgrow6).2 1; clear hown6 hgrow6 hat6 hgl6)
      rw [zC_len, zC_succ] at HST6
      go_roundw
      case rel => exact ⟨i + 1, _, _, by go_num, ⟨by have := C1.out; omega⟩, ⟨HST6.out⟩⟩
      case measure => simp [intOf]; have := C1.out; omega
    · have d1 : decide ((i : Int) < (n : Int)) = false := decide_eq_false (by omega)
      have d2 : decide (i < n) = false := decide_eq_false c
      have hin : i = n := by have := HI.out; omega
      have hR := HR.out
      rw [hin] at hR
      have HRR := hid (Rp.mades HM.out.1 HM.out.2 hR)
      clear hR hin c
      go_wp2_with fail
      go_ret2
      exact ⟨_, rfl, HRR.out⟩
end Go.Proofs.Ytlafanbilodafaa
