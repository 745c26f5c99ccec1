/- A drive: the calls that only look: none, has, Read, Pending, Size. -/
import Derived.Test.YtlafanbilodafaaD0
set_option linter.unusedVariables false
set_option linter.unusedSimpArgs false
namespace Go.Proofs.Ytlafanbilodafaa
open Go Go.RowKit Go.Proofs.YtlafanbilodafaaW.PrintWords Go.Proofs.YtlafanbilodafaaW.PrintLast Go.Proofs.YtlafanbilodafaaW.PrintMore
attribute [local go_sem] Oper.semAt_some max2_int min2_int max_two min_two max_three min_three max_four min_four
theorem none_calls {base : Nat} {w : World} {d : DV} {s : DS} (h : Drv base w d s) :
    Calls Try.prog 21 #[ptr d.D] w fun e w' => e = .returned (.bool false) ∧ w' = w := by
  obtain ⟨g, cap, cur, hv, hb, hg, hc, hm, hsz, hxs⟩ := ownsRow_slice h.now (by have := h.len; omega)
  obtain ⟨h0, -, -, -, f0, -, -, -⟩ := h.cells
  rw [hv] at h0
  have hn : ((s.now.length : Int) == 0) = false := by have := h.len.2.1; rw [beq_eq_false_iff_ne]; omega
  unfold ptr
  have HL := hid h.len
  clear h hv hg hsz hxs
  go_enter Try.func21, Try.ntmps21
  go_wp2
  go_ret
  exact ⟨rfl, rfl⟩
def hasE (N : Nat) (n : Int) : Int := if 0 ≤ n ∧ n < (N : Int) then 0 else 2
theorem has_calls {base : Nat} {w : World} {d : DV} {s : DS} (h : Drv base w d s) (n : Int) :
    Calls Try.prog 24 #[ptr d.D, .int .i64 n] w fun e w' => e = .returned (.int .i64 (hasE s.now.length n)) ∧ w' = w := by
  obtain ⟨g, cap, cur, hv, hb, hg, hc, hm, hsz, hxs⟩ := ownsRow_slice h.now (by have := h.len; omega)
  obtain ⟨h0, -, -, -, f0, -, -, -⟩ := h.cells
  have HD := hid h
  rw [hv] at h0
  unfold hasE ptr
  clear h hv hg hsz hxs hc hm hb
  by_cases c1 : n < 0
  · have d1 : decide (n < 0) = true := decide_eq_true c1
    rw [if_neg (by omega)]
    go_enter Try.func24, Try.ntmps24
    go_wp2_with (go_at_call 21; refine (none_calls HD.out).mono ?_; rintro e w' ⟨rfl, rfl⟩)
    go_ret
    exact ⟨rfl, rfl⟩
  · have d1 : decide (n < 0) = false := decide_eq_false c1
    by_cases c2 : n < (s.now.length : Int)
    · have d2 : decide ((s.now.length : Int) ≤ n) = false := decide_eq_false (by omega)
      rw [if_pos (by omega)]
      clear c2
      go_enter Try.func24, Try.ntmps24
      go_wp2_with (go_at_call 21; refine (none_calls HD.out).mono ?_; rintro e w' ⟨rfl, rfl⟩)
      go_ret
      exact ⟨rfl, rfl⟩
    · have d2 : decide ((s.now.length : Int) ≤ n) = true := decide_eq_true (by omega)
      rw [if_neg (by omega)]
      clear c2
      go_enter Try.func24, Try.ntmps24
      go_wp2_with (go_at_call 21; refine (none_calls HD.out).mono ?_; rintro e w' ⟨rfl, rfl⟩)
      go_ret
      exact ⟨rfl, rfl⟩
theorem rowC_at (l : List (List UInt8)) (h : ∀ x ∈ l, x.length = 64) (i j : Nat) (hi : i < l.length) (hj : j < 64) : (rowC l)[i * 64 + j]? = some (cb ((l.getD i []).getD j 0)) := by
  have hx : l[i]? = some (l.getD i []) := by rw [List.getD_eq_getElem?_getD, List.getElem?_eq_getElem hi]; rfl
  have hl : (l.getD i []).length = 64 := h _ (List.mem_of_getElem? hx)
  rw [rowC, flat_at (fun s => s.map cb) 64 l (fun x hx => by rw [List.length_map]; exact h x hx) i j _ hx hj, List.getElem?_map]
  generalize l.getD i [] = L at hl
  rw [List.getD_eq_getElem?_getD, List.getElem?_eq_getElem (by omega)]
  rfl
theorem own_at {cur : Array Value} {xs : List Value} {n : Nat} (h : cur.toList.take n = xs) (hn : n ≤ cur.size) (j : Nat) (hj : j < n) : cur[j]? = xs[j]? := by
  rw [← h, List.getElem?_take, if_pos hj, Array.getElem?_toList]
def readS (s : DS) (n : Int) : ByteArray := if 0 ≤ n ∧ n < (s.now.length : Int) then B (s.now.getD n.toNat []) else ⟨#[]⟩
theorem Read_calls {base : Nat} {w : World} {d : DV} {s : DS} (h : Drv base w d s) (n : Int) :
    Calls Try.prog 14 #[ptr d.D, .int .i64 n] w fun e w' => e = .returned (.tuple #[.string (readS s n), .int .i64 (hasE s.now.length n)]) ∧ w' = w := by
  obtain ⟨g, cap, cur, hv, hb, hg, hc, hm, hsz, hxs⟩ := ownsRow_slice h.now (by have := h.len; omega)
  obtain ⟨h0, -, -, -, f0, -, -, -⟩ := h.cells
  have HD := hid h
  rw [hv] at h0
  unfold readS
  by_cases c : 0 ≤ n ∧ n < (s.now.length : Int)
  · have he : hasE s.now.length n = 0 := by unfold hasE; rw [if_pos c]
    rw [if_pos c, he]
    have HE := hid he
    have hsec := h.secN (s.now.getD n.toNat []) (by rw [List.getD_eq_getElem?_getD, List.getElem?_eq_getElem (by omega)]; exact List.getElem_mem _)
    have hcell : ∀ j, j < (s.now.getD n.toNat []).length → cur[n.toNat * 64 + j]? = some (cb ((s.now.getD n.toNat []).getD j 0)) := by
      intro j hj
      rw [own_at hxs (by rw [hsz]; omega) _ (by omega), rowC_at _ h.secN _ _ (by omega) (by omega)]
    generalize s.now.getD n.toNat [] = L at hsec hcell
    have HC := hid hcell
    have HG := hid hg
    have HS := hid hsec
    have q1 : (0 ≤ n) = True := eq_true c.1
    have q2 : (n < (s.now.length : Int)) = True := eq_true c.2
    unfold ptr
    clear h hv hg hsz hxs hc hm hb he c hcell hsec
    go_enter Try.func14, Try.ntmps14
    go_wp2_with (first
      | (go_at_call 24; refine (has_calls HD.out n).mono ?_; rintro e w' ⟨rfl, rfl⟩; rw [HE.out])
      | (refine wpList_convert_back rfl 68 9 (.tmp 19) rfl 5 Try.underlying68 Try.underlying5 Try.underlying9 g (n.toNat * 64) 64 L 64 HS.out.symm rfl 65 cur (0, 0) HG.out HC.out ?_))
    go_ret2
    exact ⟨rfl, rfl⟩
  · have he : hasE s.now.length n = 2 := by unfold hasE; rw [if_neg c]
    rw [if_neg c, he]
    have HE := hid he
    unfold ptr
    clear h hv hg hsz hxs hc hm hb he c
    go_enter Try.func14, Try.ntmps14
    go_wp2_with (go_at_call 24; refine (has_calls HD.out n).mono ?_; rintro e w' ⟨rfl, rfl⟩; rw [HE.out])
    go_ret2
    exact ⟨rfl, rfl⟩
theorem own_cases {w : World} {base : Nat} {e : TypeId} {size : Nat} {v : Value} {n : Nat} {xs : List Value} (h : w.ownsRow base e size v n xs) : ∃ A c, v = .slice A n c := by
  rcases h.2 with ⟨rfl, rfl⟩ | ⟨g, cap, cur, rfl, _⟩
  · exact ⟨_, _, rfl⟩
  · exact ⟨_, _, rfl⟩
theorem Pending_calls {base : Nat} {w : World} {d : DV} {s : DS} (h : Drv base w d s) :
    Calls Try.prog 12 #[ptr d.D] w fun e w' => e = .returned (.int .i64 s.opn.length) ∧ w' = w := by
  obtain ⟨A, c, hv⟩ := own_cases h.opn
  obtain ⟨-, -, h0, -, -, -, f0, -⟩ := h.cells
  have HD := hid h
  rw [hv] at h0
  unfold ptr
  clear h hv
  go_enter Try.func12, Try.ntmps12
  go_wp2_with (go_at_call 21; refine (none_calls HD.out).mono ?_; rintro e w' ⟨rfl, rfl⟩)
  go_ret
  exact ⟨rfl, rfl⟩
theorem Size_calls {base : Nat} {w : World} {d : DV} {s : DS} (h : Drv base w d s) :
    Calls Try.prog 29 #[ptr d.D] w fun e w' => e = .returned (.int .i64 s.now.length) ∧ w' = w := by
  obtain ⟨A, c, hv⟩ := own_cases h.now
  obtain ⟨h0, -, -, -, f0, -, -, -⟩ := h.cells
  rw [hv] at h0
  unfold ptr
  clear h hv
  go_enter Try.func29, Try.ntmps29
  go_wp2
  go_ret
  exact ⟨rfl, rfl⟩
end Go.Proofs.Ytlafanbilodafaa
