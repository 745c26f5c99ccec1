/- A drive: New. -/
import Derived.Test.YtlafanbilodafaaD6
import Derived.RegionTactic
import Derived.Outline
set_option linter.unusedVariables false
set_option linter.unusedSimpArgs false
namespace Go.Proofs.Ytlafanbilodafaa
open Go Go.RowKit Go.Proofs.YtlafanbilodafaaW.PrintWords Go.Proofs.YtlafanbilodafaaW.PrintLast Go.Proofs.YtlafanbilodafaaW.PrintMore
attribute [local go_sem] Oper.semAt_some max2_int min2_int max_two min_two max_three min_three max_four min_four
theorem rowC_zero (n : Nat) : rowC (List.replicate n z64) = List.replicate (n * 64) (cb 0) := by
  unfold rowC
  induction n with
  | zero => simp
  | succ n ih =>
    rw [List.replicate_succ, List.flatMap_cons, ih, Nat.succ_mul, Nat.add_comm, ← List.replicate_append_replicate]
    congr 1
theorem made_same (k m : Nat) (hk : 0 < k) (x : Value) : madeCells (List.replicate k x).toArray m = (List.replicate m x).toArray := by
  apply Array.ext'
  rw [List.toList_toArray]
  apply List.ext_getElem?
  intro j
  by_cases hj : j < m
  · have : j % k < k := Nat.mod_lt _ hk
    simp [madeCells, hj, this, List.getElem?_replicate, getElem!_def]
  · simp [madeCells, hj, List.getElem?_replicate]
theorem made_zero (n : Nat) : (madeCells (cells8 z64) (n * 64)) = (rowC (List.replicate n z64)).toArray := by
  have hs : (cells8 z64) = (List.replicate 64 (cb 0)).toArray := by unfold cells8 z64; rw [List.map_replicate]
  rw [rowC_zero, hs, made_same 64 _ (by decide)]
/-- 'make([]sector, n)', kept from being taken apart. -/
@[irreducible] def make57 (v u : Value) : Sem Next := do pure (.value (← Instr.makeSlice 57 v u))
theorem exec_make57 (ev : Operand → Value) (dst : Option Tmp) (x y : Operand) (ty : TypeId) (pos : String) (after : Array Edge) (g : Option (Nat × Bool)) : execOp ev ⟨dst, .makeSlice 57 x y, ty, pos, after, g⟩ = make57 (ev x) (ev y) := by
  unfold make57 execOp; rfl
theorem run_make57 (n : Nat) (hn : n ≤ 4096) (W : World) : (make57 (.int .i64 (n : Int)) (.int .i64 (n : Int))).run Try.prog W = .ok (.value (.slice (some ⟨W.heap.size, 0, none⟩) n n)) (W.alloc (.cells (rowC (List.replicate n z64)).toArray 65)) := by
  obtain ⟨ti, hti, htz, hts, htb⟩ := info_three info65
  unfold make57
  have h := run_make W 57 65 ti _ Try.underlying57 hti htz .i64 .i64 (n : Int) (n : Int) (by omega) (Int.le_refl _) (by rw [htb]; omega) (by omega)
  rw [Sem.run_bind, h]
  simp only [Int.toNat_natCast, hts]
  have e : (Value.agg (cells8 z64)).cells = cells8 z64 := rfl
  rw [e, made_zero]
  rfl
def newS (n : Nat) : DS := ⟨List.replicate n z64, List.replicate n z64, [], none⟩
/-- A new drive's blocks. -/
theorem Drv.made {W : World} (n a b c : Nat) (h8 : 8 ≤ n) (hn : n ≤ 4096) (base : Nat) (ha : base ≤ a) (hb : base ≤ b) (hc : base ≤ c) (hd : a ≠ b ∧ a ≠ c ∧ b ≠ c)
    (ka : W.heap[a]? = some (.cells (rowC (List.replicate n z64)).toArray 65 (0, 0))) (kb : W.heap[b]? = some (.cells (rowC (List.replicate n z64)).toArray 65 (0, 0)))
    (kc : W.heap[c]? = some (.cells #[.slice (some ⟨a, 0, none⟩) n n, .slice (some ⟨b, 0, none⟩) n n, .slice none 0 0, .pointer none] 61 (0, 0))) :
    Drv base W ⟨c, .slice (some ⟨a, 0, none⟩) n n, .slice (some ⟨b, 0, none⟩) n n, .slice none 0 0, none⟩ (newS n) := by
  have hz : ∀ x ∈ List.replicate n z64, x.length = 64 := fun x hx => by rw [List.eq_of_mem_replicate hx]; rfl
  have hl := rowC_length _ hz
  rw [List.length_replicate] at hl
  have key : ∀ g, base ≤ g → W.heap[g]? = some (.cells (rowC (List.replicate n z64)).toArray 65 (0, 0)) → W.ownsRow base 65 64 (.slice (some ⟨g, 0, none⟩) n n) n (rowC (List.replicate n z64)) := by
    intro g hg hk
    refine ⟨hl, .inr ⟨g, n, _, rfl, hg, hk, Nat.le_refl _, by unfold maxLen; omega, by rw [List.size_toArray, hl], ?_⟩⟩
    rw [List.toList_toArray, ← hl, List.take_length]
  refine ⟨hc, kc, ?_, ?_, World.ownsRow_nil _ _ _ _, trivial, ?_, ?_, hz, hz, fun x hx => by cases hx⟩
  · show W.ownsRow base 65 64 _ (List.replicate n z64).length _
    rw [List.length_replicate]; exact key a ha ka
  · show W.ownsRow base 65 64 _ (List.replicate n z64).length _
    rw [List.length_replicate]; exact key b hb kb
  · unfold DV.fp
    simp [Value.ownBlock]
    omega
  · show (List.replicate n z64).length = (List.replicate n z64).length ∧ _
    show _ ∧ 8 ≤ (List.replicate n z64).length ∧ (List.replicate n z64).length ≤ 4096
    rw [List.length_replicate]
    exact ⟨rfl, h8, hn⟩
/-- A drive is made. -/
def Made (w w' : World) (n : Nat) (v : Value) : Prop := ∃ d : DV, v = ptr d.D ∧ Drv w.heap.size w' d (newS n) ∧ Only [] w w'
theorem Made.of (w : World) (n : Nat) (h8 : 8 ≤ n) (hn : n ≤ 4096) (a b : Nat) (hab : a = w.heap.size ∧ b = w.heap.size + 1 ∨ a = w.heap.size + 1 ∧ b = w.heap.size) :
    Made w (((w.alloc (.cells (rowC (List.replicate n z64)).toArray 65)).alloc (.cells (rowC (List.replicate n z64)).toArray 65)).alloc (.cells #[.slice (some ⟨a, 0, none⟩) n n, .slice (some ⟨b, 0, none⟩) n n, .slice none 0 0, .pointer none] 61)).drew n (ptr (w.heap.size + 2)) := by
  obtain ⟨h1, h2, h3⟩ := boxes w (.cells (rowC (List.replicate n z64)).toArray 65) (.cells (rowC (List.replicate n z64)).toArray 65) (.cells #[.slice (some ⟨a, 0, none⟩) n n, .slice (some ⟨b, 0, none⟩) n n, .slice none 0 0, .pointer none] 61)
  refine ⟨_, rfl, Drv.made n a b (w.heap.size + 2) h8 hn w.heap.size ?_ ?_ (by omega) (by omega) ?_ ?_ h3, ?_⟩
  · rcases hab with ⟨rfl, rfl⟩ | ⟨rfl, rfl⟩ <;> omega
  · rcases hab with ⟨rfl, rfl⟩ | ⟨rfl, rfl⟩ <;> omega
  · rcases hab with ⟨rfl, rfl⟩ | ⟨rfl, rfl⟩
    · exact h1
    · exact h2
  · rcases hab with ⟨rfl, rfl⟩ | ⟨rfl, rfl⟩
    · exact h2
    · exact h1
  · exact (((Only.alloc [] w _).trans (Only.alloc [] _ _) (fun _ h _ => h)).trans (Only.alloc [] _ _) (fun _ h _ => h)).trans (Only.drew [] _) (fun _ h _ => h)
attribute [local go_sem ↓] exec_make57
theorem New_no (w : World) (n : Int) (h : ¬ (8 ≤ n ∧ n ≤ 4096)) :
    Calls Try.prog 6 #[.int .i64 n] w fun e w' => e = .returned (.tuple #[.pointer none, .int .i64 2]) ∧ w' = w := by
  by_cases c : n < 8
  · have c1 : decide (n < 8) = true := decide_eq_true c
    go_enter Try.func6, Try.ntmps6
    go_wp2
    go_ret2
    exact ⟨rfl, rfl⟩
  · have c1 : decide (n < 8) = false := decide_eq_false c
    have c2 : decide (4096 < n) = true := decide_eq_true (by omega)
    go_enter Try.func6, Try.ntmps6
    go_wp2
    go_ret2
    exact ⟨rfl, rfl⟩
theorem New_calls (w : World) (n : Nat) (h8 : 8 ≤ n) (hn : n ≤ 4096) :
    Calls Try.prog 6 #[.int .i64 (n : Int)] w fun e w' => ∃ v, e = .returned (.tuple #[v, .int .i64 0]) ∧ Made w w' n v := by
  have HM := hid (And.intro h8 hn)
  have c1 : decide ((n : Int) < 8) = false := decide_eq_false (by omega)
  have c2 : decide (4096 < (n : Int)) = false := decide_eq_false (by omega)
  have HR := run_make57 n hn
  clear h8 hn
  go_enter Try.func6, Try.ntmps6
  go_wp2
  go_region
  · go_wp2
    go_ret2
    exact ⟨_, rfl, Made.of w n HM.out.1 HM.out.2 w.heap.size (w.heap.size + 1) (.inl ⟨rfl, rfl⟩)⟩
  · go_wp2
    go_ret2
    exact ⟨_, rfl, Made.of w n HM.out.1 HM.out.2 (w.heap.size + 1) w.heap.size (.inr ⟨rfl, rfl⟩)⟩
end Go.Proofs.Ytlafanbilodafaa
