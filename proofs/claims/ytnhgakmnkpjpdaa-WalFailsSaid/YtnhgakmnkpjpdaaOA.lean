import Derived.Test.YtnhgakmnkpjpdaaQ0
import Derived.OpenShut
import Derived.ChangeArms
import Derived.Deep.Slices
import Derived.Carry
import Derived.MapPlaces
/- Reading arguments: what a trodden value is, as a kind (Kd) of the print. -/
namespace Go.Proofs.Ytnhgakmnkpjpdaa.Op
open Go Go.RowKit Go.ChangeShapes Go.WideShapes Go.Proofs.YtnhgakmnkpjpdaaW.PrintWords Go.Proofs.YtnhgakmnkpjpdaaW.PrintLast Go.Proofs.YtnhgakmnkpjpdaaW.PrintMore
set_option linter.unusedVariables false
/-- What is trodden as a value of type t is of kind d, and well. -/
def Opens (P : Program) (t : TypeId) {α : Type} (d : Kd α) (ok : α → Prop) : Prop :=
  ∀ (H : Type) (enc : TypeId × Value → H) (w : World) (base : Nat) (spare : Nat → Bool) (held : Bool) (n : Nat) (cs : List Value) (x : DataW H × List MemPlace),
    DataW.trod enc P w base spare held n t cs = some x → ∃ a, d.K w a cs ∧ ok a
def OpensF (P : Program) (fs : List Field) (off : Nat) {α : Type} (d : Kd α) (ok : α → Prop) : Prop :=
  ∀ (H : Type) (enc : TypeId × Value → H) (w : World) (base : Nat) (spare : Nat → Bool) (held : Bool) (n : Nat) (cs : List Value), cs.length = off + d.sz →
    (∀ f, f ∈ fs → ∃ y, DataW.trod enc P w base spare held n f.type ((cs.drop f.offset).take (P.cellsOf f.type)) = some y) → ∃ a, d.K w a (cs.drop off) ∧ ok a
variable {P : Program}
theorem opens_int {t : TypeId} {k : IntKind} (ht : P.underlying t = some (.int k)) : Opens P t (Kd.int k) (fun a => (Lit.int k a).wf = true) := by
  intro H enc w base spare held n cs x h
  obtain ⟨a, rfl, _, hw⟩ := DataW.trod_int ht h
  exact ⟨a, rfl, hw⟩
theorem opens_string {t : TypeId} (ht : P.underlying t = some .string) : Opens P t Kd.string (fun a => a.size ≤ maxLen) := by
  intro H enc w base spare held n cs x h
  cases n with
  | zero => simp [DataW.trod] at h
  | succ n =>
    unfold DataW.trod at h
    rw [ht] at h
    split at h <;> simp_all
    all_goals rename_i s; exact ⟨s, rfl, by omega⟩
theorem opensF_one {f : Field} {off : Nat} {α : Type} {d : Kd α} {ok : α → Prop} (h : Opens P f.type d ok) (ho : f.offset = off) (hc : P.cellsOf f.type = d.sz) : OpensF P [f] off d ok := by
  intro H enc w base spare held n cs hl hf
  obtain ⟨y, hy⟩ := hf f (by simp)
  rw [ho, List.take_of_length_le (by rw [List.length_drop, hl, hc]; omega)] at hy
  exact h _ _ _ _ _ _ _ _ _ hy
theorem opensF_cons {f : Field} {fs : List Field} {off off' : Nat} {α β : Type} {d : Kd α} {ok : α → Prop} {d' : Kd β} {ok' : β → Prop} (h : Opens P f.type d ok) (ho : f.offset = off) (hc : P.cellsOf f.type = d.sz)
    (he : off' = off + d.sz) (hr : OpensF P fs off' d' ok') : OpensF P (f :: fs) off (Kd.pair d d') (fun a => ok a.1 ∧ ok' a.2) := by
  intro H enc w base spare held n cs hl hf
  have hl' : cs.length = off + (d.sz + d'.sz) := hl
  obtain ⟨y, hy⟩ := hf f (by simp)
  rw [ho, hc] at hy
  obtain ⟨a, ha, oka⟩ := h _ _ _ _ _ _ _ _ _ hy
  obtain ⟨b, hb, okb⟩ := hr H enc w base spare held n cs (by omega) (fun g hg => hf g (List.mem_cons_of_mem _ hg))
  refine ⟨(a, b), ⟨_, _, ?_, ha, hb⟩, oka, okb⟩
  rw [he, ← List.drop_drop, List.take_append_drop]
theorem opens_struct {t : TypeId} {fs : Array Field} {α : Type} {d : Kd α} {ok : α → Prop} (ht : P.underlying t = some (.struct fs)) (hF : OpensF P fs.toList 0 d ok) (hc : P.cellsOf t = d.sz) : Opens P t d ok := by
  intro H enc w base spare held n cs x h
  obtain ⟨xs, m, _, _, hl, hlen, hf⟩ := DataW.trod_struct ht h
  obtain ⟨a, ha, oka⟩ := hF H enc w base spare held m cs (by rw [hl, hc]; omega) (fun f hm => by
    obtain ⟨i, hi, he⟩ := List.getElem_of_mem hm
    have hi' : i < fs.size := by simpa using hi
    have := hf i f (by rw [Array.getElem?_eq_getElem hi']; simpa using he)
    rw [this, List.getElem?_eq_getElem (by omega)]
    exact ⟨_, rfl⟩)
  exact ⟨a, ha, oka⟩
theorem opens_iso {t : TypeId} {α β : Type} {d : Kd α} {ok : α → Prop} (h : Opens P t d ok) (f : β → α) (g : α → β) (hfg : ∀ a, f (g a) = a) : Opens P t (Kd.iso d f) (fun b => ok (f b)) := by
  intro H enc w base spare held n cs x hx
  obtain ⟨a, ha, oka⟩ := h _ _ _ _ _ _ _ _ _ hx
  refine ⟨g a, ?_, ?_⟩
  · show d.K w (f (g a)) cs
    rw [hfg]
    exact ha
  · show ok (f (g a))
    rw [hfg]
    exact oka
theorem opens_mono {t : TypeId} {α : Type} {d : Kd α} {ok ok' : α → Prop} (h : Opens P t d ok) (hk : ∀ a, ok a → ok' a) : Opens P t d ok' := by
  intro H enc w base spare held n cs x hx
  obtain ⟨a, ha, oka⟩ := h _ _ _ _ _ _ _ _ _ hx
  exact ⟨a, ha, hk a oka⟩
theorem list_choose {α : Type} {p : Nat → α → Prop} : ∀ (len : Nat), (∀ i, i < len → ∃ a, p i a) → ∃ l : List α, l.length = len ∧ ∀ i a, l[i]? = some a → p i a := by
  intro len
  induction len with
  | zero => exact fun _ => ⟨[], rfl, fun i a h => by simp at h⟩
  | succ len ih =>
    intro h
    obtain ⟨l, hl, hp⟩ := ih (fun i hi => h i (by omega))
    obtain ⟨a, ha⟩ := h len (by omega)
    refine ⟨l ++ [a], by simp [hl], fun i b hb => ?_⟩
    by_cases hi : i < len
    · rw [List.getElem?_append_left (by omega)] at hb
      exact hp i b hb
    · have : i < (l ++ [a]).length := (List.getElem?_eq_some_iff.1 hb).1
      have hi' : i = len := by simp at this; omega
      subst hi'
      rw [List.getElem?_append_right (by omega)] at hb
      simp [hl] at hb
      rw [← hb]
      exact ha
theorem opens_slice {t e : TypeId} {e' : Nat} {α : Type} {d : Kd α} {ok : α → Prop} (ht : P.underlying t = some (.slice e)) (h : Opens P e d ok) (hc : P.cellsOf e = d.sz) :
    Opens P t (Kd.slice e' d) (fun l => l.length ≤ maxLen ∧ ∀ a, a ∈ l → ok a) := by
  intro H enc w base spare held n cs x hx
  rcases Go.Deep.open_slice ht hx with ⟨rfl, rfl⟩ | ⟨a, len, cap, m, n', D, Pl, rfl, hb, hl, hm, hmm, rfl, hel⟩
  · exact ⟨[], ⟨none, 0, rfl, Nat.le_refl _, rfl, Nat.zero_le _, fun h => absurd h (by simp)⟩, by simp, fun a ha => by simp at ha⟩
  · have hlm : len ≤ m := by rw [hmm]; split <;> omega
    obtain ⟨l, hll, hp⟩ := list_choose (p := fun i z => (∃ c, c.length = d.sz ∧ d.K w z c ∧ ∀ j u, c[j]? = some u → w.cell? (a.add (i * d.sz + j)) = some u) ∧ ok z) len (fun i hi => by
      obtain ⟨cs', h1, h2⟩ := hel i (by omega)
      obtain ⟨z, hz, okz⟩ := h _ _ _ _ _ _ _ _ _ h2
      obtain ⟨_, h3, h4⟩ := World.cells?_some h1
      refine ⟨z, ⟨cs', h3.trans hc, hz, fun j u hu => ?_⟩, okz⟩
      have hj : j < cs'.length := (List.getElem?_eq_some_iff.1 hu).1
      have := h4 j (by omega)
      rw [Go.Deep.add_add] at this
      rw [hc] at this
      rw [this, hu])
    refine ⟨l, ⟨some a, cap, by rw [hll], by omega, rfl, by rw [hll]; have : maxLen = 9223372036854775807 := rfl; omega, fun _ => ⟨a, rfl, fun j z hz => (hp j z hz).1⟩⟩, by omega, fun z hz => ?_⟩
    obtain ⟨i, hi, he⟩ := List.getElem_of_mem hz
    exact (hp i z (by rw [List.getElem?_eq_getElem hi, he])).2
end Go.Proofs.Ytnhgakmnkpjpdaa.Op

/- What a law's row asks of its function, of one argument. -/
namespace Go.Proofs.Ytnhgakmnkpjpdaa.Op
open Go Go.RowKit Go.ChangeShapes Go.WideShapes Go.Proofs.YtnhgakmnkpjpdaaW.PrintWords Go.Proofs.YtnhgakmnkpjpdaaW.PrintLast Go.Proofs.YtnhgakmnkpjpdaaW.PrintMore
def ArgsCall2 (f : FuncId) (t t1 : TypeId) : Prop :=
  ∀ (H : Type) (enc : TypeId × Value → H) (W : World) (base : Nat) (v v1 : Value) (d d1 : DataW H) (p p1 : List MemPlace), Value.okWide Try.prog W .any base t v → Value.okWide Try.prog W .any base t1 v1 →
    DataW.Trod enc Try.prog W 0 (fun _ => true) true t v d p → DataW.Trod enc Try.prog W 0 (fun _ => true) true t1 v1 d1 p1 → Calls Try.prog f #[v, v1] W fun e w' => e = .returned (.bool true) ∧ Below W.heap.size W w'
end Go.Proofs.Ytnhgakmnkpjpdaa.Op
