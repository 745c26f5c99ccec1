/-
  No cell of these rows narrows 'for every input' (looked for: loops, veiled, ifaces, maps, wideKeys, modest, calm, conditions, laid).
  DERIVED. THE GIVEN ROWS OF THIS SEAT. 7 by the template 'for every input the law returns true; each argument reads behind the call as it read before'; 0 by the template 'total and deterministic' (their statements: YtfjjngipjabfpaaTotals.lean).
  GIVEN WITH THE SEED: the statements are not yours to turn. If you find one false, say at which input.
  Laid BY PROGRAM, IN A SANDBOX (cutbox-rows.mjs): the forced cells as the released guide's own fill.sh prints them over the translation f7672a0a6116ed63… (all of the seat's roots in one cut). By AI agents, Wed Nov 11 2026. No macro, syntax, notation, axiom, sorry.
-/
import Derived.Test.YtfjjngipjabfpaaChecked
import GoSem.Claim
import GoSem.ClaimJoined
import GoSem.ClaimMapViews
import Derived.JoinedTies
import Derived.KernelRfl
namespace Go.Proofs.Ytfjjngipjabfpaa
/- THE CELL 'sum', in the pinned program and in every row, IS THE sha256 OF THE DUMP (.gsa) THAT YtfjjngipjabfpaaProg.lean LOADS. Nothing in Lean hashes anything: it is a label: what it is worth is what the hold of that sum in a sandbox is worth. -/
noncomputable def Try.pinned : Pinned := { name := "ytfjjngipjabfpaa", sum := "f7672a0a6116ed635179221158167cb4ee9c689af37b2692b3cde659f6074c2b", checked := Try.checked }
namespace Rows
def none {H : Type} : Left H := { results := [], args := [] }

/-- 'quittancelaw02.LeafTorn': WHATEVER THE INPUT: true; the input reads as it did. -/
def leafTornSpec : ChangeSpec := { name := "leafTorn", fn := fun _ => fun
  | [d] => { results := [.lit (.bool true)], args := [d] }
  | _ => none }
def leafTornRow : OpenClaim := { program := "ytfjjngipjabfpaa", sum := "f7672a0a6116ed635179221158167cb4ee9c689af37b2692b3cde659f6074c2b", func := "quittance/quittancelaw02.LeafTorn", spec := "leafTorn", unfollowed := true, recurses := true, apart := false }
def LeafTornSaid : Prop := leafTornRow.holds Try.pinned (OpenSpec.ofChange leafTornSpec)

/-- ITS FALSE NEIGHBOUR: 'it returns false'. Refute it at one input. -/
def leafTornWrong : ChangeSpec := { name := "leafTorn", fn := fun _ => fun
  | [d] => { results := [.lit (.bool false)], args := [d] }
  | _ => none }
def LeafTornWrongFalsely : Prop := leafTornRow.holds Try.pinned (OpenSpec.ofChange leafTornWrong)

/-- 'quittancelaw01.TallyTakes': WHATEVER THE INPUT: true; the input reads as it did. -/
def tallyTakesSpec : ChangeSpec := { name := "tallyTakes", fn := fun _ => fun
  | [d] => { results := [.lit (.bool true)], args := [d] }
  | _ => none }
def tallyTakesRow : OpenClaim := { program := "ytfjjngipjabfpaa", sum := "f7672a0a6116ed635179221158167cb4ee9c689af37b2692b3cde659f6074c2b", func := "quittance/quittancelaw01.TallyTakes", spec := "tallyTakes", unfollowed := true, recurses := true, apart := false }
def TallyTakesSaid : Prop := tallyTakesRow.holds Try.pinned (OpenSpec.ofChange tallyTakesSpec)

/-- ITS FALSE NEIGHBOUR: 'it returns false'. Refute it at one input. -/
def tallyTakesWrong : ChangeSpec := { name := "tallyTakes", fn := fun _ => fun
  | [d] => { results := [.lit (.bool false)], args := [d] }
  | _ => none }
def TallyTakesWrongFalsely : Prop := tallyTakesRow.holds Try.pinned (OpenSpec.ofChange tallyTakesWrong)

/-- 'quittancelaw01.TallyBack': WHATEVER THE INPUT: true; the input reads as it did. -/
def tallyBackSpec : ChangeSpec := { name := "tallyBack", fn := fun _ => fun
  | [d] => { results := [.lit (.bool true)], args := [d] }
  | _ => none }
def tallyBackRow : OpenClaim := { program := "ytfjjngipjabfpaa", sum := "f7672a0a6116ed635179221158167cb4ee9c689af37b2692b3cde659f6074c2b", func := "quittance/quittancelaw01.TallyBack", spec := "tallyBack", unfollowed := true, recurses := true, apart := false }
def TallyBackSaid : Prop := tallyBackRow.holds Try.pinned (OpenSpec.ofChange tallyBackSpec)

/-- ITS FALSE NEIGHBOUR: 'it returns false'. Refute it at one input. -/
def tallyBackWrong : ChangeSpec := { name := "tallyBack", fn := fun _ => fun
  | [d] => { results := [.lit (.bool false)], args := [d] }
  | _ => none }
def TallyBackWrongFalsely : Prop := tallyBackRow.holds Try.pinned (OpenSpec.ofChange tallyBackWrong)

/-- 'quittancelaw01.TallyOnce': WHATEVER THE INPUT: true; the input reads as it did. -/
def tallyOnceSpec : ChangeSpec := { name := "tallyOnce", fn := fun _ => fun
  | [d] => { results := [.lit (.bool true)], args := [d] }
  | _ => none }
def tallyOnceRow : OpenClaim := { program := "ytfjjngipjabfpaa", sum := "f7672a0a6116ed635179221158167cb4ee9c689af37b2692b3cde659f6074c2b", func := "quittance/quittancelaw01.TallyOnce", spec := "tallyOnce", unfollowed := true, recurses := true, apart := false }
def TallyOnceSaid : Prop := tallyOnceRow.holds Try.pinned (OpenSpec.ofChange tallyOnceSpec)

/-- ITS FALSE NEIGHBOUR: 'it returns false'. Refute it at one input. -/
def tallyOnceWrong : ChangeSpec := { name := "tallyOnce", fn := fun _ => fun
  | [d] => { results := [.lit (.bool false)], args := [d] }
  | _ => none }
def TallyOnceWrongFalsely : Prop := tallyOnceRow.holds Try.pinned (OpenSpec.ofChange tallyOnceWrong)

/-- 'quittancelaw01.TallyShort': WHATEVER THE INPUT: true; the input reads as it did. -/
def tallyShortSpec : ChangeSpec := { name := "tallyShort", fn := fun _ => fun
  | [d1, d2] => { results := [.lit (.bool true)], args := [d1, d2] }
  | _ => none }
def tallyShortRow : OpenClaim := { program := "ytfjjngipjabfpaa", sum := "f7672a0a6116ed635179221158167cb4ee9c689af37b2692b3cde659f6074c2b", func := "quittance/quittancelaw01.TallyShort", spec := "tallyShort", unfollowed := true, recurses := true, apart := false }
def TallyShortSaid : Prop := tallyShortRow.holds Try.pinned (OpenSpec.ofChange tallyShortSpec)

/-- ITS FALSE NEIGHBOUR: 'it returns false'. Refute it at one input. -/
def tallyShortWrong : ChangeSpec := { name := "tallyShort", fn := fun _ => fun
  | [d1, d2] => { results := [.lit (.bool false)], args := [d1, d2] }
  | _ => none }
def TallyShortWrongFalsely : Prop := tallyShortRow.holds Try.pinned (OpenSpec.ofChange tallyShortWrong)

/-- 'quittancelaw01.TallySides': WHATEVER THE INPUT: true; the input reads as it did. -/
def tallySidesSpec : ChangeSpec := { name := "tallySides", fn := fun _ => fun
  | [d1, d2, d3] => { results := [.lit (.bool true)], args := [d1, d2, d3] }
  | _ => none }
def tallySidesRow : OpenClaim := { program := "ytfjjngipjabfpaa", sum := "f7672a0a6116ed635179221158167cb4ee9c689af37b2692b3cde659f6074c2b", func := "quittance/quittancelaw01.TallySides", spec := "tallySides", unfollowed := true, recurses := true, apart := false }
def TallySidesSaid : Prop := tallySidesRow.holds Try.pinned (OpenSpec.ofChange tallySidesSpec)

/-- ITS FALSE NEIGHBOUR: 'it returns false'. Refute it at one input. -/
def tallySidesWrong : ChangeSpec := { name := "tallySides", fn := fun _ => fun
  | [d1, d2, d3] => { results := [.lit (.bool false)], args := [d1, d2, d3] }
  | _ => none }
def TallySidesWrongFalsely : Prop := tallySidesRow.holds Try.pinned (OpenSpec.ofChange tallySidesWrong)

/-- 'quittancelaw01.TallyPuts': WHATEVER THE INPUT: true; the input reads as it did. -/
def tallyPutsSpec : ChangeSpec := { name := "tallyPuts", fn := fun _ => fun
  | [d] => { results := [.lit (.bool true)], args := [d] }
  | _ => none }
def tallyPutsRow : OpenClaim := { program := "ytfjjngipjabfpaa", sum := "f7672a0a6116ed635179221158167cb4ee9c689af37b2692b3cde659f6074c2b", func := "quittance/quittancelaw01.TallyPuts", spec := "tallyPuts", unfollowed := true, recurses := true, apart := false }
def TallyPutsSaid : Prop := tallyPutsRow.holds Try.pinned (OpenSpec.ofChange tallyPutsSpec)

/-- ITS FALSE NEIGHBOUR: 'it returns false'. Refute it at one input. -/
def tallyPutsWrong : ChangeSpec := { name := "tallyPuts", fn := fun _ => fun
  | [d] => { results := [.lit (.bool false)], args := [d] }
  | _ => none }
def TallyPutsWrongFalsely : Prop := tallyPutsRow.holds Try.pinned (OpenSpec.ofChange tallyPutsWrong)

/- THE SECOND FORM. 'bulk': how many values and letters a reading holds, each counted each time it is reached (what is shared counts as often as it is met; a slice's spare places count too). A statement '..UptoSaid' is the law's where the arguments, and the package variables that the reading takes, are together of bulk at most 1048576: NARROWER than '..Said'. Prove '..Said' where nothing that the law and all that it calls make is longer than what came in: it says more and counts as full. Else prove '..UptoSaid'. A law counts once. -/
mutual
def uptoBulk {H : Type} : DataW H → Nat
  | .lit (.string bytes) => bytes.length + 1
  | .lit _ => 1
  | .nil => 1
  | .ptr d => uptoBulk d + 1
  | .slice elems spare => uptoBulkAll elems + uptoBulkAll spare + 1
  | .agg parts => uptoBulkAll parts + 1
  | .iface _ d => uptoBulk d + 1
  | .map entries => uptoBulkEntries entries + 1
  | .held _ => 1
def uptoBulkAll {H : Type} : List (DataW H) → Nat
  | [] => 0
  | d :: r => uptoBulk d + uptoBulkAll r
def uptoBulkEntries {H : Type} : List (Lit × DataW H) → Nat
  | [] => 0
  | x :: r => uptoBulkEntry x + uptoBulkEntries r
def uptoBulkEntry {H : Type} : Lit × DataW H → Nat
  | (.string bytes, d) => bytes.length + uptoBulk d + 1
  | (_, d) => uptoBulk d + 1
 end
def uptoSmall : (H : Type) → List (DataW H) → Bool := fun _ ds => decide (uptoBulkAll ds ≤ 1048576)
def OpenSpec.upto (s : _root_.Go.ChangeSpec) : _root_.Go.OpenSpec := { _root_.Go.OpenSpec.ofChange s with cond := some uptoSmall }

/-- 'quittancelaw02.LeafTorn', WHERE WHAT IT READS IS OF BULK AT MOST 1048576: true; the input reads as it did. -/
def leafTornUptoRow : OpenClaim := { program := "ytfjjngipjabfpaa", sum := "f7672a0a6116ed635179221158167cb4ee9c689af37b2692b3cde659f6074c2b", func := "quittance/quittancelaw02.LeafTorn", spec := "leafTorn", unfollowed := true, recurses := true, apart := false, narrowed := true }
def LeafTornUptoSaid : Prop := leafTornUptoRow.holds Try.pinned (OpenSpec.upto leafTornSpec)

/-- 'quittancelaw01.TallyTakes', WHERE WHAT IT READS IS OF BULK AT MOST 1048576: true; the input reads as it did. -/
def tallyTakesUptoRow : OpenClaim := { program := "ytfjjngipjabfpaa", sum := "f7672a0a6116ed635179221158167cb4ee9c689af37b2692b3cde659f6074c2b", func := "quittance/quittancelaw01.TallyTakes", spec := "tallyTakes", unfollowed := true, recurses := true, apart := false, narrowed := true }
def TallyTakesUptoSaid : Prop := tallyTakesUptoRow.holds Try.pinned (OpenSpec.upto tallyTakesSpec)

/-- 'quittancelaw01.TallyBack', WHERE WHAT IT READS IS OF BULK AT MOST 1048576: true; the input reads as it did. -/
def tallyBackUptoRow : OpenClaim := { program := "ytfjjngipjabfpaa", sum := "f7672a0a6116ed635179221158167cb4ee9c689af37b2692b3cde659f6074c2b", func := "quittance/quittancelaw01.TallyBack", spec := "tallyBack", unfollowed := true, recurses := true, apart := false, narrowed := true }
def TallyBackUptoSaid : Prop := tallyBackUptoRow.holds Try.pinned (OpenSpec.upto tallyBackSpec)

/-- 'quittancelaw01.TallyOnce', WHERE WHAT IT READS IS OF BULK AT MOST 1048576: true; the input reads as it did. -/
def tallyOnceUptoRow : OpenClaim := { program := "ytfjjngipjabfpaa", sum := "f7672a0a6116ed635179221158167cb4ee9c689af37b2692b3cde659f6074c2b", func := "quittance/quittancelaw01.TallyOnce", spec := "tallyOnce", unfollowed := true, recurses := true, apart := false, narrowed := true }
def TallyOnceUptoSaid : Prop := tallyOnceUptoRow.holds Try.pinned (OpenSpec.upto tallyOnceSpec)

/-- 'quittancelaw01.TallyShort', WHERE WHAT IT READS IS OF BULK AT MOST 1048576: true; the input reads as it did. -/
def tallyShortUptoRow : OpenClaim := { program := "ytfjjngipjabfpaa", sum := "f7672a0a6116ed635179221158167cb4ee9c689af37b2692b3cde659f6074c2b", func := "quittance/quittancelaw01.TallyShort", spec := "tallyShort", unfollowed := true, recurses := true, apart := false, narrowed := true }
def TallyShortUptoSaid : Prop := tallyShortUptoRow.holds Try.pinned (OpenSpec.upto tallyShortSpec)

/-- 'quittancelaw01.TallySides', WHERE WHAT IT READS IS OF BULK AT MOST 1048576: true; the input reads as it did. -/
def tallySidesUptoRow : OpenClaim := { program := "ytfjjngipjabfpaa", sum := "f7672a0a6116ed635179221158167cb4ee9c689af37b2692b3cde659f6074c2b", func := "quittance/quittancelaw01.TallySides", spec := "tallySides", unfollowed := true, recurses := true, apart := false, narrowed := true }
def TallySidesUptoSaid : Prop := tallySidesUptoRow.holds Try.pinned (OpenSpec.upto tallySidesSpec)

/-- 'quittancelaw01.TallyPuts', WHERE WHAT IT READS IS OF BULK AT MOST 1048576: true; the input reads as it did. -/
def tallyPutsUptoRow : OpenClaim := { program := "ytfjjngipjabfpaa", sum := "f7672a0a6116ed635179221158167cb4ee9c689af37b2692b3cde659f6074c2b", func := "quittance/quittancelaw01.TallyPuts", spec := "tallyPuts", unfollowed := true, recurses := true, apart := false, narrowed := true }
def TallyPutsUptoSaid : Prop := tallyPutsUptoRow.holds Try.pinned (OpenSpec.upto tallyPutsSpec)

end Rows
end Go.Proofs.Ytfjjngipjabfpaa
