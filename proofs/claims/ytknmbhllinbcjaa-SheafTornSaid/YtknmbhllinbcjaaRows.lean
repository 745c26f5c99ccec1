/-
  No cell of these rows narrows 'for every input' (looked for: loops, veiled, ifaces, maps, wideKeys, modest, calm, conditions, laid).
  DERIVED. THE GIVEN ROWS OF THIS SEAT. 4 by the template 'for every input the law returns true; each argument reads behind the call as it read before'; 0 by the template 'total and deterministic' (their statements: YtknmbhllinbcjaaTotals.lean).
  GIVEN WITH THE SEED: the statements are not yours to turn. If you find one false, say at which input.
  Laid BY PROGRAM, IN A SANDBOX (cutbox-rows.mjs): the forced cells as the released guide's own fill.sh prints them over the translation fccee7c7ca94248c… (all of the seat's roots in one cut). By AI agents, Wed Nov 11 2026. No macro, syntax, notation, axiom, sorry.
-/
import Derived.Test.YtknmbhllinbcjaaChecked
import GoSem.Claim
import GoSem.ClaimJoined
import GoSem.ClaimMapViews
import Derived.JoinedTies
import Derived.KernelRfl
namespace Go.Proofs.Ytknmbhllinbcjaa
/- THE CELL 'sum', in the pinned program and in every row, IS THE sha256 OF THE DUMP (.gsa) THAT YtknmbhllinbcjaaProg.lean LOADS. Nothing in Lean hashes anything: it is a label: what it is worth is what the hold of that sum in a sandbox is worth. -/
noncomputable def Try.pinned : Pinned := { name := "ytknmbhllinbcjaa", sum := "fccee7c7ca94248cb9552f6debc06b59b05f8c06197ce88db21a362c48caeb2c", checked := Try.checked }
namespace Rows
def none {H : Type} : Left H := { results := [], args := [] }

/-- 'quittancelaw04.SheafPuts': WHATEVER THE INPUT: true; the input reads as it did. -/
def sheafPutsSpec : ChangeSpec := { name := "sheafPuts", fn := fun _ => fun
  | [d1, d2, d3] => { results := [.lit (.bool true)], args := [d1, d2, d3] }
  | _ => none }
def sheafPutsRow : OpenClaim := { program := "ytknmbhllinbcjaa", sum := "fccee7c7ca94248cb9552f6debc06b59b05f8c06197ce88db21a362c48caeb2c", func := "quittance/quittancelaw04.SheafPuts", spec := "sheafPuts", unfollowed := true, recurses := true, apart := false }
def SheafPutsSaid : Prop := sheafPutsRow.holds Try.pinned (OpenSpec.ofChange sheafPutsSpec)

/-- ITS FALSE NEIGHBOUR: 'it returns false'. Refute it at one input. -/
def sheafPutsWrong : ChangeSpec := { name := "sheafPuts", fn := fun _ => fun
  | [d1, d2, d3] => { results := [.lit (.bool false)], args := [d1, d2, d3] }
  | _ => none }
def SheafPutsWrongFalsely : Prop := sheafPutsRow.holds Try.pinned (OpenSpec.ofChange sheafPutsWrong)

/-- 'quittancelaw04.SheafGets': WHATEVER THE INPUT: true; the input reads as it did. -/
def sheafGetsSpec : ChangeSpec := { name := "sheafGets", fn := fun _ => fun
  | [d] => { results := [.lit (.bool true)], args := [d] }
  | _ => none }
def sheafGetsRow : OpenClaim := { program := "ytknmbhllinbcjaa", sum := "fccee7c7ca94248cb9552f6debc06b59b05f8c06197ce88db21a362c48caeb2c", func := "quittance/quittancelaw04.SheafGets", spec := "sheafGets", unfollowed := true, recurses := true, apart := false }
def SheafGetsSaid : Prop := sheafGetsRow.holds Try.pinned (OpenSpec.ofChange sheafGetsSpec)

/-- ITS FALSE NEIGHBOUR: 'it returns false'. Refute it at one input. -/
def sheafGetsWrong : ChangeSpec := { name := "sheafGets", fn := fun _ => fun
  | [d] => { results := [.lit (.bool false)], args := [d] }
  | _ => none }
def SheafGetsWrongFalsely : Prop := sheafGetsRow.holds Try.pinned (OpenSpec.ofChange sheafGetsWrong)

/-- 'quittancelaw04.SheafBack': WHATEVER THE INPUT: true; the input reads as it did. -/
def sheafBackSpec : ChangeSpec := { name := "sheafBack", fn := fun _ => fun
  | [d1, d2, d3] => { results := [.lit (.bool true)], args := [d1, d2, d3] }
  | _ => none }
def sheafBackRow : OpenClaim := { program := "ytknmbhllinbcjaa", sum := "fccee7c7ca94248cb9552f6debc06b59b05f8c06197ce88db21a362c48caeb2c", func := "quittance/quittancelaw04.SheafBack", spec := "sheafBack", unfollowed := true, recurses := true, apart := false }
def SheafBackSaid : Prop := sheafBackRow.holds Try.pinned (OpenSpec.ofChange sheafBackSpec)

/-- ITS FALSE NEIGHBOUR: 'it returns false'. Refute it at one input. -/
def sheafBackWrong : ChangeSpec := { name := "sheafBack", fn := fun _ => fun
  | [d1, d2, d3] => { results := [.lit (.bool false)], args := [d1, d2, d3] }
  | _ => none }
def SheafBackWrongFalsely : Prop := sheafBackRow.holds Try.pinned (OpenSpec.ofChange sheafBackWrong)

/-- 'quittancelaw04.SheafTorn': WHATEVER THE INPUT: true; the input reads as it did. -/
def sheafTornSpec : ChangeSpec := { name := "sheafTorn", fn := fun _ => fun
  | [d] => { results := [.lit (.bool true)], args := [d] }
  | _ => none }
def sheafTornRow : OpenClaim := { program := "ytknmbhllinbcjaa", sum := "fccee7c7ca94248cb9552f6debc06b59b05f8c06197ce88db21a362c48caeb2c", func := "quittance/quittancelaw04.SheafTorn", spec := "sheafTorn", unfollowed := true, recurses := true, apart := false }
def SheafTornSaid : Prop := sheafTornRow.holds Try.pinned (OpenSpec.ofChange sheafTornSpec)

/-- ITS FALSE NEIGHBOUR: 'it returns false'. Refute it at one input. -/
def sheafTornWrong : ChangeSpec := { name := "sheafTorn", fn := fun _ => fun
  | [d] => { results := [.lit (.bool false)], args := [d] }
  | _ => none }
def SheafTornWrongFalsely : Prop := sheafTornRow.holds Try.pinned (OpenSpec.ofChange sheafTornWrong)

/- THE SECOND FORM. 'bulk': how many values and letters a reading holds, each counted each time it is reached (what is shared counts as often as it is met; a slice's spare places count too). A statement '..UptoSaid' is the law's where the arguments, and the package variables that the reading takes, are together of bulk at most 1048576: NARROWER than '..Said'. Prove '..Said' where nothing that the law and all that it calls make is longer than what came in: it says more and counts as full. Else prove '..UptoSaid'. A law counts once. -/
mutual
def uptoBulk {H : Type} : DataW H → Nat
  | .lit (.string bytes) => bytes.length + 1
  | .lit _ => 1
  | .nil => 1
  | .ptr d => uptoBulk d + 1
  | .slice elems spare => uptoBulkAll elems + uptoBulkAll spare + 1
  | .agg parts => uptoBulkAll parts + 1
  | .iface _ d => uptoBulk d + 1
  | .map entries => uptoBulkEntries entries + 1
  | .held _ => 1
def uptoBulkAll {H : Type} : List (DataW H) → Nat
  | [] => 0
  | d :: r => uptoBulk d + uptoBulkAll r
def uptoBulkEntries {H : Type} : List (Lit × DataW H) → Nat
  | [] => 0
  | x :: r => uptoBulkEntry x + uptoBulkEntries r
def uptoBulkEntry {H : Type} : Lit × DataW H → Nat
  | (.string bytes, d) => bytes.length + uptoBulk d + 1
  | (_, d) => uptoBulk d + 1
 end
def uptoSmall : (H : Type) → List (DataW H) → Bool := fun _ ds => decide (uptoBulkAll ds ≤ 1048576)
def OpenSpec.upto (s : _root_.Go.ChangeSpec) : _root_.Go.OpenSpec := { _root_.Go.OpenSpec.ofChange s with cond := some uptoSmall }

/-- 'quittancelaw04.SheafPuts', WHERE WHAT IT READS IS OF BULK AT MOST 1048576: true; the input reads as it did. -/
def sheafPutsUptoRow : OpenClaim := { program := "ytknmbhllinbcjaa", sum := "fccee7c7ca94248cb9552f6debc06b59b05f8c06197ce88db21a362c48caeb2c", func := "quittance/quittancelaw04.SheafPuts", spec := "sheafPuts", unfollowed := true, recurses := true, apart := false, narrowed := true }
def SheafPutsUptoSaid : Prop := sheafPutsUptoRow.holds Try.pinned (OpenSpec.upto sheafPutsSpec)

/-- 'quittancelaw04.SheafGets', WHERE WHAT IT READS IS OF BULK AT MOST 1048576: true; the input reads as it did. -/
def sheafGetsUptoRow : OpenClaim := { program := "ytknmbhllinbcjaa", sum := "fccee7c7ca94248cb9552f6debc06b59b05f8c06197ce88db21a362c48caeb2c", func := "quittance/quittancelaw04.SheafGets", spec := "sheafGets", unfollowed := true, recurses := true, apart := false, narrowed := true }
def SheafGetsUptoSaid : Prop := sheafGetsUptoRow.holds Try.pinned (OpenSpec.upto sheafGetsSpec)

/-- 'quittancelaw04.SheafBack', WHERE WHAT IT READS IS OF BULK AT MOST 1048576: true; the input reads as it did. -/
def sheafBackUptoRow : OpenClaim := { program := "ytknmbhllinbcjaa", sum := "fccee7c7ca94248cb9552f6debc06b59b05f8c06197ce88db21a362c48caeb2c", func := "quittance/quittancelaw04.SheafBack", spec := "sheafBack", unfollowed := true, recurses := true, apart := false, narrowed := true }
def SheafBackUptoSaid : Prop := sheafBackUptoRow.holds Try.pinned (OpenSpec.upto sheafBackSpec)

/-- 'quittancelaw04.SheafTorn', WHERE WHAT IT READS IS OF BULK AT MOST 1048576: true; the input reads as it did. -/
def sheafTornUptoRow : OpenClaim := { program := "ytknmbhllinbcjaa", sum := "fccee7c7ca94248cb9552f6debc06b59b05f8c06197ce88db21a362c48caeb2c", func := "quittance/quittancelaw04.SheafTorn", spec := "sheafTorn", unfollowed := true, recurses := true, apart := false, narrowed := true }
def SheafTornUptoSaid : Prop := sheafTornUptoRow.holds Try.pinned (OpenSpec.upto sheafTornSpec)

end Rows
end Go.Proofs.Ytknmbhllinbcjaa
