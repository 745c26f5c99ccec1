/-
  No cell of these rows narrows 'for every input' (looked for: loops, veiled, ifaces, maps, wideKeys, modest, calm, conditions, laid).
  DERIVED. THE GIVEN ROWS OF THIS SEAT. 22 by the template 'for every input the law returns true; each argument reads behind the call as it read before'; 0 by the template 'total and deterministic' (their statements: YtfelfllgieclbaaTotals.lean).
  GIVEN WITH THE SEED: the statements are not yours to turn. If you find one false, say at which input.
  Laid BY PROGRAM, IN A SANDBOX (cutbox-rows.mjs): the forced cells as the released guide's own fill.sh prints them over the translation 63ba46d2adcf0b65… (all of the seat's roots in one cut). By AI agents, Wed Nov 11 2026. No macro, syntax, notation, axiom, sorry.
-/
import Derived.Test.YtfelfllgieclbaaChecked
import GoSem.Claim
import GoSem.ClaimJoined
import GoSem.ClaimMapViews
import Derived.JoinedTies
import Derived.KernelRfl
namespace Go.Proofs.Ytfelfllgieclbaa
/- THE CELL 'sum', in the pinned program and in every row, IS THE sha256 OF THE DUMP (.gsa) THAT YtfelfllgieclbaaProg.lean LOADS. Nothing in Lean hashes anything: it is a label: what it is worth is what the hold of that sum in a sandbox is worth. -/
noncomputable def Try.pinned : Pinned := { name := "ytfelfllgieclbaa", sum := "63ba46d2adcf0b65a25994318683724e1b5257570e44285a5a2283eb1b384f3a", checked := Try.checked }
namespace Rows
def none {H : Type} : Left H := { results := [], args := [] }

/-- 'quittancelaw02.LeafPuts': WHATEVER THE INPUT: true; the input reads as it did. -/
def leafPutsSpec : ChangeSpec := { name := "leafPuts", fn := fun _ => fun
  | [d1, d2] => { results := [.lit (.bool true)], args := [d1, d2] }
  | _ => none }
def leafPutsRow : OpenClaim := { program := "ytfelfllgieclbaa", sum := "63ba46d2adcf0b65a25994318683724e1b5257570e44285a5a2283eb1b384f3a", func := "quittance/quittancelaw02.LeafPuts", spec := "leafPuts", unfollowed := true, recurses := true, apart := false }
def LeafPutsSaid : Prop := leafPutsRow.holds Try.pinned (OpenSpec.ofChange leafPutsSpec)

/-- ITS FALSE NEIGHBOUR: 'it returns false'. Refute it at one input. -/
def leafPutsWrong : ChangeSpec := { name := "leafPuts", fn := fun _ => fun
  | [d1, d2] => { results := [.lit (.bool false)], args := [d1, d2] }
  | _ => none }
def LeafPutsWrongFalsely : Prop := leafPutsRow.holds Try.pinned (OpenSpec.ofChange leafPutsWrong)

/-- 'quittancelaw02.LeafGets': WHATEVER THE INPUT: true; the input reads as it did. -/
def leafGetsSpec : ChangeSpec := { name := "leafGets", fn := fun _ => fun
  | [d] => { results := [.lit (.bool true)], args := [d] }
  | _ => none }
def leafGetsRow : OpenClaim := { program := "ytfelfllgieclbaa", sum := "63ba46d2adcf0b65a25994318683724e1b5257570e44285a5a2283eb1b384f3a", func := "quittance/quittancelaw02.LeafGets", spec := "leafGets", unfollowed := true, recurses := true, apart := false }
def LeafGetsSaid : Prop := leafGetsRow.holds Try.pinned (OpenSpec.ofChange leafGetsSpec)

/-- ITS FALSE NEIGHBOUR: 'it returns false'. Refute it at one input. -/
def leafGetsWrong : ChangeSpec := { name := "leafGets", fn := fun _ => fun
  | [d] => { results := [.lit (.bool false)], args := [d] }
  | _ => none }
def LeafGetsWrongFalsely : Prop := leafGetsRow.holds Try.pinned (OpenSpec.ofChange leafGetsWrong)

/-- 'quittancelaw02.LeafBack': WHATEVER THE INPUT: true; the input reads as it did. -/
def leafBackSpec : ChangeSpec := { name := "leafBack", fn := fun _ => fun
  | [d] => { results := [.lit (.bool true)], args := [d] }
  | _ => none }
def leafBackRow : OpenClaim := { program := "ytfelfllgieclbaa", sum := "63ba46d2adcf0b65a25994318683724e1b5257570e44285a5a2283eb1b384f3a", func := "quittance/quittancelaw02.LeafBack", spec := "leafBack", unfollowed := true, recurses := true, apart := false }
def LeafBackSaid : Prop := leafBackRow.holds Try.pinned (OpenSpec.ofChange leafBackSpec)

/-- ITS FALSE NEIGHBOUR: 'it returns false'. Refute it at one input. -/
def leafBackWrong : ChangeSpec := { name := "leafBack", fn := fun _ => fun
  | [d] => { results := [.lit (.bool false)], args := [d] }
  | _ => none }
def LeafBackWrongFalsely : Prop := leafBackRow.holds Try.pinned (OpenSpec.ofChange leafBackWrong)

/-- 'quittancelaw02.LeafTorn': WHATEVER THE INPUT: true; the input reads as it did. -/
def leafTornSpec : ChangeSpec := { name := "leafTorn", fn := fun _ => fun
  | [d] => { results := [.lit (.bool true)], args := [d] }
  | _ => none }
def leafTornRow : OpenClaim := { program := "ytfelfllgieclbaa", sum := "63ba46d2adcf0b65a25994318683724e1b5257570e44285a5a2283eb1b384f3a", func := "quittance/quittancelaw02.LeafTorn", spec := "leafTorn", unfollowed := true, recurses := true, apart := false }
def LeafTornSaid : Prop := leafTornRow.holds Try.pinned (OpenSpec.ofChange leafTornSpec)

/-- ITS FALSE NEIGHBOUR: 'it returns false'. Refute it at one input. -/
def leafTornWrong : ChangeSpec := { name := "leafTorn", fn := fun _ => fun
  | [d] => { results := [.lit (.bool false)], args := [d] }
  | _ => none }
def LeafTornWrongFalsely : Prop := leafTornRow.holds Try.pinned (OpenSpec.ofChange leafTornWrong)

/-- 'quittancelaw01.TallyTakes': WHATEVER THE INPUT: true; the input reads as it did. -/
def tallyTakesSpec : ChangeSpec := { name := "tallyTakes", fn := fun _ => fun
  | [d] => { results := [.lit (.bool true)], args := [d] }
  | _ => none }
def tallyTakesRow : OpenClaim := { program := "ytfelfllgieclbaa", sum := "63ba46d2adcf0b65a25994318683724e1b5257570e44285a5a2283eb1b384f3a", func := "quittance/quittancelaw01.TallyTakes", spec := "tallyTakes", unfollowed := true, recurses := true, apart := false }
def TallyTakesSaid : Prop := tallyTakesRow.holds Try.pinned (OpenSpec.ofChange tallyTakesSpec)

/-- ITS FALSE NEIGHBOUR: 'it returns false'. Refute it at one input. -/
def tallyTakesWrong : ChangeSpec := { name := "tallyTakes", fn := fun _ => fun
  | [d] => { results := [.lit (.bool false)], args := [d] }
  | _ => none }
def TallyTakesWrongFalsely : Prop := tallyTakesRow.holds Try.pinned (OpenSpec.ofChange tallyTakesWrong)

/-- 'quittancelaw01.TallyBack': WHATEVER THE INPUT: true; the input reads as it did. -/
def tallyBackSpec : ChangeSpec := { name := "tallyBack", fn := fun _ => fun
  | [d] => { results := [.lit (.bool true)], args := [d] }
  | _ => none }
def tallyBackRow : OpenClaim := { program := "ytfelfllgieclbaa", sum := "63ba46d2adcf0b65a25994318683724e1b5257570e44285a5a2283eb1b384f3a", func := "quittance/quittancelaw01.TallyBack", spec := "tallyBack", unfollowed := true, recurses := true, apart := false }
def TallyBackSaid : Prop := tallyBackRow.holds Try.pinned (OpenSpec.ofChange tallyBackSpec)

/-- ITS FALSE NEIGHBOUR: 'it returns false'. Refute it at one input. -/
def tallyBackWrong : ChangeSpec := { name := "tallyBack", fn := fun _ => fun
  | [d] => { results := [.lit (.bool false)], args := [d] }
  | _ => none }
def TallyBackWrongFalsely : Prop := tallyBackRow.holds Try.pinned (OpenSpec.ofChange tallyBackWrong)

/-- 'quittancelaw01.TallyOnce': WHATEVER THE INPUT: true; the input reads as it did. -/
def tallyOnceSpec : ChangeSpec := { name := "tallyOnce", fn := fun _ => fun
  | [d] => { results := [.lit (.bool true)], args := [d] }
  | _ => none }
def tallyOnceRow : OpenClaim := { program := "ytfelfllgieclbaa", sum := "63ba46d2adcf0b65a25994318683724e1b5257570e44285a5a2283eb1b384f3a", func := "quittance/quittancelaw01.TallyOnce", spec := "tallyOnce", unfollowed := true, recurses := true, apart := false }
def TallyOnceSaid : Prop := tallyOnceRow.holds Try.pinned (OpenSpec.ofChange tallyOnceSpec)

/-- ITS FALSE NEIGHBOUR: 'it returns false'. Refute it at one input. -/
def tallyOnceWrong : ChangeSpec := { name := "tallyOnce", fn := fun _ => fun
  | [d] => { results := [.lit (.bool false)], args := [d] }
  | _ => none }
def TallyOnceWrongFalsely : Prop := tallyOnceRow.holds Try.pinned (OpenSpec.ofChange tallyOnceWrong)

/-- 'quittancelaw01.TallyShort': WHATEVER THE INPUT: true; the input reads as it did. -/
def tallyShortSpec : ChangeSpec := { name := "tallyShort", fn := fun _ => fun
  | [d1, d2] => { results := [.lit (.bool true)], args := [d1, d2] }
  | _ => none }
def tallyShortRow : OpenClaim := { program := "ytfelfllgieclbaa", sum := "63ba46d2adcf0b65a25994318683724e1b5257570e44285a5a2283eb1b384f3a", func := "quittance/quittancelaw01.TallyShort", spec := "tallyShort", unfollowed := true, recurses := true, apart := false }
def TallyShortSaid : Prop := tallyShortRow.holds Try.pinned (OpenSpec.ofChange tallyShortSpec)

/-- ITS FALSE NEIGHBOUR: 'it returns false'. Refute it at one input. -/
def tallyShortWrong : ChangeSpec := { name := "tallyShort", fn := fun _ => fun
  | [d1, d2] => { results := [.lit (.bool false)], args := [d1, d2] }
  | _ => none }
def TallyShortWrongFalsely : Prop := tallyShortRow.holds Try.pinned (OpenSpec.ofChange tallyShortWrong)

/-- 'quittancelaw01.TallySides': WHATEVER THE INPUT: true; the input reads as it did. -/
def tallySidesSpec : ChangeSpec := { name := "tallySides", fn := fun _ => fun
  | [d1, d2, d3] => { results := [.lit (.bool true)], args := [d1, d2, d3] }
  | _ => none }
def tallySidesRow : OpenClaim := { program := "ytfelfllgieclbaa", sum := "63ba46d2adcf0b65a25994318683724e1b5257570e44285a5a2283eb1b384f3a", func := "quittance/quittancelaw01.TallySides", spec := "tallySides", unfollowed := true, recurses := true, apart := false }
def TallySidesSaid : Prop := tallySidesRow.holds Try.pinned (OpenSpec.ofChange tallySidesSpec)

/-- ITS FALSE NEIGHBOUR: 'it returns false'. Refute it at one input. -/
def tallySidesWrong : ChangeSpec := { name := "tallySides", fn := fun _ => fun
  | [d1, d2, d3] => { results := [.lit (.bool false)], args := [d1, d2, d3] }
  | _ => none }
def TallySidesWrongFalsely : Prop := tallySidesRow.holds Try.pinned (OpenSpec.ofChange tallySidesWrong)

/-- 'quittancelaw01.TallyPuts': WHATEVER THE INPUT: true; the input reads as it did. -/
def tallyPutsSpec : ChangeSpec := { name := "tallyPuts", fn := fun _ => fun
  | [d] => { results := [.lit (.bool true)], args := [d] }
  | _ => none }
def tallyPutsRow : OpenClaim := { program := "ytfelfllgieclbaa", sum := "63ba46d2adcf0b65a25994318683724e1b5257570e44285a5a2283eb1b384f3a", func := "quittance/quittancelaw01.TallyPuts", spec := "tallyPuts", unfollowed := true, recurses := true, apart := false }
def TallyPutsSaid : Prop := tallyPutsRow.holds Try.pinned (OpenSpec.ofChange tallyPutsSpec)

/-- ITS FALSE NEIGHBOUR: 'it returns false'. Refute it at one input. -/
def tallyPutsWrong : ChangeSpec := { name := "tallyPuts", fn := fun _ => fun
  | [d] => { results := [.lit (.bool false)], args := [d] }
  | _ => none }
def TallyPutsWrongFalsely : Prop := tallyPutsRow.holds Try.pinned (OpenSpec.ofChange tallyPutsWrong)

/-- 'quittancelaw03.DriveFuse': WHATEVER THE INPUT: true; the input reads as it did. -/
def driveFuseSpec : ChangeSpec := { name := "driveFuse", fn := fun _ => fun
  | [d1, d2] => { results := [.lit (.bool true)], args := [d1, d2] }
  | _ => none }
def driveFuseRow : OpenClaim := { program := "ytfelfllgieclbaa", sum := "63ba46d2adcf0b65a25994318683724e1b5257570e44285a5a2283eb1b384f3a", func := "quittance/quittancelaw03.DriveFuse", spec := "driveFuse", unfollowed := true, recurses := true, apart := false }
def DriveFuseSaid : Prop := driveFuseRow.holds Try.pinned (OpenSpec.ofChange driveFuseSpec)

/-- ITS FALSE NEIGHBOUR: 'it returns false'. Refute it at one input. -/
def driveFuseWrong : ChangeSpec := { name := "driveFuse", fn := fun _ => fun
  | [d1, d2] => { results := [.lit (.bool false)], args := [d1, d2] }
  | _ => none }
def DriveFuseWrongFalsely : Prop := driveFuseRow.holds Try.pinned (OpenSpec.ofChange driveFuseWrong)

/-- 'quittancelaw03.DriveSure': WHATEVER THE INPUT: true; the input reads as it did. -/
def driveSureSpec : ChangeSpec := { name := "driveSure", fn := fun _ => fun
  | [d1, d2, d3] => { results := [.lit (.bool true)], args := [d1, d2, d3] }
  | _ => none }
def driveSureRow : OpenClaim := { program := "ytfelfllgieclbaa", sum := "63ba46d2adcf0b65a25994318683724e1b5257570e44285a5a2283eb1b384f3a", func := "quittance/quittancelaw03.DriveSure", spec := "driveSure", unfollowed := true, recurses := true, apart := false }
def DriveSureSaid : Prop := driveSureRow.holds Try.pinned (OpenSpec.ofChange driveSureSpec)

/-- ITS FALSE NEIGHBOUR: 'it returns false'. Refute it at one input. -/
def driveSureWrong : ChangeSpec := { name := "driveSure", fn := fun _ => fun
  | [d1, d2, d3] => { results := [.lit (.bool false)], args := [d1, d2, d3] }
  | _ => none }
def DriveSureWrongFalsely : Prop := driveSureRow.holds Try.pinned (OpenSpec.ofChange driveSureWrong)

/-- 'quittancelaw03.DrivePlays': WHATEVER THE INPUT: true; the input reads as it did. -/
def drivePlaysSpec : ChangeSpec := { name := "drivePlays", fn := fun _ => fun
  | [d1, d2] => { results := [.lit (.bool true)], args := [d1, d2] }
  | _ => none }
def drivePlaysRow : OpenClaim := { program := "ytfelfllgieclbaa", sum := "63ba46d2adcf0b65a25994318683724e1b5257570e44285a5a2283eb1b384f3a", func := "quittance/quittancelaw03.DrivePlays", spec := "drivePlays", unfollowed := true, recurses := true, apart := false }
def DrivePlaysSaid : Prop := drivePlaysRow.holds Try.pinned (OpenSpec.ofChange drivePlaysSpec)

/-- ITS FALSE NEIGHBOUR: 'it returns false'. Refute it at one input. -/
def drivePlaysWrong : ChangeSpec := { name := "drivePlays", fn := fun _ => fun
  | [d1, d2] => { results := [.lit (.bool false)], args := [d1, d2] }
  | _ => none }
def DrivePlaysWrongFalsely : Prop := drivePlaysRow.holds Try.pinned (OpenSpec.ofChange drivePlaysWrong)

/-- 'quittancelaw04.SheafPuts': WHATEVER THE INPUT: true; the input reads as it did. -/
def sheafPutsSpec : ChangeSpec := { name := "sheafPuts", fn := fun _ => fun
  | [d1, d2, d3] => { results := [.lit (.bool true)], args := [d1, d2, d3] }
  | _ => none }
def sheafPutsRow : OpenClaim := { program := "ytfelfllgieclbaa", sum := "63ba46d2adcf0b65a25994318683724e1b5257570e44285a5a2283eb1b384f3a", func := "quittance/quittancelaw04.SheafPuts", spec := "sheafPuts", unfollowed := true, recurses := true, apart := false }
def SheafPutsSaid : Prop := sheafPutsRow.holds Try.pinned (OpenSpec.ofChange sheafPutsSpec)

/-- ITS FALSE NEIGHBOUR: 'it returns false'. Refute it at one input. -/
def sheafPutsWrong : ChangeSpec := { name := "sheafPuts", fn := fun _ => fun
  | [d1, d2, d3] => { results := [.lit (.bool false)], args := [d1, d2, d3] }
  | _ => none }
def SheafPutsWrongFalsely : Prop := sheafPutsRow.holds Try.pinned (OpenSpec.ofChange sheafPutsWrong)

/-- 'quittancelaw04.SheafGets': WHATEVER THE INPUT: true; the input reads as it did. -/
def sheafGetsSpec : ChangeSpec := { name := "sheafGets", fn := fun _ => fun
  | [d] => { results := [.lit (.bool true)], args := [d] }
  | _ => none }
def sheafGetsRow : OpenClaim := { program := "ytfelfllgieclbaa", sum := "63ba46d2adcf0b65a25994318683724e1b5257570e44285a5a2283eb1b384f3a", func := "quittance/quittancelaw04.SheafGets", spec := "sheafGets", unfollowed := true, recurses := true, apart := false }
def SheafGetsSaid : Prop := sheafGetsRow.holds Try.pinned (OpenSpec.ofChange sheafGetsSpec)

/-- ITS FALSE NEIGHBOUR: 'it returns false'. Refute it at one input. -/
def sheafGetsWrong : ChangeSpec := { name := "sheafGets", fn := fun _ => fun
  | [d] => { results := [.lit (.bool false)], args := [d] }
  | _ => none }
def SheafGetsWrongFalsely : Prop := sheafGetsRow.holds Try.pinned (OpenSpec.ofChange sheafGetsWrong)

/-- 'quittancelaw04.SheafBack': WHATEVER THE INPUT: true; the input reads as it did. -/
def sheafBackSpec : ChangeSpec := { name := "sheafBack", fn := fun _ => fun
  | [d1, d2, d3] => { results := [.lit (.bool true)], args := [d1, d2, d3] }
  | _ => none }
def sheafBackRow : OpenClaim := { program := "ytfelfllgieclbaa", sum := "63ba46d2adcf0b65a25994318683724e1b5257570e44285a5a2283eb1b384f3a", func := "quittance/quittancelaw04.SheafBack", spec := "sheafBack", unfollowed := true, recurses := true, apart := false }
def SheafBackSaid : Prop := sheafBackRow.holds Try.pinned (OpenSpec.ofChange sheafBackSpec)

/-- ITS FALSE NEIGHBOUR: 'it returns false'. Refute it at one input. -/
def sheafBackWrong : ChangeSpec := { name := "sheafBack", fn := fun _ => fun
  | [d1, d2, d3] => { results := [.lit (.bool false)], args := [d1, d2, d3] }
  | _ => none }
def SheafBackWrongFalsely : Prop := sheafBackRow.holds Try.pinned (OpenSpec.ofChange sheafBackWrong)

/-- 'quittancelaw04.SheafTorn': WHATEVER THE INPUT: true; the input reads as it did. -/
def sheafTornSpec : ChangeSpec := { name := "sheafTorn", fn := fun _ => fun
  | [d] => { results := [.lit (.bool true)], args := [d] }
  | _ => none }
def sheafTornRow : OpenClaim := { program := "ytfelfllgieclbaa", sum := "63ba46d2adcf0b65a25994318683724e1b5257570e44285a5a2283eb1b384f3a", func := "quittance/quittancelaw04.SheafTorn", spec := "sheafTorn", unfollowed := true, recurses := true, apart := false }
def SheafTornSaid : Prop := sheafTornRow.holds Try.pinned (OpenSpec.ofChange sheafTornSpec)

/-- ITS FALSE NEIGHBOUR: 'it returns false'. Refute it at one input. -/
def sheafTornWrong : ChangeSpec := { name := "sheafTorn", fn := fun _ => fun
  | [d] => { results := [.lit (.bool false)], args := [d] }
  | _ => none }
def SheafTornWrongFalsely : Prop := sheafTornRow.holds Try.pinned (OpenSpec.ofChange sheafTornWrong)

/-- 'quittancelaw05.RowOpens': WHATEVER THE INPUT: true; the input reads as it did. -/
def rowOpensSpec : ChangeSpec := { name := "rowOpens", fn := fun _ => fun
  | [d1, d2, d3] => { results := [.lit (.bool true)], args := [d1, d2, d3] }
  | _ => none }
def rowOpensRow : OpenClaim := { program := "ytfelfllgieclbaa", sum := "63ba46d2adcf0b65a25994318683724e1b5257570e44285a5a2283eb1b384f3a", func := "quittance/quittancelaw05.RowOpens", spec := "rowOpens", unfollowed := true, recurses := true, apart := false }
def RowOpensSaid : Prop := rowOpensRow.holds Try.pinned (OpenSpec.ofChange rowOpensSpec)

/-- ITS FALSE NEIGHBOUR: 'it returns false'. Refute it at one input. -/
def rowOpensWrong : ChangeSpec := { name := "rowOpens", fn := fun _ => fun
  | [d1, d2, d3] => { results := [.lit (.bool false)], args := [d1, d2, d3] }
  | _ => none }
def RowOpensWrongFalsely : Prop := rowOpensRow.holds Try.pinned (OpenSpec.ofChange rowOpensWrong)

/-- 'quittancelaw05.RowTells': WHATEVER THE INPUT: true; the input reads as it did. -/
def rowTellsSpec : ChangeSpec := { name := "rowTells", fn := fun _ => fun
  | [d1, d2, d3] => { results := [.lit (.bool true)], args := [d1, d2, d3] }
  | _ => none }
def rowTellsRow : OpenClaim := { program := "ytfelfllgieclbaa", sum := "63ba46d2adcf0b65a25994318683724e1b5257570e44285a5a2283eb1b384f3a", func := "quittance/quittancelaw05.RowTells", spec := "rowTells", unfollowed := true, recurses := true, apart := false }
def RowTellsSaid : Prop := rowTellsRow.holds Try.pinned (OpenSpec.ofChange rowTellsSpec)

/-- ITS FALSE NEIGHBOUR: 'it returns false'. Refute it at one input. -/
def rowTellsWrong : ChangeSpec := { name := "rowTells", fn := fun _ => fun
  | [d1, d2, d3] => { results := [.lit (.bool false)], args := [d1, d2, d3] }
  | _ => none }
def RowTellsWrongFalsely : Prop := rowTellsRow.holds Try.pinned (OpenSpec.ofChange rowTellsWrong)

/-- 'quittancelaw05.RowFails': WHATEVER THE INPUT: true; the input reads as it did. -/
def rowFailsSpec : ChangeSpec := { name := "rowFails", fn := fun _ => fun
  | [d1, d2] => { results := [.lit (.bool true)], args := [d1, d2] }
  | _ => none }
def rowFailsRow : OpenClaim := { program := "ytfelfllgieclbaa", sum := "63ba46d2adcf0b65a25994318683724e1b5257570e44285a5a2283eb1b384f3a", func := "quittance/quittancelaw05.RowFails", spec := "rowFails", unfollowed := true, recurses := true, apart := false }
def RowFailsSaid : Prop := rowFailsRow.holds Try.pinned (OpenSpec.ofChange rowFailsSpec)

/-- ITS FALSE NEIGHBOUR: 'it returns false'. Refute it at one input. -/
def rowFailsWrong : ChangeSpec := { name := "rowFails", fn := fun _ => fun
  | [d1, d2] => { results := [.lit (.bool false)], args := [d1, d2] }
  | _ => none }
def RowFailsWrongFalsely : Prop := rowFailsRow.holds Try.pinned (OpenSpec.ofChange rowFailsWrong)

/-- 'quittancelaw06.WalOpens': WHATEVER THE INPUT: true; the input reads as it did. -/
def walOpensSpec : ChangeSpec := { name := "walOpens", fn := fun _ => fun
  | [d1, d2, d3] => { results := [.lit (.bool true)], args := [d1, d2, d3] }
  | _ => none }
def walOpensRow : OpenClaim := { program := "ytfelfllgieclbaa", sum := "63ba46d2adcf0b65a25994318683724e1b5257570e44285a5a2283eb1b384f3a", func := "quittance/quittancelaw06.WalOpens", spec := "walOpens", unfollowed := true, recurses := true, apart := false }
def WalOpensSaid : Prop := walOpensRow.holds Try.pinned (OpenSpec.ofChange walOpensSpec)

/-- ITS FALSE NEIGHBOUR: 'it returns false'. Refute it at one input. -/
def walOpensWrong : ChangeSpec := { name := "walOpens", fn := fun _ => fun
  | [d1, d2, d3] => { results := [.lit (.bool false)], args := [d1, d2, d3] }
  | _ => none }
def WalOpensWrongFalsely : Prop := walOpensRow.holds Try.pinned (OpenSpec.ofChange walOpensWrong)

/-- 'quittancelaw06.WalFails': WHATEVER THE INPUT: true; the input reads as it did. -/
def walFailsSpec : ChangeSpec := { name := "walFails", fn := fun _ => fun
  | [d1, d2] => { results := [.lit (.bool true)], args := [d1, d2] }
  | _ => none }
def walFailsRow : OpenClaim := { program := "ytfelfllgieclbaa", sum := "63ba46d2adcf0b65a25994318683724e1b5257570e44285a5a2283eb1b384f3a", func := "quittance/quittancelaw06.WalFails", spec := "walFails", unfollowed := true, recurses := true, apart := false }
def WalFailsSaid : Prop := walFailsRow.holds Try.pinned (OpenSpec.ofChange walFailsSpec)

/-- ITS FALSE NEIGHBOUR: 'it returns false'. Refute it at one input. -/
def walFailsWrong : ChangeSpec := { name := "walFails", fn := fun _ => fun
  | [d1, d2] => { results := [.lit (.bool false)], args := [d1, d2] }
  | _ => none }
def WalFailsWrongFalsely : Prop := walFailsRow.holds Try.pinned (OpenSpec.ofChange walFailsWrong)

/- THE SECOND FORM. 'bulk': how many values and letters a reading holds, each counted each time it is reached (what is shared counts as often as it is met; a slice's spare places count too). A statement '..UptoSaid' is the law's where the arguments, and the package variables that the reading takes, are together of bulk at most 1048576: NARROWER than '..Said'. Prove '..Said' where nothing that the law and all that it calls make is longer than what came in: it says more and counts as full. Else prove '..UptoSaid'. A law counts once. -/
mutual
def uptoBulk {H : Type} : DataW H → Nat
  | .lit (.string bytes) => bytes.length + 1
  | .lit _ => 1
  | .nil => 1
  | .ptr d => uptoBulk d + 1
  | .slice elems spare => uptoBulkAll elems + uptoBulkAll spare + 1
  | .agg parts => uptoBulkAll parts + 1
  | .iface _ d => uptoBulk d + 1
  | .map entries => uptoBulkEntries entries + 1
  | .held _ => 1
def uptoBulkAll {H : Type} : List (DataW H) → Nat
  | [] => 0
  | d :: r => uptoBulk d + uptoBulkAll r
def uptoBulkEntries {H : Type} : List (Lit × DataW H) → Nat
  | [] => 0
  | x :: r => uptoBulkEntry x + uptoBulkEntries r
def uptoBulkEntry {H : Type} : Lit × DataW H → Nat
  | (.string bytes, d) => bytes.length + uptoBulk d + 1
  | (_, d) => uptoBulk d + 1
 end
def uptoSmall : (H : Type) → List (DataW H) → Bool := fun _ ds => decide (uptoBulkAll ds ≤ 1048576)
def OpenSpec.upto (s : _root_.Go.ChangeSpec) : _root_.Go.OpenSpec := { _root_.Go.OpenSpec.ofChange s with cond := some uptoSmall }

/-- 'quittancelaw02.LeafPuts', WHERE WHAT IT READS IS OF BULK AT MOST 1048576: true; the input reads as it did. -/
def leafPutsUptoRow : OpenClaim := { program := "ytfelfllgieclbaa", sum := "63ba46d2adcf0b65a25994318683724e1b5257570e44285a5a2283eb1b384f3a", func := "quittance/quittancelaw02.LeafPuts", spec := "leafPuts", unfollowed := true, recurses := true, apart := false, narrowed := true }
def LeafPutsUptoSaid : Prop := leafPutsUptoRow.holds Try.pinned (OpenSpec.upto leafPutsSpec)

/-- 'quittancelaw02.LeafGets', WHERE WHAT IT READS IS OF BULK AT MOST 1048576: true; the input reads as it did. -/
def leafGetsUptoRow : OpenClaim := { program := "ytfelfllgieclbaa", sum := "63ba46d2adcf0b65a25994318683724e1b5257570e44285a5a2283eb1b384f3a", func := "quittance/quittancelaw02.LeafGets", spec := "leafGets", unfollowed := true, recurses := true, apart := false, narrowed := true }
def LeafGetsUptoSaid : Prop := leafGetsUptoRow.holds Try.pinned (OpenSpec.upto leafGetsSpec)

/-- 'quittancelaw02.LeafBack', WHERE WHAT IT READS IS OF BULK AT MOST 1048576: true; the input reads as it did. -/
def leafBackUptoRow : OpenClaim := { program := "ytfelfllgieclbaa", sum := "63ba46d2adcf0b65a25994318683724e1b5257570e44285a5a2283eb1b384f3a", func := "quittance/quittancelaw02.LeafBack", spec := "leafBack", unfollowed := true, recurses := true, apart := false, narrowed := true }
def LeafBackUptoSaid : Prop := leafBackUptoRow.holds Try.pinned (OpenSpec.upto leafBackSpec)

/-- 'quittancelaw02.LeafTorn', WHERE WHAT IT READS IS OF BULK AT MOST 1048576: true; the input reads as it did. -/
def leafTornUptoRow : OpenClaim := { program := "ytfelfllgieclbaa", sum := "63ba46d2adcf0b65a25994318683724e1b5257570e44285a5a2283eb1b384f3a", func := "quittance/quittancelaw02.LeafTorn", spec := "leafTorn", unfollowed := true, recurses := true, apart := false, narrowed := true }
def LeafTornUptoSaid : Prop := leafTornUptoRow.holds Try.pinned (OpenSpec.upto leafTornSpec)

/-- 'quittancelaw01.TallyTakes', WHERE WHAT IT READS IS OF BULK AT MOST 1048576: true; the input reads as it did. -/
def tallyTakesUptoRow : OpenClaim := { program := "ytfelfllgieclbaa", sum := "63ba46d2adcf0b65a25994318683724e1b5257570e44285a5a2283eb1b384f3a", func := "quittance/quittancelaw01.TallyTakes", spec := "tallyTakes", unfollowed := true, recurses := true, apart := false, narrowed := true }
def TallyTakesUptoSaid : Prop := tallyTakesUptoRow.holds Try.pinned (OpenSpec.upto tallyTakesSpec)

/-- 'quittancelaw01.TallyBack', WHERE WHAT IT READS IS OF BULK AT MOST 1048576: true; the input reads as it did. -/
def tallyBackUptoRow : OpenClaim := { program := "ytfelfllgieclbaa", sum := "63ba46d2adcf0b65a25994318683724e1b5257570e44285a5a2283eb1b384f3a", func := "quittance/quittancelaw01.TallyBack", spec := "tallyBack", unfollowed := true, recurses := true, apart := false, narrowed := true }
def TallyBackUptoSaid : Prop := tallyBackUptoRow.holds Try.pinned (OpenSpec.upto tallyBackSpec)

/-- 'quittancelaw01.TallyOnce', WHERE WHAT IT READS IS OF BULK AT MOST 1048576: true; the input reads as it did. -/
def tallyOnceUptoRow : OpenClaim := { program := "ytfelfllgieclbaa", sum := "63ba46d2adcf0b65a25994318683724e1b5257570e44285a5a2283eb1b384f3a", func := "quittance/quittancelaw01.TallyOnce", spec := "tallyOnce", unfollowed := true, recurses := true, apart := false, narrowed := true }
def TallyOnceUptoSaid : Prop := tallyOnceUptoRow.holds Try.pinned (OpenSpec.upto tallyOnceSpec)

/-- 'quittancelaw01.TallyShort', WHERE WHAT IT READS IS OF BULK AT MOST 1048576: true; the input reads as it did. -/
def tallyShortUptoRow : OpenClaim := { program := "ytfelfllgieclbaa", sum := "63ba46d2adcf0b65a25994318683724e1b5257570e44285a5a2283eb1b384f3a", func := "quittance/quittancelaw01.TallyShort", spec := "tallyShort", unfollowed := true, recurses := true, apart := false, narrowed := true }
def TallyShortUptoSaid : Prop := tallyShortUptoRow.holds Try.pinned (OpenSpec.upto tallyShortSpec)

/-- 'quittancelaw01.TallySides', WHERE WHAT IT READS IS OF BULK AT MOST 1048576: true; the input reads as it did. -/
def tallySidesUptoRow : OpenClaim := { program := "ytfelfllgieclbaa", sum := "63ba46d2adcf0b65a25994318683724e1b5257570e44285a5a2283eb1b384f3a", func := "quittance/quittancelaw01.TallySides", spec := "tallySides", unfollowed := true, recurses := true, apart := false, narrowed := true }
def TallySidesUptoSaid : Prop := tallySidesUptoRow.holds Try.pinned (OpenSpec.upto tallySidesSpec)

/-- 'quittancelaw01.TallyPuts', WHERE WHAT IT READS IS OF BULK AT MOST 1048576: true; the input reads as it did. -/
def tallyPutsUptoRow : OpenClaim := { program := "ytfelfllgieclbaa", sum := "63ba46d2adcf0b65a25994318683724e1b5257570e44285a5a2283eb1b384f3a", func := "quittance/quittancelaw01.TallyPuts", spec := "tallyPuts", unfollowed := true, recurses := true, apart := false, narrowed := true }
def TallyPutsUptoSaid : Prop := tallyPutsUptoRow.holds Try.pinned (OpenSpec.upto tallyPutsSpec)

/-- 'quittancelaw03.DriveFuse', WHERE WHAT IT READS IS OF BULK AT MOST 1048576: true; the input reads as it did. -/
def driveFuseUptoRow : OpenClaim := { program := "ytfelfllgieclbaa", sum := "63ba46d2adcf0b65a25994318683724e1b5257570e44285a5a2283eb1b384f3a", func := "quittance/quittancelaw03.DriveFuse", spec := "driveFuse", unfollowed := true, recurses := true, apart := false, narrowed := true }
def DriveFuseUptoSaid : Prop := driveFuseUptoRow.holds Try.pinned (OpenSpec.upto driveFuseSpec)

/-- 'quittancelaw03.DriveSure', WHERE WHAT IT READS IS OF BULK AT MOST 1048576: true; the input reads as it did. -/
def driveSureUptoRow : OpenClaim := { program := "ytfelfllgieclbaa", sum := "63ba46d2adcf0b65a25994318683724e1b5257570e44285a5a2283eb1b384f3a", func := "quittance/quittancelaw03.DriveSure", spec := "driveSure", unfollowed := true, recurses := true, apart := false, narrowed := true }
def DriveSureUptoSaid : Prop := driveSureUptoRow.holds Try.pinned (OpenSpec.upto driveSureSpec)

/-- 'quittancelaw03.DrivePlays', WHERE WHAT IT READS IS OF BULK AT MOST 1048576: true; the input reads as it did. -/
def drivePlaysUptoRow : OpenClaim := { program := "ytfelfllgieclbaa", sum := "63ba46d2adcf0b65a25994318683724e1b5257570e44285a5a2283eb1b384f3a", func := "quittance/quittancelaw03.DrivePlays", spec := "drivePlays", unfollowed := true, recurses := true, apart := false, narrowed := true }
def DrivePlaysUptoSaid : Prop := drivePlaysUptoRow.holds Try.pinned (OpenSpec.upto drivePlaysSpec)

/-- 'quittancelaw04.SheafPuts', WHERE WHAT IT READS IS OF BULK AT MOST 1048576: true; the input reads as it did. -/
def sheafPutsUptoRow : OpenClaim := { program := "ytfelfllgieclbaa", sum := "63ba46d2adcf0b65a25994318683724e1b5257570e44285a5a2283eb1b384f3a", func := "quittance/quittancelaw04.SheafPuts", spec := "sheafPuts", unfollowed := true, recurses := true, apart := false, narrowed := true }
def SheafPutsUptoSaid : Prop := sheafPutsUptoRow.holds Try.pinned (OpenSpec.upto sheafPutsSpec)

/-- 'quittancelaw04.SheafGets', WHERE WHAT IT READS IS OF BULK AT MOST 1048576: true; the input reads as it did. -/
def sheafGetsUptoRow : OpenClaim := { program := "ytfelfllgieclbaa", sum := "63ba46d2adcf0b65a25994318683724e1b5257570e44285a5a2283eb1b384f3a", func := "quittance/quittancelaw04.SheafGets", spec := "sheafGets", unfollowed := true, recurses := true, apart := false, narrowed := true }
def SheafGetsUptoSaid : Prop := sheafGetsUptoRow.holds Try.pinned (OpenSpec.upto sheafGetsSpec)

/-- 'quittancelaw04.SheafBack', WHERE WHAT IT READS IS OF BULK AT MOST 1048576: true; the input reads as it did. -/
def sheafBackUptoRow : OpenClaim := { program := "ytfelfllgieclbaa", sum := "63ba46d2adcf0b65a25994318683724e1b5257570e44285a5a2283eb1b384f3a", func := "quittance/quittancelaw04.SheafBack", spec := "sheafBack", unfollowed := true, recurses := true, apart := false, narrowed := true }
def SheafBackUptoSaid : Prop := sheafBackUptoRow.holds Try.pinned (OpenSpec.upto sheafBackSpec)

/-- 'quittancelaw04.SheafTorn', WHERE WHAT IT READS IS OF BULK AT MOST 1048576: true; the input reads as it did. -/
def sheafTornUptoRow : OpenClaim := { program := "ytfelfllgieclbaa", sum := "63ba46d2adcf0b65a25994318683724e1b5257570e44285a5a2283eb1b384f3a", func := "quittance/quittancelaw04.SheafTorn", spec := "sheafTorn", unfollowed := true, recurses := true, apart := false, narrowed := true }
def SheafTornUptoSaid : Prop := sheafTornUptoRow.holds Try.pinned (OpenSpec.upto sheafTornSpec)

/-- 'quittancelaw05.RowOpens', WHERE WHAT IT READS IS OF BULK AT MOST 1048576: true; the input reads as it did. -/
def rowOpensUptoRow : OpenClaim := { program := "ytfelfllgieclbaa", sum := "63ba46d2adcf0b65a25994318683724e1b5257570e44285a5a2283eb1b384f3a", func := "quittance/quittancelaw05.RowOpens", spec := "rowOpens", unfollowed := true, recurses := true, apart := false, narrowed := true }
def RowOpensUptoSaid : Prop := rowOpensUptoRow.holds Try.pinned (OpenSpec.upto rowOpensSpec)

/-- 'quittancelaw05.RowTells', WHERE WHAT IT READS IS OF BULK AT MOST 1048576: true; the input reads as it did. -/
def rowTellsUptoRow : OpenClaim := { program := "ytfelfllgieclbaa", sum := "63ba46d2adcf0b65a25994318683724e1b5257570e44285a5a2283eb1b384f3a", func := "quittance/quittancelaw05.RowTells", spec := "rowTells", unfollowed := true, recurses := true, apart := false, narrowed := true }
def RowTellsUptoSaid : Prop := rowTellsUptoRow.holds Try.pinned (OpenSpec.upto rowTellsSpec)

/-- 'quittancelaw05.RowFails', WHERE WHAT IT READS IS OF BULK AT MOST 1048576: true; the input reads as it did. -/
def rowFailsUptoRow : OpenClaim := { program := "ytfelfllgieclbaa", sum := "63ba46d2adcf0b65a25994318683724e1b5257570e44285a5a2283eb1b384f3a", func := "quittance/quittancelaw05.RowFails", spec := "rowFails", unfollowed := true, recurses := true, apart := false, narrowed := true }
def RowFailsUptoSaid : Prop := rowFailsUptoRow.holds Try.pinned (OpenSpec.upto rowFailsSpec)

/-- 'quittancelaw06.WalOpens', WHERE WHAT IT READS IS OF BULK AT MOST 1048576: true; the input reads as it did. -/
def walOpensUptoRow : OpenClaim := { program := "ytfelfllgieclbaa", sum := "63ba46d2adcf0b65a25994318683724e1b5257570e44285a5a2283eb1b384f3a", func := "quittance/quittancelaw06.WalOpens", spec := "walOpens", unfollowed := true, recurses := true, apart := false, narrowed := true }
def WalOpensUptoSaid : Prop := walOpensUptoRow.holds Try.pinned (OpenSpec.upto walOpensSpec)

/-- 'quittancelaw06.WalFails', WHERE WHAT IT READS IS OF BULK AT MOST 1048576: true; the input reads as it did. -/
def walFailsUptoRow : OpenClaim := { program := "ytfelfllgieclbaa", sum := "63ba46d2adcf0b65a25994318683724e1b5257570e44285a5a2283eb1b384f3a", func := "quittance/quittancelaw06.WalFails", spec := "walFails", unfollowed := true, recurses := true, apart := false, narrowed := true }
def WalFailsUptoSaid : Prop := walFailsUptoRow.holds Try.pinned (OpenSpec.upto walFailsSpec)

end Rows
end Go.Proofs.Ytfelfllgieclbaa
