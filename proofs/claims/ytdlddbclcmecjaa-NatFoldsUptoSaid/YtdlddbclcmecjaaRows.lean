/-
  No cell of these rows narrows 'for every input' (looked for: loops, veiled, ifaces, maps, wideKeys, modest, calm, conditions, laid).
  DERIVED. THE GIVEN ROWS OF THIS SEAT. 19 by the template 'for every input the law returns true; each argument reads behind the call as it read before'; 0 by the template 'total and deterministic' (their statements: YtdlddbclcmecjaaTotals.lean).
  GIVEN WITH THE SEED: the statements are not yours to turn. If you find one false, say at which input.
  Laid BY PROGRAM, IN A SANDBOX (cutbox-rows.mjs): the forced cells as the released guide's own fill.sh prints them over the translation 399bdfcc742ae2d5… (all of the seat's roots in one cut). By AI agents, Wed Nov 11 2026. No macro, syntax, notation, axiom, sorry.
-/
import Derived.Test.YtdlddbclcmecjaaChecked
import GoSem.Claim
import GoSem.ClaimJoined
import GoSem.ClaimMapViews
import Derived.JoinedTies
import Derived.KernelRfl
namespace Go.Proofs.Ytdlddbclcmecjaa
/- THE CELL 'sum', in the pinned program and in every row, IS THE sha256 OF THE DUMP (.gsa) THAT YtdlddbclcmecjaaProg.lean LOADS. Nothing in Lean hashes anything: it is a label: what it is worth is what the hold of that sum in a sandbox is worth. -/
noncomputable def Try.pinned : Pinned := { name := "ytdlddbclcmecjaa", sum := "399bdfcc742ae2d5257a4c0692c534fa0f6402bccd08f94fad8629af4dbaa127", checked := Try.checked }
namespace Rows
def none {H : Type} : Left H := { results := [], args := [] }

/-- 'slopelaw1.NatFrom': WHATEVER THE INPUT: true; the input reads as it did. -/
def natFromSpec : ChangeSpec := { name := "natFrom", fn := fun _ => fun
  | [d] => { results := [.lit (.bool true)], args := [d] }
  | _ => none }
def natFromRow : OpenClaim := { program := "ytdlddbclcmecjaa", sum := "399bdfcc742ae2d5257a4c0692c534fa0f6402bccd08f94fad8629af4dbaa127", func := "slope/slopelaw1.NatFrom", spec := "natFrom", apart := false }
def NatFromSaid : Prop := natFromRow.holds Try.pinned (OpenSpec.ofChange natFromSpec)

/-- ITS FALSE NEIGHBOUR: 'it returns false'. Refute it at one input. -/
def natFromWrong : ChangeSpec := { name := "natFrom", fn := fun _ => fun
  | [d] => { results := [.lit (.bool false)], args := [d] }
  | _ => none }
def NatFromWrongFalsely : Prop := natFromRow.holds Try.pinned (OpenSpec.ofChange natFromWrong)

/-- 'slopelaw1.NatBytes': WHATEVER THE INPUT: true; the input reads as it did. -/
def natBytesSpec : ChangeSpec := { name := "natBytes", fn := fun _ => fun
  | [d1, d2] => { results := [.lit (.bool true)], args := [d1, d2] }
  | _ => none }
def natBytesRow : OpenClaim := { program := "ytdlddbclcmecjaa", sum := "399bdfcc742ae2d5257a4c0692c534fa0f6402bccd08f94fad8629af4dbaa127", func := "slope/slopelaw1.NatBytes", spec := "natBytes", apart := false }
def NatBytesSaid : Prop := natBytesRow.holds Try.pinned (OpenSpec.ofChange natBytesSpec)

/-- ITS FALSE NEIGHBOUR: 'it returns false'. Refute it at one input. -/
def natBytesWrong : ChangeSpec := { name := "natBytes", fn := fun _ => fun
  | [d1, d2] => { results := [.lit (.bool false)], args := [d1, d2] }
  | _ => none }
def NatBytesWrongFalsely : Prop := natBytesRow.holds Try.pinned (OpenSpec.ofChange natBytesWrong)

/-- 'slopelaw1.NatPrints': WHATEVER THE INPUT: true; the input reads as it did. -/
def natPrintsSpec : ChangeSpec := { name := "natPrints", fn := fun _ => fun
  | [d1, d2] => { results := [.lit (.bool true)], args := [d1, d2] }
  | _ => none }
def natPrintsRow : OpenClaim := { program := "ytdlddbclcmecjaa", sum := "399bdfcc742ae2d5257a4c0692c534fa0f6402bccd08f94fad8629af4dbaa127", func := "slope/slopelaw1.NatPrints", spec := "natPrints", apart := false }
def NatPrintsSaid : Prop := natPrintsRow.holds Try.pinned (OpenSpec.ofChange natPrintsSpec)

/-- ITS FALSE NEIGHBOUR: 'it returns false'. Refute it at one input. -/
def natPrintsWrong : ChangeSpec := { name := "natPrints", fn := fun _ => fun
  | [d1, d2] => { results := [.lit (.bool false)], args := [d1, d2] }
  | _ => none }
def NatPrintsWrongFalsely : Prop := natPrintsRow.holds Try.pinned (OpenSpec.ofChange natPrintsWrong)

/-- 'slopelaw1.NatParses': WHATEVER THE INPUT: true; the input reads as it did. -/
def natParsesSpec : ChangeSpec := { name := "natParses", fn := fun _ => fun
  | [d1, d2] => { results := [.lit (.bool true)], args := [d1, d2] }
  | _ => none }
def natParsesRow : OpenClaim := { program := "ytdlddbclcmecjaa", sum := "399bdfcc742ae2d5257a4c0692c534fa0f6402bccd08f94fad8629af4dbaa127", func := "slope/slopelaw1.NatParses", spec := "natParses", apart := false }
def NatParsesSaid : Prop := natParsesRow.holds Try.pinned (OpenSpec.ofChange natParsesSpec)

/-- ITS FALSE NEIGHBOUR: 'it returns false'. Refute it at one input. -/
def natParsesWrong : ChangeSpec := { name := "natParses", fn := fun _ => fun
  | [d1, d2] => { results := [.lit (.bool false)], args := [d1, d2] }
  | _ => none }
def NatParsesWrongFalsely : Prop := natParsesRow.holds Try.pinned (OpenSpec.ofChange natParsesWrong)

/-- 'slopelaw1.NatAdds': WHATEVER THE INPUT: true; the input reads as it did. -/
def natAddsSpec : ChangeSpec := { name := "natAdds", fn := fun _ => fun
  | [d1, d2] => { results := [.lit (.bool true)], args := [d1, d2] }
  | _ => none }
def natAddsRow : OpenClaim := { program := "ytdlddbclcmecjaa", sum := "399bdfcc742ae2d5257a4c0692c534fa0f6402bccd08f94fad8629af4dbaa127", func := "slope/slopelaw1.NatAdds", spec := "natAdds", apart := false }
def NatAddsSaid : Prop := natAddsRow.holds Try.pinned (OpenSpec.ofChange natAddsSpec)

/-- ITS FALSE NEIGHBOUR: 'it returns false'. Refute it at one input. -/
def natAddsWrong : ChangeSpec := { name := "natAdds", fn := fun _ => fun
  | [d1, d2] => { results := [.lit (.bool false)], args := [d1, d2] }
  | _ => none }
def NatAddsWrongFalsely : Prop := natAddsRow.holds Try.pinned (OpenSpec.ofChange natAddsWrong)

/-- 'slopelaw1.NatMultiplies': WHATEVER THE INPUT: true; the input reads as it did. -/
def natMultipliesSpec : ChangeSpec := { name := "natMultiplies", fn := fun _ => fun
  | [d1, d2] => { results := [.lit (.bool true)], args := [d1, d2] }
  | _ => none }
def natMultipliesRow : OpenClaim := { program := "ytdlddbclcmecjaa", sum := "399bdfcc742ae2d5257a4c0692c534fa0f6402bccd08f94fad8629af4dbaa127", func := "slope/slopelaw1.NatMultiplies", spec := "natMultiplies", recurses := true, apart := false }
def NatMultipliesSaid : Prop := natMultipliesRow.holds Try.pinned (OpenSpec.ofChange natMultipliesSpec)

/-- ITS FALSE NEIGHBOUR: 'it returns false'. Refute it at one input. -/
def natMultipliesWrong : ChangeSpec := { name := "natMultiplies", fn := fun _ => fun
  | [d1, d2] => { results := [.lit (.bool false)], args := [d1, d2] }
  | _ => none }
def NatMultipliesWrongFalsely : Prop := natMultipliesRow.holds Try.pinned (OpenSpec.ofChange natMultipliesWrong)

/-- 'slopelaw1.NatRing': WHATEVER THE INPUT: true; the input reads as it did. -/
def natRingSpec : ChangeSpec := { name := "natRing", fn := fun _ => fun
  | [d1, d2, d3] => { results := [.lit (.bool true)], args := [d1, d2, d3] }
  | _ => none }
def natRingRow : OpenClaim := { program := "ytdlddbclcmecjaa", sum := "399bdfcc742ae2d5257a4c0692c534fa0f6402bccd08f94fad8629af4dbaa127", func := "slope/slopelaw1.NatRing", spec := "natRing", recurses := true, apart := false }
def NatRingSaid : Prop := natRingRow.holds Try.pinned (OpenSpec.ofChange natRingSpec)

/-- ITS FALSE NEIGHBOUR: 'it returns false'. Refute it at one input. -/
def natRingWrong : ChangeSpec := { name := "natRing", fn := fun _ => fun
  | [d1, d2, d3] => { results := [.lit (.bool false)], args := [d1, d2, d3] }
  | _ => none }
def NatRingWrongFalsely : Prop := natRingRow.holds Try.pinned (OpenSpec.ofChange natRingWrong)

/-- 'slopelaw1.NatFolds': WHATEVER THE INPUT: true; the input reads as it did. -/
def natFoldsSpec : ChangeSpec := { name := "natFolds", fn := fun _ => fun
  | [d] => { results := [.lit (.bool true)], args := [d] }
  | _ => none }
def natFoldsRow : OpenClaim := { program := "ytdlddbclcmecjaa", sum := "399bdfcc742ae2d5257a4c0692c534fa0f6402bccd08f94fad8629af4dbaa127", func := "slope/slopelaw1.NatFolds", spec := "natFolds", unfollowed := true, recurses := true, apart := false }
def NatFoldsSaid : Prop := natFoldsRow.holds Try.pinned (OpenSpec.ofChange natFoldsSpec)

/-- ITS FALSE NEIGHBOUR: 'it returns false'. Refute it at one input. -/
def natFoldsWrong : ChangeSpec := { name := "natFolds", fn := fun _ => fun
  | [d] => { results := [.lit (.bool false)], args := [d] }
  | _ => none }
def NatFoldsWrongFalsely : Prop := natFoldsRow.holds Try.pinned (OpenSpec.ofChange natFoldsWrong)

/-- 'slopelaw1.NatCompares': WHATEVER THE INPUT: true; the input reads as it did. -/
def natComparesSpec : ChangeSpec := { name := "natCompares", fn := fun _ => fun
  | [d1, d2] => { results := [.lit (.bool true)], args := [d1, d2] }
  | _ => none }
def natComparesRow : OpenClaim := { program := "ytdlddbclcmecjaa", sum := "399bdfcc742ae2d5257a4c0692c534fa0f6402bccd08f94fad8629af4dbaa127", func := "slope/slopelaw1.NatCompares", spec := "natCompares", recurses := true, apart := false }
def NatComparesSaid : Prop := natComparesRow.holds Try.pinned (OpenSpec.ofChange natComparesSpec)

/-- ITS FALSE NEIGHBOUR: 'it returns false'. Refute it at one input. -/
def natComparesWrong : ChangeSpec := { name := "natCompares", fn := fun _ => fun
  | [d1, d2] => { results := [.lit (.bool false)], args := [d1, d2] }
  | _ => none }
def NatComparesWrongFalsely : Prop := natComparesRow.holds Try.pinned (OpenSpec.ofChange natComparesWrong)

/-- 'slopelaw1.NatBitwise': WHATEVER THE INPUT: true; the input reads as it did. -/
def natBitwiseSpec : ChangeSpec := { name := "natBitwise", fn := fun _ => fun
  | [d1, d2] => { results := [.lit (.bool true)], args := [d1, d2] }
  | _ => none }
def natBitwiseRow : OpenClaim := { program := "ytdlddbclcmecjaa", sum := "399bdfcc742ae2d5257a4c0692c534fa0f6402bccd08f94fad8629af4dbaa127", func := "slope/slopelaw1.NatBitwise", spec := "natBitwise", unfollowed := true, recurses := true, apart := false }
def NatBitwiseSaid : Prop := natBitwiseRow.holds Try.pinned (OpenSpec.ofChange natBitwiseSpec)

/-- ITS FALSE NEIGHBOUR: 'it returns false'. Refute it at one input. -/
def natBitwiseWrong : ChangeSpec := { name := "natBitwise", fn := fun _ => fun
  | [d1, d2] => { results := [.lit (.bool false)], args := [d1, d2] }
  | _ => none }
def NatBitwiseWrongFalsely : Prop := natBitwiseRow.holds Try.pinned (OpenSpec.ofChange natBitwiseWrong)

/-- 'slopelaw1.NatDivides': WHATEVER THE INPUT: true; the input reads as it did. -/
def natDividesSpec : ChangeSpec := { name := "natDivides", fn := fun _ => fun
  | [d1, d2] => { results := [.lit (.bool true)], args := [d1, d2] }
  | _ => none }
def natDividesRow : OpenClaim := { program := "ytdlddbclcmecjaa", sum := "399bdfcc742ae2d5257a4c0692c534fa0f6402bccd08f94fad8629af4dbaa127", func := "slope/slopelaw1.NatDivides", spec := "natDivides", apart := false }
def NatDividesSaid : Prop := natDividesRow.holds Try.pinned (OpenSpec.ofChange natDividesSpec)

/-- ITS FALSE NEIGHBOUR: 'it returns false'. Refute it at one input. -/
def natDividesWrong : ChangeSpec := { name := "natDivides", fn := fun _ => fun
  | [d1, d2] => { results := [.lit (.bool false)], args := [d1, d2] }
  | _ => none }
def NatDividesWrongFalsely : Prop := natDividesRow.holds Try.pinned (OpenSpec.ofChange natDividesWrong)

/-- 'slopelaw1.NatPowers': WHATEVER THE INPUT: true; the input reads as it did. -/
def natPowersSpec : ChangeSpec := { name := "natPowers", fn := fun _ => fun
  | [d1, d2] => { results := [.lit (.bool true)], args := [d1, d2] }
  | _ => none }
def natPowersRow : OpenClaim := { program := "ytdlddbclcmecjaa", sum := "399bdfcc742ae2d5257a4c0692c534fa0f6402bccd08f94fad8629af4dbaa127", func := "slope/slopelaw1.NatPowers", spec := "natPowers", recurses := true, apart := false }
def NatPowersSaid : Prop := natPowersRow.holds Try.pinned (OpenSpec.ofChange natPowersSpec)

/-- ITS FALSE NEIGHBOUR: 'it returns false'. Refute it at one input. -/
def natPowersWrong : ChangeSpec := { name := "natPowers", fn := fun _ => fun
  | [d1, d2] => { results := [.lit (.bool false)], args := [d1, d2] }
  | _ => none }
def NatPowersWrongFalsely : Prop := natPowersRow.holds Try.pinned (OpenSpec.ofChange natPowersWrong)

/-- 'slopelaw1.NatOrder': WHATEVER THE INPUT: true; the input reads as it did. -/
def natOrderSpec : ChangeSpec := { name := "natOrder", fn := fun _ => fun
  | [d1, d2, d3] => { results := [.lit (.bool true)], args := [d1, d2, d3] }
  | _ => none }
def natOrderRow : OpenClaim := { program := "ytdlddbclcmecjaa", sum := "399bdfcc742ae2d5257a4c0692c534fa0f6402bccd08f94fad8629af4dbaa127", func := "slope/slopelaw1.NatOrder", spec := "natOrder", recurses := true, apart := false }
def NatOrderSaid : Prop := natOrderRow.holds Try.pinned (OpenSpec.ofChange natOrderSpec)

/-- ITS FALSE NEIGHBOUR: 'it returns false'. Refute it at one input. -/
def natOrderWrong : ChangeSpec := { name := "natOrder", fn := fun _ => fun
  | [d1, d2, d3] => { results := [.lit (.bool false)], args := [d1, d2, d3] }
  | _ => none }
def NatOrderWrongFalsely : Prop := natOrderRow.holds Try.pinned (OpenSpec.ofChange natOrderWrong)

/-- 'slopelaw1.NatBoole': WHATEVER THE INPUT: true; the input reads as it did. -/
def natBooleSpec : ChangeSpec := { name := "natBoole", fn := fun _ => fun
  | [d1, d2] => { results := [.lit (.bool true)], args := [d1, d2] }
  | _ => none }
def natBooleRow : OpenClaim := { program := "ytdlddbclcmecjaa", sum := "399bdfcc742ae2d5257a4c0692c534fa0f6402bccd08f94fad8629af4dbaa127", func := "slope/slopelaw1.NatBoole", spec := "natBoole", unfollowed := true, recurses := true, apart := false }
def NatBooleSaid : Prop := natBooleRow.holds Try.pinned (OpenSpec.ofChange natBooleSpec)

/-- ITS FALSE NEIGHBOUR: 'it returns false'. Refute it at one input. -/
def natBooleWrong : ChangeSpec := { name := "natBoole", fn := fun _ => fun
  | [d1, d2] => { results := [.lit (.bool false)], args := [d1, d2] }
  | _ => none }
def NatBooleWrongFalsely : Prop := natBooleRow.holds Try.pinned (OpenSpec.ofChange natBooleWrong)

/-- 'slopelaw1.NatShifts': WHATEVER THE INPUT: true; the input reads as it did. -/
def natShiftsSpec : ChangeSpec := { name := "natShifts", fn := fun _ => fun
  | [d1, d2] => { results := [.lit (.bool true)], args := [d1, d2] }
  | _ => none }
def natShiftsRow : OpenClaim := { program := "ytdlddbclcmecjaa", sum := "399bdfcc742ae2d5257a4c0692c534fa0f6402bccd08f94fad8629af4dbaa127", func := "slope/slopelaw1.NatShifts", spec := "natShifts", recurses := true, apart := false }
def NatShiftsSaid : Prop := natShiftsRow.holds Try.pinned (OpenSpec.ofChange natShiftsSpec)

/-- ITS FALSE NEIGHBOUR: 'it returns false'. Refute it at one input. -/
def natShiftsWrong : ChangeSpec := { name := "natShifts", fn := fun _ => fun
  | [d1, d2] => { results := [.lit (.bool false)], args := [d1, d2] }
  | _ => none }
def NatShiftsWrongFalsely : Prop := natShiftsRow.holds Try.pinned (OpenSpec.ofChange natShiftsWrong)

/-- 'slopelaw1.NatDivisors': WHATEVER THE INPUT: true; the input reads as it did. -/
def natDivisorsSpec : ChangeSpec := { name := "natDivisors", fn := fun _ => fun
  | [d1, d2] => { results := [.lit (.bool true)], args := [d1, d2] }
  | _ => none }
def natDivisorsRow : OpenClaim := { program := "ytdlddbclcmecjaa", sum := "399bdfcc742ae2d5257a4c0692c534fa0f6402bccd08f94fad8629af4dbaa127", func := "slope/slopelaw1.NatDivisors", spec := "natDivisors", recurses := true, apart := false }
def NatDivisorsSaid : Prop := natDivisorsRow.holds Try.pinned (OpenSpec.ofChange natDivisorsSpec)

/-- ITS FALSE NEIGHBOUR: 'it returns false'. Refute it at one input. -/
def natDivisorsWrong : ChangeSpec := { name := "natDivisors", fn := fun _ => fun
  | [d1, d2] => { results := [.lit (.bool false)], args := [d1, d2] }
  | _ => none }
def NatDivisorsWrongFalsely : Prop := natDivisorsRow.holds Try.pinned (OpenSpec.ofChange natDivisorsWrong)

/-- 'slopelaw1.NatTexts': WHATEVER THE INPUT: true; the input reads as it did. -/
def natTextsSpec : ChangeSpec := { name := "natTexts", fn := fun _ => fun
  | [d1, d2, d3] => { results := [.lit (.bool true)], args := [d1, d2, d3] }
  | _ => none }
def natTextsRow : OpenClaim := { program := "ytdlddbclcmecjaa", sum := "399bdfcc742ae2d5257a4c0692c534fa0f6402bccd08f94fad8629af4dbaa127", func := "slope/slopelaw1.NatTexts", spec := "natTexts", recurses := true, apart := false }
def NatTextsSaid : Prop := natTextsRow.holds Try.pinned (OpenSpec.ofChange natTextsSpec)

/-- ITS FALSE NEIGHBOUR: 'it returns false'. Refute it at one input. -/
def natTextsWrong : ChangeSpec := { name := "natTexts", fn := fun _ => fun
  | [d1, d2, d3] => { results := [.lit (.bool false)], args := [d1, d2, d3] }
  | _ => none }
def NatTextsWrongFalsely : Prop := natTextsRow.holds Try.pinned (OpenSpec.ofChange natTextsWrong)

/-- 'slopelaw1.NatEuclid': WHATEVER THE INPUT: true; the input reads as it did. -/
def natEuclidSpec : ChangeSpec := { name := "natEuclid", fn := fun _ => fun
  | [d1, d2, d3] => { results := [.lit (.bool true)], args := [d1, d2, d3] }
  | _ => none }
def natEuclidRow : OpenClaim := { program := "ytdlddbclcmecjaa", sum := "399bdfcc742ae2d5257a4c0692c534fa0f6402bccd08f94fad8629af4dbaa127", func := "slope/slopelaw1.NatEuclid", spec := "natEuclid", recurses := true, apart := false }
def NatEuclidSaid : Prop := natEuclidRow.holds Try.pinned (OpenSpec.ofChange natEuclidSpec)

/-- ITS FALSE NEIGHBOUR: 'it returns false'. Refute it at one input. -/
def natEuclidWrong : ChangeSpec := { name := "natEuclid", fn := fun _ => fun
  | [d1, d2, d3] => { results := [.lit (.bool false)], args := [d1, d2, d3] }
  | _ => none }
def NatEuclidWrongFalsely : Prop := natEuclidRow.holds Try.pinned (OpenSpec.ofChange natEuclidWrong)

/-- 'slopelaw1.NatUndone': WHATEVER THE INPUT: true; the input reads as it did. -/
def natUndoneSpec : ChangeSpec := { name := "natUndone", fn := fun _ => fun
  | [d1, d2, d3] => { results := [.lit (.bool true)], args := [d1, d2, d3] }
  | _ => none }
def natUndoneRow : OpenClaim := { program := "ytdlddbclcmecjaa", sum := "399bdfcc742ae2d5257a4c0692c534fa0f6402bccd08f94fad8629af4dbaa127", func := "slope/slopelaw1.NatUndone", spec := "natUndone", recurses := true, apart := false }
def NatUndoneSaid : Prop := natUndoneRow.holds Try.pinned (OpenSpec.ofChange natUndoneSpec)

/-- ITS FALSE NEIGHBOUR: 'it returns false'. Refute it at one input. -/
def natUndoneWrong : ChangeSpec := { name := "natUndone", fn := fun _ => fun
  | [d1, d2, d3] => { results := [.lit (.bool false)], args := [d1, d2, d3] }
  | _ => none }
def NatUndoneWrongFalsely : Prop := natUndoneRow.holds Try.pinned (OpenSpec.ofChange natUndoneWrong)

/- THE SECOND FORM. 'bulk': how many values and letters a reading holds, each counted each time it is reached (what is shared counts as often as it is met; a slice's spare places count too). A statement '..UptoSaid' is the law's where the arguments, and the package variables that the reading takes, are together of bulk at most 1048576: NARROWER than '..Said'. Prove '..Said' where nothing that the law and all that it calls make is longer than what came in: it says more and counts as full. Else prove '..UptoSaid'. A law counts once. -/
mutual
def uptoBulk {H : Type} : DataW H → Nat
  | .lit (.string bytes) => bytes.length + 1
  | .lit _ => 1
  | .nil => 1
  | .ptr d => uptoBulk d + 1
  | .slice elems spare => uptoBulkAll elems + uptoBulkAll spare + 1
  | .agg parts => uptoBulkAll parts + 1
  | .iface _ d => uptoBulk d + 1
  | .map entries => uptoBulkEntries entries + 1
  | .held _ => 1
def uptoBulkAll {H : Type} : List (DataW H) → Nat
  | [] => 0
  | d :: r => uptoBulk d + uptoBulkAll r
def uptoBulkEntries {H : Type} : List (Lit × DataW H) → Nat
  | [] => 0
  | x :: r => uptoBulkEntry x + uptoBulkEntries r
def uptoBulkEntry {H : Type} : Lit × DataW H → Nat
  | (.string bytes, d) => bytes.length + uptoBulk d + 1
  | (_, d) => uptoBulk d + 1
 end
def uptoSmall : (H : Type) → List (DataW H) → Bool := fun _ ds => decide (uptoBulkAll ds ≤ 1048576)
def OpenSpec.upto (s : _root_.Go.ChangeSpec) : _root_.Go.OpenSpec := { _root_.Go.OpenSpec.ofChange s with cond := some uptoSmall }

/-- 'slopelaw1.NatFrom', WHERE WHAT IT READS IS OF BULK AT MOST 1048576: true; the input reads as it did. -/
def natFromUptoRow : OpenClaim := { program := "ytdlddbclcmecjaa", sum := "399bdfcc742ae2d5257a4c0692c534fa0f6402bccd08f94fad8629af4dbaa127", func := "slope/slopelaw1.NatFrom", spec := "natFrom", apart := false, narrowed := true }
def NatFromUptoSaid : Prop := natFromUptoRow.holds Try.pinned (OpenSpec.upto natFromSpec)

/-- 'slopelaw1.NatBytes', WHERE WHAT IT READS IS OF BULK AT MOST 1048576: true; the input reads as it did. -/
def natBytesUptoRow : OpenClaim := { program := "ytdlddbclcmecjaa", sum := "399bdfcc742ae2d5257a4c0692c534fa0f6402bccd08f94fad8629af4dbaa127", func := "slope/slopelaw1.NatBytes", spec := "natBytes", apart := false, narrowed := true }
def NatBytesUptoSaid : Prop := natBytesUptoRow.holds Try.pinned (OpenSpec.upto natBytesSpec)

/-- 'slopelaw1.NatPrints', WHERE WHAT IT READS IS OF BULK AT MOST 1048576: true; the input reads as it did. -/
def natPrintsUptoRow : OpenClaim := { program := "ytdlddbclcmecjaa", sum := "399bdfcc742ae2d5257a4c0692c534fa0f6402bccd08f94fad8629af4dbaa127", func := "slope/slopelaw1.NatPrints", spec := "natPrints", apart := false, narrowed := true }
def NatPrintsUptoSaid : Prop := natPrintsUptoRow.holds Try.pinned (OpenSpec.upto natPrintsSpec)

/-- 'slopelaw1.NatParses', WHERE WHAT IT READS IS OF BULK AT MOST 1048576: true; the input reads as it did. -/
def natParsesUptoRow : OpenClaim := { program := "ytdlddbclcmecjaa", sum := "399bdfcc742ae2d5257a4c0692c534fa0f6402bccd08f94fad8629af4dbaa127", func := "slope/slopelaw1.NatParses", spec := "natParses", apart := false, narrowed := true }
def NatParsesUptoSaid : Prop := natParsesUptoRow.holds Try.pinned (OpenSpec.upto natParsesSpec)

/-- 'slopelaw1.NatAdds', WHERE WHAT IT READS IS OF BULK AT MOST 1048576: true; the input reads as it did. -/
def natAddsUptoRow : OpenClaim := { program := "ytdlddbclcmecjaa", sum := "399bdfcc742ae2d5257a4c0692c534fa0f6402bccd08f94fad8629af4dbaa127", func := "slope/slopelaw1.NatAdds", spec := "natAdds", apart := false, narrowed := true }
def NatAddsUptoSaid : Prop := natAddsUptoRow.holds Try.pinned (OpenSpec.upto natAddsSpec)

/-- 'slopelaw1.NatMultiplies', WHERE WHAT IT READS IS OF BULK AT MOST 1048576: true; the input reads as it did. -/
def natMultipliesUptoRow : OpenClaim := { program := "ytdlddbclcmecjaa", sum := "399bdfcc742ae2d5257a4c0692c534fa0f6402bccd08f94fad8629af4dbaa127", func := "slope/slopelaw1.NatMultiplies", spec := "natMultiplies", recurses := true, apart := false, narrowed := true }
def NatMultipliesUptoSaid : Prop := natMultipliesUptoRow.holds Try.pinned (OpenSpec.upto natMultipliesSpec)

/-- 'slopelaw1.NatRing', WHERE WHAT IT READS IS OF BULK AT MOST 1048576: true; the input reads as it did. -/
def natRingUptoRow : OpenClaim := { program := "ytdlddbclcmecjaa", sum := "399bdfcc742ae2d5257a4c0692c534fa0f6402bccd08f94fad8629af4dbaa127", func := "slope/slopelaw1.NatRing", spec := "natRing", recurses := true, apart := false, narrowed := true }
def NatRingUptoSaid : Prop := natRingUptoRow.holds Try.pinned (OpenSpec.upto natRingSpec)

/-- 'slopelaw1.NatFolds', WHERE WHAT IT READS IS OF BULK AT MOST 1048576: true; the input reads as it did. -/
def natFoldsUptoRow : OpenClaim := { program := "ytdlddbclcmecjaa", sum := "399bdfcc742ae2d5257a4c0692c534fa0f6402bccd08f94fad8629af4dbaa127", func := "slope/slopelaw1.NatFolds", spec := "natFolds", unfollowed := true, recurses := true, apart := false, narrowed := true }
def NatFoldsUptoSaid : Prop := natFoldsUptoRow.holds Try.pinned (OpenSpec.upto natFoldsSpec)

/-- 'slopelaw1.NatCompares', WHERE WHAT IT READS IS OF BULK AT MOST 1048576: true; the input reads as it did. -/
def natComparesUptoRow : OpenClaim := { program := "ytdlddbclcmecjaa", sum := "399bdfcc742ae2d5257a4c0692c534fa0f6402bccd08f94fad8629af4dbaa127", func := "slope/slopelaw1.NatCompares", spec := "natCompares", recurses := true, apart := false, narrowed := true }
def NatComparesUptoSaid : Prop := natComparesUptoRow.holds Try.pinned (OpenSpec.upto natComparesSpec)

/-- 'slopelaw1.NatBitwise', WHERE WHAT IT READS IS OF BULK AT MOST 1048576: true; the input reads as it did. -/
def natBitwiseUptoRow : OpenClaim := { program := "ytdlddbclcmecjaa", sum := "399bdfcc742ae2d5257a4c0692c534fa0f6402bccd08f94fad8629af4dbaa127", func := "slope/slopelaw1.NatBitwise", spec := "natBitwise", unfollowed := true, recurses := true, apart := false, narrowed := true }
def NatBitwiseUptoSaid : Prop := natBitwiseUptoRow.holds Try.pinned (OpenSpec.upto natBitwiseSpec)

/-- 'slopelaw1.NatDivides', WHERE WHAT IT READS IS OF BULK AT MOST 1048576: true; the input reads as it did. -/
def natDividesUptoRow : OpenClaim := { program := "ytdlddbclcmecjaa", sum := "399bdfcc742ae2d5257a4c0692c534fa0f6402bccd08f94fad8629af4dbaa127", func := "slope/slopelaw1.NatDivides", spec := "natDivides", apart := false, narrowed := true }
def NatDividesUptoSaid : Prop := natDividesUptoRow.holds Try.pinned (OpenSpec.upto natDividesSpec)

/-- 'slopelaw1.NatPowers', WHERE WHAT IT READS IS OF BULK AT MOST 1048576: true; the input reads as it did. -/
def natPowersUptoRow : OpenClaim := { program := "ytdlddbclcmecjaa", sum := "399bdfcc742ae2d5257a4c0692c534fa0f6402bccd08f94fad8629af4dbaa127", func := "slope/slopelaw1.NatPowers", spec := "natPowers", recurses := true, apart := false, narrowed := true }
def NatPowersUptoSaid : Prop := natPowersUptoRow.holds Try.pinned (OpenSpec.upto natPowersSpec)

/-- 'slopelaw1.NatOrder', WHERE WHAT IT READS IS OF BULK AT MOST 1048576: true; the input reads as it did. -/
def natOrderUptoRow : OpenClaim := { program := "ytdlddbclcmecjaa", sum := "399bdfcc742ae2d5257a4c0692c534fa0f6402bccd08f94fad8629af4dbaa127", func := "slope/slopelaw1.NatOrder", spec := "natOrder", recurses := true, apart := false, narrowed := true }
def NatOrderUptoSaid : Prop := natOrderUptoRow.holds Try.pinned (OpenSpec.upto natOrderSpec)

/-- 'slopelaw1.NatBoole', WHERE WHAT IT READS IS OF BULK AT MOST 1048576: true; the input reads as it did. -/
def natBooleUptoRow : OpenClaim := { program := "ytdlddbclcmecjaa", sum := "399bdfcc742ae2d5257a4c0692c534fa0f6402bccd08f94fad8629af4dbaa127", func := "slope/slopelaw1.NatBoole", spec := "natBoole", unfollowed := true, recurses := true, apart := false, narrowed := true }
def NatBooleUptoSaid : Prop := natBooleUptoRow.holds Try.pinned (OpenSpec.upto natBooleSpec)

/-- 'slopelaw1.NatShifts', WHERE WHAT IT READS IS OF BULK AT MOST 1048576: true; the input reads as it did. -/
def natShiftsUptoRow : OpenClaim := { program := "ytdlddbclcmecjaa", sum := "399bdfcc742ae2d5257a4c0692c534fa0f6402bccd08f94fad8629af4dbaa127", func := "slope/slopelaw1.NatShifts", spec := "natShifts", recurses := true, apart := false, narrowed := true }
def NatShiftsUptoSaid : Prop := natShiftsUptoRow.holds Try.pinned (OpenSpec.upto natShiftsSpec)

/-- 'slopelaw1.NatDivisors', WHERE WHAT IT READS IS OF BULK AT MOST 1048576: true; the input reads as it did. -/
def natDivisorsUptoRow : OpenClaim := { program := "ytdlddbclcmecjaa", sum := "399bdfcc742ae2d5257a4c0692c534fa0f6402bccd08f94fad8629af4dbaa127", func := "slope/slopelaw1.NatDivisors", spec := "natDivisors", recurses := true, apart := false, narrowed := true }
def NatDivisorsUptoSaid : Prop := natDivisorsUptoRow.holds Try.pinned (OpenSpec.upto natDivisorsSpec)

/-- 'slopelaw1.NatTexts', WHERE WHAT IT READS IS OF BULK AT MOST 1048576: true; the input reads as it did. -/
def natTextsUptoRow : OpenClaim := { program := "ytdlddbclcmecjaa", sum := "399bdfcc742ae2d5257a4c0692c534fa0f6402bccd08f94fad8629af4dbaa127", func := "slope/slopelaw1.NatTexts", spec := "natTexts", recurses := true, apart := false, narrowed := true }
def NatTextsUptoSaid : Prop := natTextsUptoRow.holds Try.pinned (OpenSpec.upto natTextsSpec)

/-- 'slopelaw1.NatEuclid', WHERE WHAT IT READS IS OF BULK AT MOST 1048576: true; the input reads as it did. -/
def natEuclidUptoRow : OpenClaim := { program := "ytdlddbclcmecjaa", sum := "399bdfcc742ae2d5257a4c0692c534fa0f6402bccd08f94fad8629af4dbaa127", func := "slope/slopelaw1.NatEuclid", spec := "natEuclid", recurses := true, apart := false, narrowed := true }
def NatEuclidUptoSaid : Prop := natEuclidUptoRow.holds Try.pinned (OpenSpec.upto natEuclidSpec)

/-- 'slopelaw1.NatUndone', WHERE WHAT IT READS IS OF BULK AT MOST 1048576: true; the input reads as it did. -/
def natUndoneUptoRow : OpenClaim := { program := "ytdlddbclcmecjaa", sum := "399bdfcc742ae2d5257a4c0692c534fa0f6402bccd08f94fad8629af4dbaa127", func := "slope/slopelaw1.NatUndone", spec := "natUndone", recurses := true, apart := false, narrowed := true }
def NatUndoneUptoSaid : Prop := natUndoneUptoRow.holds Try.pinned (OpenSpec.upto natUndoneSpec)

end Rows
end Go.Proofs.Ytdlddbclcmecjaa
