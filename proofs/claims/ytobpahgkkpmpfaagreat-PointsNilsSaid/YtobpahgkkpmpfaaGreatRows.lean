/-
  No cell of these rows narrows 'for every input' (looked for: loops, veiled, ifaces, maps, wideKeys, modest, calm, conditions, laid).
  DERIVED. THE GIVEN ROWS OF THIS SEAT. 14 by the template 'for every input the law returns true; each argument reads behind the call as it read before'; 0 by the template 'total and deterministic' (their statements: YtobpahgkkpmpfaaGreatTotals.lean).
  GIVEN WITH THE SEED: the statements are not yours to turn. If you find one false, say at which input.
  Laid BY PROGRAM, IN A SANDBOX (cutbox-rows.mjs): the forced cells as the released guide's own fill.sh prints them over the translation 0a7f6149ddb067b4… (all of the seat's roots in one cut). By AI agents, Wed Nov 11 2026. No macro, syntax, notation, axiom, sorry.
-/
import Derived.Test.YtobpahgkkpmpfaaGreatChecked
import GoSem.Claim
import GoSem.ClaimJoined
import GoSem.ClaimMapViews
import Derived.JoinedTies
import Derived.KernelRfl
namespace Go.Proofs.YtobpahgkkpmpfaaGreat
/- THE CELL 'sum', in the pinned program and in every row, IS THE sha256 OF THE DUMP (.gsa) THAT YtobpahgkkpmpfaaGreatProg.lean LOADS. Nothing in Lean hashes anything: it is a label: what it is worth is what the hold of that sum in a sandbox is worth. -/
noncomputable def Tryz.pinned : Pinned := { name := "ytobpahgkkpmpfaagreat", sum := "0a7f6149ddb067b482df9bf4eae0772469bdf0145b855fea528e194364336cac", checked := Tryz.checked }
namespace Rows
def none {H : Type} : Left H := { results := [], args := [] }

/-- 'usufructlaw12.PointsSound': WHATEVER THE INPUT: true; the input reads as it did. -/
def pointsSoundSpec : ChangeSpec := { name := "pointsSound", fn := fun _ => fun
  | [d1, d2, d3, d4] => { results := [.lit (.bool true)], args := [d1, d2, d3, d4] }
  | _ => none }
def pointsSoundRow : OpenClaim := { program := "ytobpahgkkpmpfaagreat", sum := "0a7f6149ddb067b482df9bf4eae0772469bdf0145b855fea528e194364336cac", func := "usufruct/usufructlaw12.PointsSound", spec := "pointsSound", unfollowed := true, recurses := true, plainKeys := false, apart := false }
def PointsSoundSaid : Prop := pointsSoundRow.holds Tryz.pinned (OpenSpec.ofChange pointsSoundSpec)

/-- ITS FALSE NEIGHBOUR: 'it returns false'. Refute it at one input. -/
def pointsSoundWrong : ChangeSpec := { name := "pointsSound", fn := fun _ => fun
  | [d1, d2, d3, d4] => { results := [.lit (.bool false)], args := [d1, d2, d3, d4] }
  | _ => none }
def PointsSoundWrongFalsely : Prop := pointsSoundRow.holds Tryz.pinned (OpenSpec.ofChange pointsSoundWrong)

/-- 'usufructlaw12.PointsEach': WHATEVER THE INPUT: true; the input reads as it did. -/
def pointsEachSpec : ChangeSpec := { name := "pointsEach", fn := fun _ => fun
  | [d1, d2, d3, d4, d5] => { results := [.lit (.bool true)], args := [d1, d2, d3, d4, d5] }
  | _ => none }
def pointsEachRow : OpenClaim := { program := "ytobpahgkkpmpfaagreat", sum := "0a7f6149ddb067b482df9bf4eae0772469bdf0145b855fea528e194364336cac", func := "usufruct/usufructlaw12.PointsEach", spec := "pointsEach", unfollowed := true, recurses := true, plainKeys := false, apart := false }
def PointsEachSaid : Prop := pointsEachRow.holds Tryz.pinned (OpenSpec.ofChange pointsEachSpec)

/-- ITS FALSE NEIGHBOUR: 'it returns false'. Refute it at one input. -/
def pointsEachWrong : ChangeSpec := { name := "pointsEach", fn := fun _ => fun
  | [d1, d2, d3, d4, d5] => { results := [.lit (.bool false)], args := [d1, d2, d3, d4, d5] }
  | _ => none }
def PointsEachWrongFalsely : Prop := pointsEachRow.holds Tryz.pinned (OpenSpec.ofChange pointsEachWrong)

/-- 'usufructlaw12.PointsSets': WHATEVER THE INPUT: true; the input reads as it did. -/
def pointsSetsSpec : ChangeSpec := { name := "pointsSets", fn := fun _ => fun
  | [d] => { results := [.lit (.bool true)], args := [d] }
  | _ => none }
def pointsSetsRow : OpenClaim := { program := "ytobpahgkkpmpfaagreat", sum := "0a7f6149ddb067b482df9bf4eae0772469bdf0145b855fea528e194364336cac", func := "usufruct/usufructlaw12.PointsSets", spec := "pointsSets", unfollowed := true, recurses := true, plainKeys := false, apart := false }
def PointsSetsSaid : Prop := pointsSetsRow.holds Tryz.pinned (OpenSpec.ofChange pointsSetsSpec)

/-- ITS FALSE NEIGHBOUR: 'it returns false'. Refute it at one input. -/
def pointsSetsWrong : ChangeSpec := { name := "pointsSets", fn := fun _ => fun
  | [d] => { results := [.lit (.bool false)], args := [d] }
  | _ => none }
def PointsSetsWrongFalsely : Prop := pointsSetsRow.holds Tryz.pinned (OpenSpec.ofChange pointsSetsWrong)

/-- 'usufructlaw12.PointsHold': WHATEVER THE INPUT: true; the input reads as it did. -/
def pointsHoldSpec : ChangeSpec := { name := "pointsHold", fn := fun _ => fun
  | [d] => { results := [.lit (.bool true)], args := [d] }
  | _ => none }
def pointsHoldRow : OpenClaim := { program := "ytobpahgkkpmpfaagreat", sum := "0a7f6149ddb067b482df9bf4eae0772469bdf0145b855fea528e194364336cac", func := "usufruct/usufructlaw12.PointsHold", spec := "pointsHold", unfollowed := true, recurses := true, plainKeys := false, apart := false }
def PointsHoldSaid : Prop := pointsHoldRow.holds Tryz.pinned (OpenSpec.ofChange pointsHoldSpec)

/-- ITS FALSE NEIGHBOUR: 'it returns false'. Refute it at one input. -/
def pointsHoldWrong : ChangeSpec := { name := "pointsHold", fn := fun _ => fun
  | [d] => { results := [.lit (.bool false)], args := [d] }
  | _ => none }
def PointsHoldWrongFalsely : Prop := pointsHoldRow.holds Tryz.pinned (OpenSpec.ofChange pointsHoldWrong)

/-- 'usufructlaw12.PointsNils': WHATEVER THE INPUT: true; the input reads as it did. -/
def pointsNilsSpec : ChangeSpec := { name := "pointsNils", fn := fun _ => fun
  | [d1, d2] => { results := [.lit (.bool true)], args := [d1, d2] }
  | _ => none }
def pointsNilsRow : OpenClaim := { program := "ytobpahgkkpmpfaagreat", sum := "0a7f6149ddb067b482df9bf4eae0772469bdf0145b855fea528e194364336cac", func := "usufruct/usufructlaw12.PointsNils", spec := "pointsNils", unfollowed := true, recurses := true, plainKeys := false, apart := false }
def PointsNilsSaid : Prop := pointsNilsRow.holds Tryz.pinned (OpenSpec.ofChange pointsNilsSpec)

/-- ITS FALSE NEIGHBOUR: 'it returns false'. Refute it at one input. -/
def pointsNilsWrong : ChangeSpec := { name := "pointsNils", fn := fun _ => fun
  | [d1, d2] => { results := [.lit (.bool false)], args := [d1, d2] }
  | _ => none }
def PointsNilsWrongFalsely : Prop := pointsNilsRow.holds Tryz.pinned (OpenSpec.ofChange pointsNilsWrong)

/-- 'usufructlaw18.ClassesInfers': WHATEVER THE INPUT: true; the input reads as it did. -/
def classesInfersSpec : ChangeSpec := { name := "classesInfers", fn := fun _ => fun
  | [d] => { results := [.lit (.bool true)], args := [d] }
  | _ => none }
def classesInfersRow : OpenClaim := { program := "ytobpahgkkpmpfaagreat", sum := "0a7f6149ddb067b482df9bf4eae0772469bdf0145b855fea528e194364336cac", func := "usufruct/usufructlaw18.ClassesInfers", spec := "classesInfers", unfollowed := true, recurses := true, plainKeys := false, apart := false }
def ClassesInfersSaid : Prop := classesInfersRow.holds Tryz.pinned (OpenSpec.ofChange classesInfersSpec)

/-- ITS FALSE NEIGHBOUR: 'it returns false'. Refute it at one input. -/
def classesInfersWrong : ChangeSpec := { name := "classesInfers", fn := fun _ => fun
  | [d] => { results := [.lit (.bool false)], args := [d] }
  | _ => none }
def ClassesInfersWrongFalsely : Prop := classesInfersRow.holds Tryz.pinned (OpenSpec.ofChange classesInfersWrong)

/-- 'usufructlaw18.ClassesTrue': WHATEVER THE INPUT: true; the input reads as it did. -/
def classesTrueSpec : ChangeSpec := { name := "classesTrue", fn := fun _ => fun
  | [d] => { results := [.lit (.bool true)], args := [d] }
  | _ => none }
def classesTrueRow : OpenClaim := { program := "ytobpahgkkpmpfaagreat", sum := "0a7f6149ddb067b482df9bf4eae0772469bdf0145b855fea528e194364336cac", func := "usufruct/usufructlaw18.ClassesTrue", spec := "classesTrue", unfollowed := true, recurses := true, plainKeys := false, apart := false }
def ClassesTrueSaid : Prop := classesTrueRow.holds Tryz.pinned (OpenSpec.ofChange classesTrueSpec)

/-- ITS FALSE NEIGHBOUR: 'it returns false'. Refute it at one input. -/
def classesTrueWrong : ChangeSpec := { name := "classesTrue", fn := fun _ => fun
  | [d] => { results := [.lit (.bool false)], args := [d] }
  | _ => none }
def ClassesTrueWrongFalsely : Prop := classesTrueRow.holds Tryz.pinned (OpenSpec.ofChange classesTrueWrong)

/-- 'usufructlaw18.ClassesFirst': WHATEVER THE INPUT: true; the input reads as it did. -/
def classesFirstSpec : ChangeSpec := { name := "classesFirst", fn := fun _ => fun
  | [d1, d2] => { results := [.lit (.bool true)], args := [d1, d2] }
  | _ => none }
def classesFirstRow : OpenClaim := { program := "ytobpahgkkpmpfaagreat", sum := "0a7f6149ddb067b482df9bf4eae0772469bdf0145b855fea528e194364336cac", func := "usufruct/usufructlaw18.ClassesFirst", spec := "classesFirst", unfollowed := true, recurses := true, plainKeys := false, apart := false }
def ClassesFirstSaid : Prop := classesFirstRow.holds Tryz.pinned (OpenSpec.ofChange classesFirstSpec)

/-- ITS FALSE NEIGHBOUR: 'it returns false'. Refute it at one input. -/
def classesFirstWrong : ChangeSpec := { name := "classesFirst", fn := fun _ => fun
  | [d1, d2] => { results := [.lit (.bool false)], args := [d1, d2] }
  | _ => none }
def ClassesFirstWrongFalsely : Prop := classesFirstRow.holds Tryz.pinned (OpenSpec.ofChange classesFirstWrong)

/-- 'usufructlaw18.ClassesDecodes': WHATEVER THE INPUT: true; the input reads as it did. -/
def classesDecodesSpec : ChangeSpec := { name := "classesDecodes", fn := fun _ => fun
  | [d1, d2] => { results := [.lit (.bool true)], args := [d1, d2] }
  | _ => none }
def classesDecodesRow : OpenClaim := { program := "ytobpahgkkpmpfaagreat", sum := "0a7f6149ddb067b482df9bf4eae0772469bdf0145b855fea528e194364336cac", func := "usufruct/usufructlaw18.ClassesDecodes", spec := "classesDecodes", unfollowed := true, recurses := true, plainKeys := false, apart := false }
def ClassesDecodesSaid : Prop := classesDecodesRow.holds Tryz.pinned (OpenSpec.ofChange classesDecodesSpec)

/-- ITS FALSE NEIGHBOUR: 'it returns false'. Refute it at one input. -/
def classesDecodesWrong : ChangeSpec := { name := "classesDecodes", fn := fun _ => fun
  | [d1, d2] => { results := [.lit (.bool false)], args := [d1, d2] }
  | _ => none }
def ClassesDecodesWrongFalsely : Prop := classesDecodesRow.holds Tryz.pinned (OpenSpec.ofChange classesDecodesWrong)

/-- 'usufructlaw13.AliasSound': WHATEVER THE INPUT: true; the input reads as it did. -/
def aliasSoundSpec : ChangeSpec := { name := "aliasSound", fn := fun _ => fun
  | [d1, d2, d3, d4] => { results := [.lit (.bool true)], args := [d1, d2, d3, d4] }
  | _ => none }
def aliasSoundRow : OpenClaim := { program := "ytobpahgkkpmpfaagreat", sum := "0a7f6149ddb067b482df9bf4eae0772469bdf0145b855fea528e194364336cac", func := "usufruct/usufructlaw13.AliasSound", spec := "aliasSound", unfollowed := true, recurses := true, plainKeys := false, apart := false }
def AliasSoundSaid : Prop := aliasSoundRow.holds Tryz.pinned (OpenSpec.ofChange aliasSoundSpec)

/-- ITS FALSE NEIGHBOUR: 'it returns false'. Refute it at one input. -/
def aliasSoundWrong : ChangeSpec := { name := "aliasSound", fn := fun _ => fun
  | [d1, d2, d3, d4] => { results := [.lit (.bool false)], args := [d1, d2, d3, d4] }
  | _ => none }
def AliasSoundWrongFalsely : Prop := aliasSoundRow.holds Tryz.pinned (OpenSpec.ofChange aliasSoundWrong)

/-- 'usufructlaw13.AliasWays': WHATEVER THE INPUT: true; the input reads as it did. -/
def aliasWaysSpec : ChangeSpec := { name := "aliasWays", fn := fun _ => fun
  | [d1, d2, d3, d4] => { results := [.lit (.bool true)], args := [d1, d2, d3, d4] }
  | _ => none }
def aliasWaysRow : OpenClaim := { program := "ytobpahgkkpmpfaagreat", sum := "0a7f6149ddb067b482df9bf4eae0772469bdf0145b855fea528e194364336cac", func := "usufruct/usufructlaw13.AliasWays", spec := "aliasWays", unfollowed := true, recurses := true, plainKeys := false, apart := false }
def AliasWaysSaid : Prop := aliasWaysRow.holds Tryz.pinned (OpenSpec.ofChange aliasWaysSpec)

/-- ITS FALSE NEIGHBOUR: 'it returns false'. Refute it at one input. -/
def aliasWaysWrong : ChangeSpec := { name := "aliasWays", fn := fun _ => fun
  | [d1, d2, d3, d4] => { results := [.lit (.bool false)], args := [d1, d2, d3, d4] }
  | _ => none }
def AliasWaysWrongFalsely : Prop := aliasWaysRow.holds Tryz.pinned (OpenSpec.ofChange aliasWaysWrong)

/-- 'usufructlaw18.ClassesLooks': WHATEVER THE INPUT: true; the input reads as it did. -/
def classesLooksSpec : ChangeSpec := { name := "classesLooks", fn := fun _ => fun
  | [d1, d2, d3, d4] => { results := [.lit (.bool true)], args := [d1, d2, d3, d4] }
  | _ => none }
def classesLooksRow : OpenClaim := { program := "ytobpahgkkpmpfaagreat", sum := "0a7f6149ddb067b482df9bf4eae0772469bdf0145b855fea528e194364336cac", func := "usufruct/usufructlaw18.ClassesLooks", spec := "classesLooks", unfollowed := true, recurses := true, plainKeys := false, apart := false }
def ClassesLooksSaid : Prop := classesLooksRow.holds Tryz.pinned (OpenSpec.ofChange classesLooksSpec)

/-- ITS FALSE NEIGHBOUR: 'it returns false'. Refute it at one input. -/
def classesLooksWrong : ChangeSpec := { name := "classesLooks", fn := fun _ => fun
  | [d1, d2, d3, d4] => { results := [.lit (.bool false)], args := [d1, d2, d3, d4] }
  | _ => none }
def ClassesLooksWrongFalsely : Prop := classesLooksRow.holds Tryz.pinned (OpenSpec.ofChange classesLooksWrong)

/-- 'usufructlaw13.AliasMays': WHATEVER THE INPUT: true; the input reads as it did. -/
def aliasMaysSpec : ChangeSpec := { name := "aliasMays", fn := fun _ => fun
  | [d1, d2] => { results := [.lit (.bool true)], args := [d1, d2] }
  | _ => none }
def aliasMaysRow : OpenClaim := { program := "ytobpahgkkpmpfaagreat", sum := "0a7f6149ddb067b482df9bf4eae0772469bdf0145b855fea528e194364336cac", func := "usufruct/usufructlaw13.AliasMays", spec := "aliasMays", unfollowed := true, recurses := true, plainKeys := false, apart := false }
def AliasMaysSaid : Prop := aliasMaysRow.holds Tryz.pinned (OpenSpec.ofChange aliasMaysSpec)

/-- ITS FALSE NEIGHBOUR: 'it returns false'. Refute it at one input. -/
def aliasMaysWrong : ChangeSpec := { name := "aliasMays", fn := fun _ => fun
  | [d1, d2] => { results := [.lit (.bool false)], args := [d1, d2] }
  | _ => none }
def AliasMaysWrongFalsely : Prop := aliasMaysRow.holds Tryz.pinned (OpenSpec.ofChange aliasMaysWrong)

/-- 'usufructlaw13.AliasRings': WHATEVER THE INPUT: true; the input reads as it did. -/
def aliasRingsSpec : ChangeSpec := { name := "aliasRings", fn := fun _ => fun
  | [d1, d2, d3] => { results := [.lit (.bool true)], args := [d1, d2, d3] }
  | _ => none }
def aliasRingsRow : OpenClaim := { program := "ytobpahgkkpmpfaagreat", sum := "0a7f6149ddb067b482df9bf4eae0772469bdf0145b855fea528e194364336cac", func := "usufruct/usufructlaw13.AliasRings", spec := "aliasRings", unfollowed := true, recurses := true, plainKeys := false, apart := false }
def AliasRingsSaid : Prop := aliasRingsRow.holds Tryz.pinned (OpenSpec.ofChange aliasRingsSpec)

/-- ITS FALSE NEIGHBOUR: 'it returns false'. Refute it at one input. -/
def aliasRingsWrong : ChangeSpec := { name := "aliasRings", fn := fun _ => fun
  | [d1, d2, d3] => { results := [.lit (.bool false)], args := [d1, d2, d3] }
  | _ => none }
def AliasRingsWrongFalsely : Prop := aliasRingsRow.holds Tryz.pinned (OpenSpec.ofChange aliasRingsWrong)

/- THE SECOND FORM. 'bulk': how many values and letters a reading holds, each counted each time it is reached (what is shared counts as often as it is met; a slice's spare places count too). A statement '..UptoSaid' is the law's where the arguments, and the package variables that the reading takes, are together of bulk at most 1048576: NARROWER than '..Said'. Prove '..Said' where nothing that the law and all that it calls make is longer than what came in: it says more and counts as full. Else prove '..UptoSaid'. A law counts once. -/
mutual
def uptoBulk {H : Type} : DataW H → Nat
  | .lit (.string bytes) => bytes.length + 1
  | .lit _ => 1
  | .nil => 1
  | .ptr d => uptoBulk d + 1
  | .slice elems spare => uptoBulkAll elems + uptoBulkAll spare + 1
  | .agg parts => uptoBulkAll parts + 1
  | .iface _ d => uptoBulk d + 1
  | .map entries => uptoBulkEntries entries + 1
  | .held _ => 1
def uptoBulkAll {H : Type} : List (DataW H) → Nat
  | [] => 0
  | d :: r => uptoBulk d + uptoBulkAll r
def uptoBulkEntries {H : Type} : List (Lit × DataW H) → Nat
  | [] => 0
  | x :: r => uptoBulkEntry x + uptoBulkEntries r
def uptoBulkEntry {H : Type} : Lit × DataW H → Nat
  | (.string bytes, d) => bytes.length + uptoBulk d + 1
  | (_, d) => uptoBulk d + 1
 end
def uptoSmall : (H : Type) → List (DataW H) → Bool := fun _ ds => decide (uptoBulkAll ds ≤ 1048576)
def OpenSpec.upto (s : _root_.Go.ChangeSpec) : _root_.Go.OpenSpec := { _root_.Go.OpenSpec.ofChange s with cond := some uptoSmall }

/-- 'usufructlaw12.PointsSound', WHERE WHAT IT READS IS OF BULK AT MOST 1048576: true; the input reads as it did. -/
def pointsSoundUptoRow : OpenClaim := { program := "ytobpahgkkpmpfaagreat", sum := "0a7f6149ddb067b482df9bf4eae0772469bdf0145b855fea528e194364336cac", func := "usufruct/usufructlaw12.PointsSound", spec := "pointsSound", unfollowed := true, recurses := true, plainKeys := false, apart := false, narrowed := true }
def PointsSoundUptoSaid : Prop := pointsSoundUptoRow.holds Tryz.pinned (OpenSpec.upto pointsSoundSpec)

/-- 'usufructlaw12.PointsEach', WHERE WHAT IT READS IS OF BULK AT MOST 1048576: true; the input reads as it did. -/
def pointsEachUptoRow : OpenClaim := { program := "ytobpahgkkpmpfaagreat", sum := "0a7f6149ddb067b482df9bf4eae0772469bdf0145b855fea528e194364336cac", func := "usufruct/usufructlaw12.PointsEach", spec := "pointsEach", unfollowed := true, recurses := true, plainKeys := false, apart := false, narrowed := true }
def PointsEachUptoSaid : Prop := pointsEachUptoRow.holds Tryz.pinned (OpenSpec.upto pointsEachSpec)

/-- 'usufructlaw12.PointsSets', WHERE WHAT IT READS IS OF BULK AT MOST 1048576: true; the input reads as it did. -/
def pointsSetsUptoRow : OpenClaim := { program := "ytobpahgkkpmpfaagreat", sum := "0a7f6149ddb067b482df9bf4eae0772469bdf0145b855fea528e194364336cac", func := "usufruct/usufructlaw12.PointsSets", spec := "pointsSets", unfollowed := true, recurses := true, plainKeys := false, apart := false, narrowed := true }
def PointsSetsUptoSaid : Prop := pointsSetsUptoRow.holds Tryz.pinned (OpenSpec.upto pointsSetsSpec)

/-- 'usufructlaw12.PointsHold', WHERE WHAT IT READS IS OF BULK AT MOST 1048576: true; the input reads as it did. -/
def pointsHoldUptoRow : OpenClaim := { program := "ytobpahgkkpmpfaagreat", sum := "0a7f6149ddb067b482df9bf4eae0772469bdf0145b855fea528e194364336cac", func := "usufruct/usufructlaw12.PointsHold", spec := "pointsHold", unfollowed := true, recurses := true, plainKeys := false, apart := false, narrowed := true }
def PointsHoldUptoSaid : Prop := pointsHoldUptoRow.holds Tryz.pinned (OpenSpec.upto pointsHoldSpec)

/-- 'usufructlaw12.PointsNils', WHERE WHAT IT READS IS OF BULK AT MOST 1048576: true; the input reads as it did. -/
def pointsNilsUptoRow : OpenClaim := { program := "ytobpahgkkpmpfaagreat", sum := "0a7f6149ddb067b482df9bf4eae0772469bdf0145b855fea528e194364336cac", func := "usufruct/usufructlaw12.PointsNils", spec := "pointsNils", unfollowed := true, recurses := true, plainKeys := false, apart := false, narrowed := true }
def PointsNilsUptoSaid : Prop := pointsNilsUptoRow.holds Tryz.pinned (OpenSpec.upto pointsNilsSpec)

/-- 'usufructlaw18.ClassesInfers', WHERE WHAT IT READS IS OF BULK AT MOST 1048576: true; the input reads as it did. -/
def classesInfersUptoRow : OpenClaim := { program := "ytobpahgkkpmpfaagreat", sum := "0a7f6149ddb067b482df9bf4eae0772469bdf0145b855fea528e194364336cac", func := "usufruct/usufructlaw18.ClassesInfers", spec := "classesInfers", unfollowed := true, recurses := true, plainKeys := false, apart := false, narrowed := true }
def ClassesInfersUptoSaid : Prop := classesInfersUptoRow.holds Tryz.pinned (OpenSpec.upto classesInfersSpec)

/-- 'usufructlaw18.ClassesTrue', WHERE WHAT IT READS IS OF BULK AT MOST 1048576: true; the input reads as it did. -/
def classesTrueUptoRow : OpenClaim := { program := "ytobpahgkkpmpfaagreat", sum := "0a7f6149ddb067b482df9bf4eae0772469bdf0145b855fea528e194364336cac", func := "usufruct/usufructlaw18.ClassesTrue", spec := "classesTrue", unfollowed := true, recurses := true, plainKeys := false, apart := false, narrowed := true }
def ClassesTrueUptoSaid : Prop := classesTrueUptoRow.holds Tryz.pinned (OpenSpec.upto classesTrueSpec)

/-- 'usufructlaw18.ClassesFirst', WHERE WHAT IT READS IS OF BULK AT MOST 1048576: true; the input reads as it did. -/
def classesFirstUptoRow : OpenClaim := { program := "ytobpahgkkpmpfaagreat", sum := "0a7f6149ddb067b482df9bf4eae0772469bdf0145b855fea528e194364336cac", func := "usufruct/usufructlaw18.ClassesFirst", spec := "classesFirst", unfollowed := true, recurses := true, plainKeys := false, apart := false, narrowed := true }
def ClassesFirstUptoSaid : Prop := classesFirstUptoRow.holds Tryz.pinned (OpenSpec.upto classesFirstSpec)

/-- 'usufructlaw18.ClassesDecodes', WHERE WHAT IT READS IS OF BULK AT MOST 1048576: true; the input reads as it did. -/
def classesDecodesUptoRow : OpenClaim := { program := "ytobpahgkkpmpfaagreat", sum := "0a7f6149ddb067b482df9bf4eae0772469bdf0145b855fea528e194364336cac", func := "usufruct/usufructlaw18.ClassesDecodes", spec := "classesDecodes", unfollowed := true, recurses := true, plainKeys := false, apart := false, narrowed := true }
def ClassesDecodesUptoSaid : Prop := classesDecodesUptoRow.holds Tryz.pinned (OpenSpec.upto classesDecodesSpec)

/-- 'usufructlaw13.AliasSound', WHERE WHAT IT READS IS OF BULK AT MOST 1048576: true; the input reads as it did. -/
def aliasSoundUptoRow : OpenClaim := { program := "ytobpahgkkpmpfaagreat", sum := "0a7f6149ddb067b482df9bf4eae0772469bdf0145b855fea528e194364336cac", func := "usufruct/usufructlaw13.AliasSound", spec := "aliasSound", unfollowed := true, recurses := true, plainKeys := false, apart := false, narrowed := true }
def AliasSoundUptoSaid : Prop := aliasSoundUptoRow.holds Tryz.pinned (OpenSpec.upto aliasSoundSpec)

/-- 'usufructlaw13.AliasWays', WHERE WHAT IT READS IS OF BULK AT MOST 1048576: true; the input reads as it did. -/
def aliasWaysUptoRow : OpenClaim := { program := "ytobpahgkkpmpfaagreat", sum := "0a7f6149ddb067b482df9bf4eae0772469bdf0145b855fea528e194364336cac", func := "usufruct/usufructlaw13.AliasWays", spec := "aliasWays", unfollowed := true, recurses := true, plainKeys := false, apart := false, narrowed := true }
def AliasWaysUptoSaid : Prop := aliasWaysUptoRow.holds Tryz.pinned (OpenSpec.upto aliasWaysSpec)

/-- 'usufructlaw18.ClassesLooks', WHERE WHAT IT READS IS OF BULK AT MOST 1048576: true; the input reads as it did. -/
def classesLooksUptoRow : OpenClaim := { program := "ytobpahgkkpmpfaagreat", sum := "0a7f6149ddb067b482df9bf4eae0772469bdf0145b855fea528e194364336cac", func := "usufruct/usufructlaw18.ClassesLooks", spec := "classesLooks", unfollowed := true, recurses := true, plainKeys := false, apart := false, narrowed := true }
def ClassesLooksUptoSaid : Prop := classesLooksUptoRow.holds Tryz.pinned (OpenSpec.upto classesLooksSpec)

/-- 'usufructlaw13.AliasMays', WHERE WHAT IT READS IS OF BULK AT MOST 1048576: true; the input reads as it did. -/
def aliasMaysUptoRow : OpenClaim := { program := "ytobpahgkkpmpfaagreat", sum := "0a7f6149ddb067b482df9bf4eae0772469bdf0145b855fea528e194364336cac", func := "usufruct/usufructlaw13.AliasMays", spec := "aliasMays", unfollowed := true, recurses := true, plainKeys := false, apart := false, narrowed := true }
def AliasMaysUptoSaid : Prop := aliasMaysUptoRow.holds Tryz.pinned (OpenSpec.upto aliasMaysSpec)

/-- 'usufructlaw13.AliasRings', WHERE WHAT IT READS IS OF BULK AT MOST 1048576: true; the input reads as it did. -/
def aliasRingsUptoRow : OpenClaim := { program := "ytobpahgkkpmpfaagreat", sum := "0a7f6149ddb067b482df9bf4eae0772469bdf0145b855fea528e194364336cac", func := "usufruct/usufructlaw13.AliasRings", spec := "aliasRings", unfollowed := true, recurses := true, plainKeys := false, apart := false, narrowed := true }
def AliasRingsUptoSaid : Prop := aliasRingsUptoRow.holds Tryz.pinned (OpenSpec.upto aliasRingsSpec)

end Rows
end Go.Proofs.YtobpahgkkpmpfaaGreat
