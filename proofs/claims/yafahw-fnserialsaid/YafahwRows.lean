/-
  No cell of these rows narrows 'for every input' (looked for: loops, veiled, ifaces, maps, wideKeys, modest, calm, conditions, laid).
  DERIVED. THE GIVEN ROWS OF THIS SEAT. 12 by the template 'for every input the law returns true; each argument reads behind the call as it read before'; 0 by the template 'total and deterministic' (their statements: YafahwTotals.lean).
  GIVEN WITH THE SEED: the statements are not yours to turn. If you find one false, say at which input.
  Laid BY PROGRAM, IN A SANDBOX (cutbox-rows.mjs): the forced cells as the released guide's own fill.sh prints them over the translation 12361ed272747d50… (all of the seat's roots in one cut). By AI agents, Wed Nov 11 2026. No macro, syntax, notation, axiom, sorry.
-/
import Derived.Test.YafahwChecked
import GoSem.Claim
import GoSem.ClaimJoined
import GoSem.ClaimMapViews
import Derived.JoinedTies
import Derived.KernelRfl
namespace Go.Proofs.Yafahw
/- THE CELL 'sum', in the pinned program and in every row, IS THE sha256 OF THE DUMP (.gsa) THAT YafahwProg.lean LOADS. Nothing in Lean hashes anything: it is a label: what it is worth is what the hold of that sum in a sandbox is worth. -/
noncomputable def Yahh.pinned : Pinned := { name := "yafahw", sum := "12361ed272747d50fe0a95761f4331dd820d7b9a296982033829a242003136b5", checked := Yahh.checked }
namespace Rows
def none {H : Type} : Left H := { results := [], args := [] }

/-- 'laws.FnTop': WHATEVER THE INPUT: true; the input reads as it did. -/
def fnTopSpec : ChangeSpec := { name := "fnTop", fn := fun _ => fun
  | [d] => { results := [.lit (.bool true)], args := [d] }
  | _ => none }
def fnTopRow : OpenClaim := { program := "yafahw", sum := "12361ed272747d50fe0a95761f4331dd820d7b9a296982033829a242003136b5", func := "loop.example/b19/laws.FnTop", spec := "fnTop", apart := false }
def FnTopSaid : Prop := fnTopRow.holds Yahh.pinned (OpenSpec.ofChange fnTopSpec)

/-- ITS FALSE NEIGHBOUR: 'it returns false'. Refute it at one input. -/
def fnTopWrong : ChangeSpec := { name := "fnTop", fn := fun _ => fun
  | [d] => { results := [.lit (.bool false)], args := [d] }
  | _ => none }
def FnTopWrongFalsely : Prop := fnTopRow.holds Yahh.pinned (OpenSpec.ofChange fnTopWrong)

/-- 'laws.FnRunMatches': WHATEVER THE INPUT: true; the input reads as it did. -/
def fnRunMatchesSpec : ChangeSpec := { name := "fnRunMatches", fn := fun _ => fun
  | [d] => { results := [.lit (.bool true)], args := [d] }
  | _ => none }
def fnRunMatchesRow : OpenClaim := { program := "yafahw", sum := "12361ed272747d50fe0a95761f4331dd820d7b9a296982033829a242003136b5", func := "loop.example/b19/laws.FnRunMatches", spec := "fnRunMatches", apart := false }
def FnRunMatchesSaid : Prop := fnRunMatchesRow.holds Yahh.pinned (OpenSpec.ofChange fnRunMatchesSpec)

/-- ITS FALSE NEIGHBOUR: 'it returns false'. Refute it at one input. -/
def fnRunMatchesWrong : ChangeSpec := { name := "fnRunMatches", fn := fun _ => fun
  | [d] => { results := [.lit (.bool false)], args := [d] }
  | _ => none }
def FnRunMatchesWrongFalsely : Prop := fnRunMatchesRow.holds Yahh.pinned (OpenSpec.ofChange fnRunMatchesWrong)

/-- 'laws.FnSerial': WHATEVER THE INPUT: true; the input reads as it did. -/
def fnSerialSpec : ChangeSpec := { name := "fnSerial", fn := fun _ => fun
  | [d] => { results := [.lit (.bool true)], args := [d] }
  | _ => none }
def fnSerialRow : OpenClaim := { program := "yafahw", sum := "12361ed272747d50fe0a95761f4331dd820d7b9a296982033829a242003136b5", func := "loop.example/b19/laws.FnSerial", spec := "fnSerial", apart := false }
def FnSerialSaid : Prop := fnSerialRow.holds Yahh.pinned (OpenSpec.ofChange fnSerialSpec)

/-- ITS FALSE NEIGHBOUR: 'it returns false'. Refute it at one input. -/
def fnSerialWrong : ChangeSpec := { name := "fnSerial", fn := fun _ => fun
  | [d] => { results := [.lit (.bool false)], args := [d] }
  | _ => none }
def FnSerialWrongFalsely : Prop := fnSerialRow.holds Yahh.pinned (OpenSpec.ofChange fnSerialWrong)

/-- 'laws.FnClock': WHATEVER THE INPUT: true; the input reads as it did. -/
def fnClockSpec : ChangeSpec := { name := "fnClock", fn := fun _ => fun
  | [d] => { results := [.lit (.bool true)], args := [d] }
  | _ => none }
def fnClockRow : OpenClaim := { program := "yafahw", sum := "12361ed272747d50fe0a95761f4331dd820d7b9a296982033829a242003136b5", func := "loop.example/b19/laws.FnClock", spec := "fnClock", apart := false }
def FnClockSaid : Prop := fnClockRow.holds Yahh.pinned (OpenSpec.ofChange fnClockSpec)

/-- ITS FALSE NEIGHBOUR: 'it returns false'. Refute it at one input. -/
def fnClockWrong : ChangeSpec := { name := "fnClock", fn := fun _ => fun
  | [d] => { results := [.lit (.bool false)], args := [d] }
  | _ => none }
def FnClockWrongFalsely : Prop := fnClockRow.holds Yahh.pinned (OpenSpec.ofChange fnClockWrong)

/-- 'laws.FnPrefix': WHATEVER THE INPUT: true; the input reads as it did. -/
def fnPrefixSpec : ChangeSpec := { name := "fnPrefix", fn := fun _ => fun
  | [d1, d2] => { results := [.lit (.bool true)], args := [d1, d2] }
  | _ => none }
def fnPrefixRow : OpenClaim := { program := "yafahw", sum := "12361ed272747d50fe0a95761f4331dd820d7b9a296982033829a242003136b5", func := "loop.example/b19/laws.FnPrefix", spec := "fnPrefix", apart := false }
def FnPrefixSaid : Prop := fnPrefixRow.holds Yahh.pinned (OpenSpec.ofChange fnPrefixSpec)

/-- ITS FALSE NEIGHBOUR: 'it returns false'. Refute it at one input. -/
def fnPrefixWrong : ChangeSpec := { name := "fnPrefix", fn := fun _ => fun
  | [d1, d2] => { results := [.lit (.bool false)], args := [d1, d2] }
  | _ => none }
def FnPrefixWrongFalsely : Prop := fnPrefixRow.holds Yahh.pinned (OpenSpec.ofChange fnPrefixWrong)

/-- 'laws.FnFinalFromOutcomes': WHATEVER THE INPUT: true; the input reads as it did. -/
def fnFinalFromOutcomesSpec : ChangeSpec := { name := "fnFinalFromOutcomes", fn := fun _ => fun
  | [d] => { results := [.lit (.bool true)], args := [d] }
  | _ => none }
def fnFinalFromOutcomesRow : OpenClaim := { program := "yafahw", sum := "12361ed272747d50fe0a95761f4331dd820d7b9a296982033829a242003136b5", func := "loop.example/b19/laws.FnFinalFromOutcomes", spec := "fnFinalFromOutcomes", apart := false }
def FnFinalFromOutcomesSaid : Prop := fnFinalFromOutcomesRow.holds Yahh.pinned (OpenSpec.ofChange fnFinalFromOutcomesSpec)

/-- ITS FALSE NEIGHBOUR: 'it returns false'. Refute it at one input. -/
def fnFinalFromOutcomesWrong : ChangeSpec := { name := "fnFinalFromOutcomes", fn := fun _ => fun
  | [d] => { results := [.lit (.bool false)], args := [d] }
  | _ => none }
def FnFinalFromOutcomesWrongFalsely : Prop := fnFinalFromOutcomesRow.holds Yahh.pinned (OpenSpec.ofChange fnFinalFromOutcomesWrong)

/-- 'laws.FnFormat': WHATEVER THE INPUT: true; the input reads as it did. -/
def fnFormatSpec : ChangeSpec := { name := "fnFormat", fn := fun _ => fun
  | [d] => { results := [.lit (.bool true)], args := [d] }
  | _ => none }
def fnFormatRow : OpenClaim := { program := "yafahw", sum := "12361ed272747d50fe0a95761f4331dd820d7b9a296982033829a242003136b5", func := "loop.example/b19/laws.FnFormat", spec := "fnFormat", apart := false }
def FnFormatSaid : Prop := fnFormatRow.holds Yahh.pinned (OpenSpec.ofChange fnFormatSpec)

/-- ITS FALSE NEIGHBOUR: 'it returns false'. Refute it at one input. -/
def fnFormatWrong : ChangeSpec := { name := "fnFormat", fn := fun _ => fun
  | [d] => { results := [.lit (.bool false)], args := [d] }
  | _ => none }
def FnFormatWrongFalsely : Prop := fnFormatRow.holds Yahh.pinned (OpenSpec.ofChange fnFormatWrong)

/-- 'laws.FnReturns': WHATEVER THE INPUT: true; the input reads as it did. -/
def fnReturnsSpec : ChangeSpec := { name := "fnReturns", fn := fun _ => fun
  | [d] => { results := [.lit (.bool true)], args := [d] }
  | _ => none }
def fnReturnsRow : OpenClaim := { program := "yafahw", sum := "12361ed272747d50fe0a95761f4331dd820d7b9a296982033829a242003136b5", func := "loop.example/b19/laws.FnReturns", spec := "fnReturns", apart := false }
def FnReturnsSaid : Prop := fnReturnsRow.holds Yahh.pinned (OpenSpec.ofChange fnReturnsSpec)

/-- ITS FALSE NEIGHBOUR: 'it returns false'. Refute it at one input. -/
def fnReturnsWrong : ChangeSpec := { name := "fnReturns", fn := fun _ => fun
  | [d] => { results := [.lit (.bool false)], args := [d] }
  | _ => none }
def FnReturnsWrongFalsely : Prop := fnReturnsRow.holds Yahh.pinned (OpenSpec.ofChange fnReturnsWrong)

/-- 'laws.FnExactRun': WHATEVER THE INPUT: true; the input reads as it did. -/
def fnExactRunSpec : ChangeSpec := { name := "fnExactRun", fn := fun _ => fun
  | [d] => { results := [.lit (.bool true)], args := [d] }
  | _ => none }
def fnExactRunRow : OpenClaim := { program := "yafahw", sum := "12361ed272747d50fe0a95761f4331dd820d7b9a296982033829a242003136b5", func := "loop.example/b19/laws.FnExactRun", spec := "fnExactRun", apart := false }
def FnExactRunSaid : Prop := fnExactRunRow.holds Yahh.pinned (OpenSpec.ofChange fnExactRunSpec)

/-- ITS FALSE NEIGHBOUR: 'it returns false'. Refute it at one input. -/
def fnExactRunWrong : ChangeSpec := { name := "fnExactRun", fn := fun _ => fun
  | [d] => { results := [.lit (.bool false)], args := [d] }
  | _ => none }
def FnExactRunWrongFalsely : Prop := fnExactRunRow.holds Yahh.pinned (OpenSpec.ofChange fnExactRunWrong)

/-- 'laws.FnExactFinal': WHATEVER THE INPUT: true; the input reads as it did. -/
def fnExactFinalSpec : ChangeSpec := { name := "fnExactFinal", fn := fun _ => fun
  | [d] => { results := [.lit (.bool true)], args := [d] }
  | _ => none }
def fnExactFinalRow : OpenClaim := { program := "yafahw", sum := "12361ed272747d50fe0a95761f4331dd820d7b9a296982033829a242003136b5", func := "loop.example/b19/laws.FnExactFinal", spec := "fnExactFinal", apart := false }
def FnExactFinalSaid : Prop := fnExactFinalRow.holds Yahh.pinned (OpenSpec.ofChange fnExactFinalSpec)

/-- ITS FALSE NEIGHBOUR: 'it returns false'. Refute it at one input. -/
def fnExactFinalWrong : ChangeSpec := { name := "fnExactFinal", fn := fun _ => fun
  | [d] => { results := [.lit (.bool false)], args := [d] }
  | _ => none }
def FnExactFinalWrongFalsely : Prop := fnExactFinalRow.holds Yahh.pinned (OpenSpec.ofChange fnExactFinalWrong)

/-- 'laws.FnExactFormat': WHATEVER THE INPUT: true; the input reads as it did. -/
def fnExactFormatSpec : ChangeSpec := { name := "fnExactFormat", fn := fun _ => fun
  | [d] => { results := [.lit (.bool true)], args := [d] }
  | _ => none }
def fnExactFormatRow : OpenClaim := { program := "yafahw", sum := "12361ed272747d50fe0a95761f4331dd820d7b9a296982033829a242003136b5", func := "loop.example/b19/laws.FnExactFormat", spec := "fnExactFormat", apart := false }
def FnExactFormatSaid : Prop := fnExactFormatRow.holds Yahh.pinned (OpenSpec.ofChange fnExactFormatSpec)

/-- ITS FALSE NEIGHBOUR: 'it returns false'. Refute it at one input. -/
def fnExactFormatWrong : ChangeSpec := { name := "fnExactFormat", fn := fun _ => fun
  | [d] => { results := [.lit (.bool false)], args := [d] }
  | _ => none }
def FnExactFormatWrongFalsely : Prop := fnExactFormatRow.holds Yahh.pinned (OpenSpec.ofChange fnExactFormatWrong)

/-- 'laws.FnExactConstants': WHATEVER THE INPUT: true; the input reads as it did. -/
def fnExactConstantsSpec : ChangeSpec := { name := "fnExactConstants", fn := fun _ => fun
  | [] => { results := [.lit (.bool true)], args := [] }
  | _ => none }
def fnExactConstantsRow : OpenClaim := { program := "yafahw", sum := "12361ed272747d50fe0a95761f4331dd820d7b9a296982033829a242003136b5", func := "loop.example/b19/laws.FnExactConstants", spec := "fnExactConstants", apart := false }
def FnExactConstantsSaid : Prop := fnExactConstantsRow.holds Yahh.pinned (OpenSpec.ofChange fnExactConstantsSpec)

/-- ITS FALSE NEIGHBOUR: 'it returns false'. Refute it at one input. -/
def fnExactConstantsWrong : ChangeSpec := { name := "fnExactConstants", fn := fun _ => fun
  | [] => { results := [.lit (.bool false)], args := [] }
  | _ => none }
def FnExactConstantsWrongFalsely : Prop := fnExactConstantsRow.holds Yahh.pinned (OpenSpec.ofChange fnExactConstantsWrong)

end Rows
end Go.Proofs.Yafahw
