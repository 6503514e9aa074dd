/-
  No cell of these rows narrows 'for every input' (looked for: loops, veiled, ifaces, maps, wideKeys, modest, calm, conditions, laid).
  DERIVED. THE GIVEN ROWS OF THIS SEAT. 9 by the template 'for every input the law returns true; each argument reads behind the call as it read before'; 0 by the template 'total and deterministic' (their statements: YtabbipdkbdojiaaTotals.lean).
  GIVEN WITH THE SEED: the statements are not yours to turn. If you find one false, say at which input.
  Laid BY PROGRAM, IN A SANDBOX (cutbox-rows.mjs): the forced cells as the released guide's own fill.sh prints them over the translation d668a5ca6470ee8a… (all of the seat's roots in one cut). By AI agents, Wed Nov 11 2026. No macro, syntax, notation, axiom, sorry.
-/
import Derived.Test.YtabbipdkbdojiaaChecked
import GoSem.Claim
import GoSem.ClaimJoined
import GoSem.ClaimMapViews
import Derived.JoinedTies
import Derived.KernelRfl
namespace Go.Proofs.Ytabbipdkbdojiaa
/- THE CELL 'sum', in the pinned program and in every row, IS THE sha256 OF THE DUMP (.gsa) THAT YtabbipdkbdojiaaProg.lean LOADS. Nothing in Lean hashes anything: it is a label: what it is worth is what the hold of that sum in a sandbox is worth. -/
noncomputable def Try.pinned : Pinned := { name := "ytabbipdkbdojiaa", sum := "d668a5ca6470ee8a830a8a1e37363dcbe1cf6cb01e771cbaa06f04abd1ed83fc", checked := Try.checked }
namespace Rows
def none {H : Type} : Left H := { results := [], args := [] }

/-- 'laws.FnExactChartEnds': WHATEVER THE INPUT: true; the input reads as it did. -/
def fnExactChartEndsSpec : ChangeSpec := { name := "fnExactChartEnds", fn := fun _ => fun
  | [d1, d2] => { results := [.lit (.bool true)], args := [d1, d2] }
  | _ => none }
def fnExactChartEndsRow : OpenClaim := { program := "ytabbipdkbdojiaa", sum := "d668a5ca6470ee8a830a8a1e37363dcbe1cf6cb01e771cbaa06f04abd1ed83fc", func := "loop.example/fretwork/laws.FnExactChartEnds", spec := "fnExactChartEnds", plainKeys := false, apart := false }
def FnExactChartEndsSaid : Prop := fnExactChartEndsRow.holds Try.pinned (OpenSpec.ofChange fnExactChartEndsSpec)

/-- ITS FALSE NEIGHBOUR: 'it returns false'. Refute it at one input. -/
def fnExactChartEndsWrong : ChangeSpec := { name := "fnExactChartEnds", fn := fun _ => fun
  | [d1, d2] => { results := [.lit (.bool false)], args := [d1, d2] }
  | _ => none }
def FnExactChartEndsWrongFalsely : Prop := fnExactChartEndsRow.holds Try.pinned (OpenSpec.ofChange fnExactChartEndsWrong)

/-- 'laws.FnExactChartNext': WHATEVER THE INPUT: true; the input reads as it did. -/
def fnExactChartNextSpec : ChangeSpec := { name := "fnExactChartNext", fn := fun _ => fun
  | [d1, d2] => { results := [.lit (.bool true)], args := [d1, d2] }
  | _ => none }
def fnExactChartNextRow : OpenClaim := { program := "ytabbipdkbdojiaa", sum := "d668a5ca6470ee8a830a8a1e37363dcbe1cf6cb01e771cbaa06f04abd1ed83fc", func := "loop.example/fretwork/laws.FnExactChartNext", spec := "fnExactChartNext", plainKeys := false, apart := false }
def FnExactChartNextSaid : Prop := fnExactChartNextRow.holds Try.pinned (OpenSpec.ofChange fnExactChartNextSpec)

/-- ITS FALSE NEIGHBOUR: 'it returns false'. Refute it at one input. -/
def fnExactChartNextWrong : ChangeSpec := { name := "fnExactChartNext", fn := fun _ => fun
  | [d1, d2] => { results := [.lit (.bool false)], args := [d1, d2] }
  | _ => none }
def FnExactChartNextWrongFalsely : Prop := fnExactChartNextRow.holds Try.pinned (OpenSpec.ofChange fnExactChartNextWrong)

/-- 'laws.FnExactChartStart': WHATEVER THE INPUT: true; the input reads as it did. -/
def fnExactChartStartSpec : ChangeSpec := { name := "fnExactChartStart", fn := fun _ => fun
  | [d] => { results := [.lit (.bool true)], args := [d] }
  | _ => none }
def fnExactChartStartRow : OpenClaim := { program := "ytabbipdkbdojiaa", sum := "d668a5ca6470ee8a830a8a1e37363dcbe1cf6cb01e771cbaa06f04abd1ed83fc", func := "loop.example/fretwork/laws.FnExactChartStart", spec := "fnExactChartStart", unfollowed := true, recurses := true, plainKeys := false, apart := false }
def FnExactChartStartSaid : Prop := fnExactChartStartRow.holds Try.pinned (OpenSpec.ofChange fnExactChartStartSpec)

/-- ITS FALSE NEIGHBOUR: 'it returns false'. Refute it at one input. -/
def fnExactChartStartWrong : ChangeSpec := { name := "fnExactChartStart", fn := fun _ => fun
  | [d] => { results := [.lit (.bool false)], args := [d] }
  | _ => none }
def FnExactChartStartWrongFalsely : Prop := fnExactChartStartRow.holds Try.pinned (OpenSpec.ofChange fnExactChartStartWrong)

/-- 'laws.FnExactChartOf': WHATEVER THE INPUT: true; the input reads as it did. -/
def fnExactChartOfSpec : ChangeSpec := { name := "fnExactChartOf", fn := fun _ => fun
  | [d1, d2] => { results := [.lit (.bool true)], args := [d1, d2] }
  | _ => none }
def fnExactChartOfRow : OpenClaim := { program := "ytabbipdkbdojiaa", sum := "d668a5ca6470ee8a830a8a1e37363dcbe1cf6cb01e771cbaa06f04abd1ed83fc", func := "loop.example/fretwork/laws.FnExactChartOf", spec := "fnExactChartOf", unfollowed := true, recurses := true, plainKeys := false, apart := false }
def FnExactChartOfSaid : Prop := fnExactChartOfRow.holds Try.pinned (OpenSpec.ofChange fnExactChartOfSpec)

/-- ITS FALSE NEIGHBOUR: 'it returns false'. Refute it at one input. -/
def fnExactChartOfWrong : ChangeSpec := { name := "fnExactChartOf", fn := fun _ => fun
  | [d1, d2] => { results := [.lit (.bool false)], args := [d1, d2] }
  | _ => none }
def FnExactChartOfWrongFalsely : Prop := fnExactChartOfRow.holds Try.pinned (OpenSpec.ofChange fnExactChartOfWrong)

/-- 'laws.FnExactChartStep': WHATEVER THE INPUT: true; the input reads as it did. -/
def fnExactChartStepSpec : ChangeSpec := { name := "fnExactChartStep", fn := fun _ => fun
  | [d1, d2, d3] => { results := [.lit (.bool true)], args := [d1, d2, d3] }
  | _ => none }
def fnExactChartStepRow : OpenClaim := { program := "ytabbipdkbdojiaa", sum := "d668a5ca6470ee8a830a8a1e37363dcbe1cf6cb01e771cbaa06f04abd1ed83fc", func := "loop.example/fretwork/laws.FnExactChartStep", spec := "fnExactChartStep", unfollowed := true, recurses := true, plainKeys := false, apart := false }
def FnExactChartStepSaid : Prop := fnExactChartStepRow.holds Try.pinned (OpenSpec.ofChange fnExactChartStepSpec)

/-- ITS FALSE NEIGHBOUR: 'it returns false'. Refute it at one input. -/
def fnExactChartStepWrong : ChangeSpec := { name := "fnExactChartStep", fn := fun _ => fun
  | [d1, d2, d3] => { results := [.lit (.bool false)], args := [d1, d2, d3] }
  | _ => none }
def FnExactChartStepWrongFalsely : Prop := fnExactChartStepRow.holds Try.pinned (OpenSpec.ofChange fnExactChartStepWrong)

/-- 'laws.FnExactMaskJump': WHATEVER THE INPUT: true; the input reads as it did. -/
def fnExactMaskJumpSpec : ChangeSpec := { name := "fnExactMaskJump", fn := fun _ => fun
  | [d1, d2] => { results := [.lit (.bool true)], args := [d1, d2] }
  | _ => none }
def fnExactMaskJumpRow : OpenClaim := { program := "ytabbipdkbdojiaa", sum := "d668a5ca6470ee8a830a8a1e37363dcbe1cf6cb01e771cbaa06f04abd1ed83fc", func := "loop.example/fretwork/laws.FnExactMaskJump", spec := "fnExactMaskJump", unfollowed := true, recurses := true, plainKeys := false, apart := false }
def FnExactMaskJumpSaid : Prop := fnExactMaskJumpRow.holds Try.pinned (OpenSpec.ofChange fnExactMaskJumpSpec)

/-- ITS FALSE NEIGHBOUR: 'it returns false'. Refute it at one input. -/
def fnExactMaskJumpWrong : ChangeSpec := { name := "fnExactMaskJump", fn := fun _ => fun
  | [d1, d2] => { results := [.lit (.bool false)], args := [d1, d2] }
  | _ => none }
def FnExactMaskJumpWrongFalsely : Prop := fnExactMaskJumpRow.holds Try.pinned (OpenSpec.ofChange fnExactMaskJumpWrong)

/-- 'laws.FnExactMaskOf': WHATEVER THE INPUT: true; the input reads as it did. -/
def fnExactMaskOfSpec : ChangeSpec := { name := "fnExactMaskOf", fn := fun _ => fun
  | [d1, d2, d3] => { results := [.lit (.bool true)], args := [d1, d2, d3] }
  | _ => none }
def fnExactMaskOfRow : OpenClaim := { program := "ytabbipdkbdojiaa", sum := "d668a5ca6470ee8a830a8a1e37363dcbe1cf6cb01e771cbaa06f04abd1ed83fc", func := "loop.example/fretwork/laws.FnExactMaskOf", spec := "fnExactMaskOf", unfollowed := true, recurses := true, plainKeys := false, apart := false }
def FnExactMaskOfSaid : Prop := fnExactMaskOfRow.holds Try.pinned (OpenSpec.ofChange fnExactMaskOfSpec)

/-- ITS FALSE NEIGHBOUR: 'it returns false'. Refute it at one input. -/
def fnExactMaskOfWrong : ChangeSpec := { name := "fnExactMaskOf", fn := fun _ => fun
  | [d1, d2, d3] => { results := [.lit (.bool false)], args := [d1, d2, d3] }
  | _ => none }
def FnExactMaskOfWrongFalsely : Prop := fnExactMaskOfRow.holds Try.pinned (OpenSpec.ofChange fnExactMaskOfWrong)

/-- 'laws.FnExactSessOk': WHATEVER THE INPUT: true; the input reads as it did. -/
def fnExactSessOkSpec : ChangeSpec := { name := "fnExactSessOk", fn := fun _ => fun
  | [d] => { results := [.lit (.bool true)], args := [d] }
  | _ => none }
def fnExactSessOkRow : OpenClaim := { program := "ytabbipdkbdojiaa", sum := "d668a5ca6470ee8a830a8a1e37363dcbe1cf6cb01e771cbaa06f04abd1ed83fc", func := "loop.example/fretwork/laws.FnExactSessOk", spec := "fnExactSessOk", unfollowed := true, recurses := true, plainKeys := false, apart := false }
def FnExactSessOkSaid : Prop := fnExactSessOkRow.holds Try.pinned (OpenSpec.ofChange fnExactSessOkSpec)

/-- ITS FALSE NEIGHBOUR: 'it returns false'. Refute it at one input. -/
def fnExactSessOkWrong : ChangeSpec := { name := "fnExactSessOk", fn := fun _ => fun
  | [d] => { results := [.lit (.bool false)], args := [d] }
  | _ => none }
def FnExactSessOkWrongFalsely : Prop := fnExactSessOkRow.holds Try.pinned (OpenSpec.ofChange fnExactSessOkWrong)

/-- 'laws.FnExactSessEnded': WHATEVER THE INPUT: true; the input reads as it did. -/
def fnExactSessEndedSpec : ChangeSpec := { name := "fnExactSessEnded", fn := fun _ => fun
  | [d] => { results := [.lit (.bool true)], args := [d] }
  | _ => none }
def fnExactSessEndedRow : OpenClaim := { program := "ytabbipdkbdojiaa", sum := "d668a5ca6470ee8a830a8a1e37363dcbe1cf6cb01e771cbaa06f04abd1ed83fc", func := "loop.example/fretwork/laws.FnExactSessEnded", spec := "fnExactSessEnded", unfollowed := true, recurses := true, plainKeys := false, apart := false }
def FnExactSessEndedSaid : Prop := fnExactSessEndedRow.holds Try.pinned (OpenSpec.ofChange fnExactSessEndedSpec)

/-- ITS FALSE NEIGHBOUR: 'it returns false'. Refute it at one input. -/
def fnExactSessEndedWrong : ChangeSpec := { name := "fnExactSessEnded", fn := fun _ => fun
  | [d] => { results := [.lit (.bool false)], args := [d] }
  | _ => none }
def FnExactSessEndedWrongFalsely : Prop := fnExactSessEndedRow.holds Try.pinned (OpenSpec.ofChange fnExactSessEndedWrong)

/- THE SECOND FORM. 'bulk': how many values and letters a reading holds, each counted each time it is reached (what is shared counts as often as it is met; a slice's spare places count too). A statement '..UptoSaid' is the law's where the arguments, and the package variables that the reading takes, are together of bulk at most 1048576: NARROWER than '..Said'. Prove '..Said' where nothing that the law and all that it calls make is longer than what came in: it says more and counts as full. Else prove '..UptoSaid'. A law counts once. -/
mutual
def uptoBulk {H : Type} : DataW H → Nat
  | .lit (.string bytes) => bytes.length + 1
  | .lit _ => 1
  | .nil => 1
  | .ptr d => uptoBulk d + 1
  | .slice elems spare => uptoBulkAll elems + uptoBulkAll spare + 1
  | .agg parts => uptoBulkAll parts + 1
  | .iface _ d => uptoBulk d + 1
  | .map entries => uptoBulkEntries entries + 1
  | .held _ => 1
def uptoBulkAll {H : Type} : List (DataW H) → Nat
  | [] => 0
  | d :: r => uptoBulk d + uptoBulkAll r
def uptoBulkEntries {H : Type} : List (Lit × DataW H) → Nat
  | [] => 0
  | x :: r => uptoBulkEntry x + uptoBulkEntries r
def uptoBulkEntry {H : Type} : Lit × DataW H → Nat
  | (.string bytes, d) => bytes.length + uptoBulk d + 1
  | (_, d) => uptoBulk d + 1
 end
def uptoSmall : (H : Type) → List (DataW H) → Bool := fun _ ds => decide (uptoBulkAll ds ≤ 1048576)
def OpenSpec.upto (s : _root_.Go.ChangeSpec) : _root_.Go.OpenSpec := { _root_.Go.OpenSpec.ofChange s with cond := some uptoSmall }

/-- 'laws.FnExactChartEnds', WHERE WHAT IT READS IS OF BULK AT MOST 1048576: true; the input reads as it did. -/
def fnExactChartEndsUptoRow : OpenClaim := { program := "ytabbipdkbdojiaa", sum := "d668a5ca6470ee8a830a8a1e37363dcbe1cf6cb01e771cbaa06f04abd1ed83fc", func := "loop.example/fretwork/laws.FnExactChartEnds", spec := "fnExactChartEnds", plainKeys := false, apart := false, narrowed := true }
def FnExactChartEndsUptoSaid : Prop := fnExactChartEndsUptoRow.holds Try.pinned (OpenSpec.upto fnExactChartEndsSpec)

/-- 'laws.FnExactChartNext', WHERE WHAT IT READS IS OF BULK AT MOST 1048576: true; the input reads as it did. -/
def fnExactChartNextUptoRow : OpenClaim := { program := "ytabbipdkbdojiaa", sum := "d668a5ca6470ee8a830a8a1e37363dcbe1cf6cb01e771cbaa06f04abd1ed83fc", func := "loop.example/fretwork/laws.FnExactChartNext", spec := "fnExactChartNext", plainKeys := false, apart := false, narrowed := true }
def FnExactChartNextUptoSaid : Prop := fnExactChartNextUptoRow.holds Try.pinned (OpenSpec.upto fnExactChartNextSpec)

/-- 'laws.FnExactChartStart', WHERE WHAT IT READS IS OF BULK AT MOST 1048576: true; the input reads as it did. -/
def fnExactChartStartUptoRow : OpenClaim := { program := "ytabbipdkbdojiaa", sum := "d668a5ca6470ee8a830a8a1e37363dcbe1cf6cb01e771cbaa06f04abd1ed83fc", func := "loop.example/fretwork/laws.FnExactChartStart", spec := "fnExactChartStart", unfollowed := true, recurses := true, plainKeys := false, apart := false, narrowed := true }
def FnExactChartStartUptoSaid : Prop := fnExactChartStartUptoRow.holds Try.pinned (OpenSpec.upto fnExactChartStartSpec)

/-- 'laws.FnExactChartOf', WHERE WHAT IT READS IS OF BULK AT MOST 1048576: true; the input reads as it did. -/
def fnExactChartOfUptoRow : OpenClaim := { program := "ytabbipdkbdojiaa", sum := "d668a5ca6470ee8a830a8a1e37363dcbe1cf6cb01e771cbaa06f04abd1ed83fc", func := "loop.example/fretwork/laws.FnExactChartOf", spec := "fnExactChartOf", unfollowed := true, recurses := true, plainKeys := false, apart := false, narrowed := true }
def FnExactChartOfUptoSaid : Prop := fnExactChartOfUptoRow.holds Try.pinned (OpenSpec.upto fnExactChartOfSpec)

/-- 'laws.FnExactChartStep', WHERE WHAT IT READS IS OF BULK AT MOST 1048576: true; the input reads as it did. -/
def fnExactChartStepUptoRow : OpenClaim := { program := "ytabbipdkbdojiaa", sum := "d668a5ca6470ee8a830a8a1e37363dcbe1cf6cb01e771cbaa06f04abd1ed83fc", func := "loop.example/fretwork/laws.FnExactChartStep", spec := "fnExactChartStep", unfollowed := true, recurses := true, plainKeys := false, apart := false, narrowed := true }
def FnExactChartStepUptoSaid : Prop := fnExactChartStepUptoRow.holds Try.pinned (OpenSpec.upto fnExactChartStepSpec)

/-- 'laws.FnExactMaskJump', WHERE WHAT IT READS IS OF BULK AT MOST 1048576: true; the input reads as it did. -/
def fnExactMaskJumpUptoRow : OpenClaim := { program := "ytabbipdkbdojiaa", sum := "d668a5ca6470ee8a830a8a1e37363dcbe1cf6cb01e771cbaa06f04abd1ed83fc", func := "loop.example/fretwork/laws.FnExactMaskJump", spec := "fnExactMaskJump", unfollowed := true, recurses := true, plainKeys := false, apart := false, narrowed := true }
def FnExactMaskJumpUptoSaid : Prop := fnExactMaskJumpUptoRow.holds Try.pinned (OpenSpec.upto fnExactMaskJumpSpec)

/-- 'laws.FnExactMaskOf', WHERE WHAT IT READS IS OF BULK AT MOST 1048576: true; the input reads as it did. -/
def fnExactMaskOfUptoRow : OpenClaim := { program := "ytabbipdkbdojiaa", sum := "d668a5ca6470ee8a830a8a1e37363dcbe1cf6cb01e771cbaa06f04abd1ed83fc", func := "loop.example/fretwork/laws.FnExactMaskOf", spec := "fnExactMaskOf", unfollowed := true, recurses := true, plainKeys := false, apart := false, narrowed := true }
def FnExactMaskOfUptoSaid : Prop := fnExactMaskOfUptoRow.holds Try.pinned (OpenSpec.upto fnExactMaskOfSpec)

/-- 'laws.FnExactSessOk', WHERE WHAT IT READS IS OF BULK AT MOST 1048576: true; the input reads as it did. -/
def fnExactSessOkUptoRow : OpenClaim := { program := "ytabbipdkbdojiaa", sum := "d668a5ca6470ee8a830a8a1e37363dcbe1cf6cb01e771cbaa06f04abd1ed83fc", func := "loop.example/fretwork/laws.FnExactSessOk", spec := "fnExactSessOk", unfollowed := true, recurses := true, plainKeys := false, apart := false, narrowed := true }
def FnExactSessOkUptoSaid : Prop := fnExactSessOkUptoRow.holds Try.pinned (OpenSpec.upto fnExactSessOkSpec)

/-- 'laws.FnExactSessEnded', WHERE WHAT IT READS IS OF BULK AT MOST 1048576: true; the input reads as it did. -/
def fnExactSessEndedUptoRow : OpenClaim := { program := "ytabbipdkbdojiaa", sum := "d668a5ca6470ee8a830a8a1e37363dcbe1cf6cb01e771cbaa06f04abd1ed83fc", func := "loop.example/fretwork/laws.FnExactSessEnded", spec := "fnExactSessEnded", unfollowed := true, recurses := true, plainKeys := false, apart := false, narrowed := true }
def FnExactSessEndedUptoSaid : Prop := fnExactSessEndedUptoRow.holds Try.pinned (OpenSpec.upto fnExactSessEndedSpec)

end Rows
end Go.Proofs.Ytabbipdkbdojiaa
