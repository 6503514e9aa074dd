/-
  No cell of these rows narrows 'for every input' (looked for: loops, veiled, ifaces, maps, wideKeys, modest, calm, conditions, laid).
  DERIVED. THE GIVEN ROWS OF THIS SEAT. 9 by the template 'for every input the law returns true; each argument reads behind the call as it read before'; 0 by the template 'total and deterministic' (their statements: YtedlpghakpfjjaaTotals.lean).
  GIVEN WITH THE SEED: the statements are not yours to turn. If you find one false, say at which input.
  Laid BY PROGRAM, IN A SANDBOX (cutbox-rows.mjs): the forced cells as the released guide's own fill.sh prints them over the translation 0ee63749ff16e740… (all of the seat's roots in one cut). By AI agents, Wed Nov 11 2026. No macro, syntax, notation, axiom, sorry.
-/
import Derived.Test.YtedlpghakpfjjaaChecked
import GoSem.Claim
import GoSem.ClaimJoined
import GoSem.ClaimMapViews
import Derived.JoinedTies
import Derived.KernelRfl
namespace Go.Proofs.Ytedlpghakpfjjaa
/- THE CELL 'sum', in the pinned program and in every row, IS THE sha256 OF THE DUMP (.gsa) THAT YtedlpghakpfjjaaProg.lean LOADS. Nothing in Lean hashes anything: it is a label: what it is worth is what the hold of that sum in a sandbox is worth. -/
noncomputable def Try.pinned : Pinned := { name := "ytedlpghakpfjjaa", sum := "0ee63749ff16e74096397ced98c459d04f479dfe44de60d7c611c7390f67b688", checked := Try.checked }
namespace Rows
def none {H : Type} : Left H := { results := [], args := [] }

/-- 'laws.FnExactSaveSum': WHATEVER THE INPUT: true; the input reads as it did. -/
def fnExactSaveSumSpec : ChangeSpec := { name := "fnExactSaveSum", fn := fun _ => fun
  | [d] => { results := [.lit (.bool true)], args := [d] }
  | _ => none }
def fnExactSaveSumRow : OpenClaim := { program := "ytedlpghakpfjjaa", sum := "0ee63749ff16e74096397ced98c459d04f479dfe44de60d7c611c7390f67b688", func := "loop.example/fretwork/laws.FnExactSaveSum", spec := "fnExactSaveSum", apart := false }
def FnExactSaveSumSaid : Prop := fnExactSaveSumRow.holds Try.pinned (OpenSpec.ofChange fnExactSaveSumSpec)

/-- ITS FALSE NEIGHBOUR: 'it returns false'. Refute it at one input. -/
def fnExactSaveSumWrong : ChangeSpec := { name := "fnExactSaveSum", fn := fun _ => fun
  | [d] => { results := [.lit (.bool false)], args := [d] }
  | _ => none }
def FnExactSaveSumWrongFalsely : Prop := fnExactSaveSumRow.holds Try.pinned (OpenSpec.ofChange fnExactSaveSumWrong)

/-- 'laws.FnSaveSum': WHATEVER THE INPUT: true; the input reads as it did. -/
def fnSaveSumSpec : ChangeSpec := { name := "fnSaveSum", fn := fun _ => fun
  | [d1, d2] => { results := [.lit (.bool true)], args := [d1, d2] }
  | _ => none }
def fnSaveSumRow : OpenClaim := { program := "ytedlpghakpfjjaa", sum := "0ee63749ff16e74096397ced98c459d04f479dfe44de60d7c611c7390f67b688", func := "loop.example/fretwork/laws.FnSaveSum", spec := "fnSaveSum", apart := false }
def FnSaveSumSaid : Prop := fnSaveSumRow.holds Try.pinned (OpenSpec.ofChange fnSaveSumSpec)

/-- ITS FALSE NEIGHBOUR: 'it returns false'. Refute it at one input. -/
def fnSaveSumWrong : ChangeSpec := { name := "fnSaveSum", fn := fun _ => fun
  | [d1, d2] => { results := [.lit (.bool false)], args := [d1, d2] }
  | _ => none }
def FnSaveSumWrongFalsely : Prop := fnSaveSumRow.holds Try.pinned (OpenSpec.ofChange fnSaveSumWrong)

/-- 'laws.FnExactSaveWrite': WHATEVER THE INPUT: true; the input reads as it did. -/
def fnExactSaveWriteSpec : ChangeSpec := { name := "fnExactSaveWrite", fn := fun _ => fun
  | [d] => { results := [.lit (.bool true)], args := [d] }
  | _ => none }
def fnExactSaveWriteRow : OpenClaim := { program := "ytedlpghakpfjjaa", sum := "0ee63749ff16e74096397ced98c459d04f479dfe44de60d7c611c7390f67b688", func := "loop.example/fretwork/laws.FnExactSaveWrite", spec := "fnExactSaveWrite", apart := false }
def FnExactSaveWriteSaid : Prop := fnExactSaveWriteRow.holds Try.pinned (OpenSpec.ofChange fnExactSaveWriteSpec)

/-- ITS FALSE NEIGHBOUR: 'it returns false'. Refute it at one input. -/
def fnExactSaveWriteWrong : ChangeSpec := { name := "fnExactSaveWrite", fn := fun _ => fun
  | [d] => { results := [.lit (.bool false)], args := [d] }
  | _ => none }
def FnExactSaveWriteWrongFalsely : Prop := fnExactSaveWriteRow.holds Try.pinned (OpenSpec.ofChange fnExactSaveWriteWrong)

/-- 'laws.FnExactSaveRead': WHATEVER THE INPUT: true; the input reads as it did. -/
def fnExactSaveReadSpec : ChangeSpec := { name := "fnExactSaveRead", fn := fun _ => fun
  | [d] => { results := [.lit (.bool true)], args := [d] }
  | _ => none }
def fnExactSaveReadRow : OpenClaim := { program := "ytedlpghakpfjjaa", sum := "0ee63749ff16e74096397ced98c459d04f479dfe44de60d7c611c7390f67b688", func := "loop.example/fretwork/laws.FnExactSaveRead", spec := "fnExactSaveRead", apart := false }
def FnExactSaveReadSaid : Prop := fnExactSaveReadRow.holds Try.pinned (OpenSpec.ofChange fnExactSaveReadSpec)

/-- ITS FALSE NEIGHBOUR: 'it returns false'. Refute it at one input. -/
def fnExactSaveReadWrong : ChangeSpec := { name := "fnExactSaveRead", fn := fun _ => fun
  | [d] => { results := [.lit (.bool false)], args := [d] }
  | _ => none }
def FnExactSaveReadWrongFalsely : Prop := fnExactSaveReadRow.holds Try.pinned (OpenSpec.ofChange fnExactSaveReadWrong)

/-- 'laws.FnSaveLen': WHATEVER THE INPUT: true; the input reads as it did. -/
def fnSaveLenSpec : ChangeSpec := { name := "fnSaveLen", fn := fun _ => fun
  | [d] => { results := [.lit (.bool true)], args := [d] }
  | _ => none }
def fnSaveLenRow : OpenClaim := { program := "ytedlpghakpfjjaa", sum := "0ee63749ff16e74096397ced98c459d04f479dfe44de60d7c611c7390f67b688", func := "loop.example/fretwork/laws.FnSaveLen", spec := "fnSaveLen", recurses := true, apart := false }
def FnSaveLenSaid : Prop := fnSaveLenRow.holds Try.pinned (OpenSpec.ofChange fnSaveLenSpec)

/-- ITS FALSE NEIGHBOUR: 'it returns false'. Refute it at one input. -/
def fnSaveLenWrong : ChangeSpec := { name := "fnSaveLen", fn := fun _ => fun
  | [d] => { results := [.lit (.bool false)], args := [d] }
  | _ => none }
def FnSaveLenWrongFalsely : Prop := fnSaveLenRow.holds Try.pinned (OpenSpec.ofChange fnSaveLenWrong)

/-- 'laws.FnSaveShort': WHATEVER THE INPUT: true; the input reads as it did. -/
def fnSaveShortSpec : ChangeSpec := { name := "fnSaveShort", fn := fun _ => fun
  | [d] => { results := [.lit (.bool true)], args := [d] }
  | _ => none }
def fnSaveShortRow : OpenClaim := { program := "ytedlpghakpfjjaa", sum := "0ee63749ff16e74096397ced98c459d04f479dfe44de60d7c611c7390f67b688", func := "loop.example/fretwork/laws.FnSaveShort", spec := "fnSaveShort", recurses := true, apart := false }
def FnSaveShortSaid : Prop := fnSaveShortRow.holds Try.pinned (OpenSpec.ofChange fnSaveShortSpec)

/-- ITS FALSE NEIGHBOUR: 'it returns false'. Refute it at one input. -/
def fnSaveShortWrong : ChangeSpec := { name := "fnSaveShort", fn := fun _ => fun
  | [d] => { results := [.lit (.bool false)], args := [d] }
  | _ => none }
def FnSaveShortWrongFalsely : Prop := fnSaveShortRow.holds Try.pinned (OpenSpec.ofChange fnSaveShortWrong)

/-- 'laws.FnSaveSpoilt': WHATEVER THE INPUT: true; the input reads as it did. -/
def fnSaveSpoiltSpec : ChangeSpec := { name := "fnSaveSpoilt", fn := fun _ => fun
  | [d1, d2] => { results := [.lit (.bool true)], args := [d1, d2] }
  | _ => none }
def fnSaveSpoiltRow : OpenClaim := { program := "ytedlpghakpfjjaa", sum := "0ee63749ff16e74096397ced98c459d04f479dfe44de60d7c611c7390f67b688", func := "loop.example/fretwork/laws.FnSaveSpoilt", spec := "fnSaveSpoilt", recurses := true, apart := false }
def FnSaveSpoiltSaid : Prop := fnSaveSpoiltRow.holds Try.pinned (OpenSpec.ofChange fnSaveSpoiltSpec)

/-- ITS FALSE NEIGHBOUR: 'it returns false'. Refute it at one input. -/
def fnSaveSpoiltWrong : ChangeSpec := { name := "fnSaveSpoilt", fn := fun _ => fun
  | [d1, d2] => { results := [.lit (.bool false)], args := [d1, d2] }
  | _ => none }
def FnSaveSpoiltWrongFalsely : Prop := fnSaveSpoiltRow.holds Try.pinned (OpenSpec.ofChange fnSaveSpoiltWrong)

/-- 'laws.FnSaveBack': WHATEVER THE INPUT: true; the input reads as it did. -/
def fnSaveBackSpec : ChangeSpec := { name := "fnSaveBack", fn := fun _ => fun
  | [d] => { results := [.lit (.bool true)], args := [d] }
  | _ => none }
def fnSaveBackRow : OpenClaim := { program := "ytedlpghakpfjjaa", sum := "0ee63749ff16e74096397ced98c459d04f479dfe44de60d7c611c7390f67b688", func := "loop.example/fretwork/laws.FnSaveBack", spec := "fnSaveBack", recurses := true, apart := false }
def FnSaveBackSaid : Prop := fnSaveBackRow.holds Try.pinned (OpenSpec.ofChange fnSaveBackSpec)

/-- ITS FALSE NEIGHBOUR: 'it returns false'. Refute it at one input. -/
def fnSaveBackWrong : ChangeSpec := { name := "fnSaveBack", fn := fun _ => fun
  | [d] => { results := [.lit (.bool false)], args := [d] }
  | _ => none }
def FnSaveBackWrongFalsely : Prop := fnSaveBackRow.holds Try.pinned (OpenSpec.ofChange fnSaveBackWrong)

/-- 'laws.FnSaveStrict': WHATEVER THE INPUT: true; the input reads as it did. -/
def fnSaveStrictSpec : ChangeSpec := { name := "fnSaveStrict", fn := fun _ => fun
  | [d] => { results := [.lit (.bool true)], args := [d] }
  | _ => none }
def fnSaveStrictRow : OpenClaim := { program := "ytedlpghakpfjjaa", sum := "0ee63749ff16e74096397ced98c459d04f479dfe44de60d7c611c7390f67b688", func := "loop.example/fretwork/laws.FnSaveStrict", spec := "fnSaveStrict", recurses := true, apart := false }
def FnSaveStrictSaid : Prop := fnSaveStrictRow.holds Try.pinned (OpenSpec.ofChange fnSaveStrictSpec)

/-- ITS FALSE NEIGHBOUR: 'it returns false'. Refute it at one input. -/
def fnSaveStrictWrong : ChangeSpec := { name := "fnSaveStrict", fn := fun _ => fun
  | [d] => { results := [.lit (.bool false)], args := [d] }
  | _ => none }
def FnSaveStrictWrongFalsely : Prop := fnSaveStrictRow.holds Try.pinned (OpenSpec.ofChange fnSaveStrictWrong)

/- THE SECOND FORM. 'bulk': how many values and letters a reading holds, each counted each time it is reached (what is shared counts as often as it is met; a slice's spare places count too). A statement '..UptoSaid' is the law's where the arguments, and the package variables that the reading takes, are together of bulk at most 1048576: NARROWER than '..Said'. Prove '..Said' where nothing that the law and all that it calls make is longer than what came in: it says more and counts as full. Else prove '..UptoSaid'. A law counts once. -/
mutual
def uptoBulk {H : Type} : DataW H → Nat
  | .lit (.string bytes) => bytes.length + 1
  | .lit _ => 1
  | .nil => 1
  | .ptr d => uptoBulk d + 1
  | .slice elems spare => uptoBulkAll elems + uptoBulkAll spare + 1
  | .agg parts => uptoBulkAll parts + 1
  | .iface _ d => uptoBulk d + 1
  | .map entries => uptoBulkEntries entries + 1
  | .held _ => 1
def uptoBulkAll {H : Type} : List (DataW H) → Nat
  | [] => 0
  | d :: r => uptoBulk d + uptoBulkAll r
def uptoBulkEntries {H : Type} : List (Lit × DataW H) → Nat
  | [] => 0
  | x :: r => uptoBulkEntry x + uptoBulkEntries r
def uptoBulkEntry {H : Type} : Lit × DataW H → Nat
  | (.string bytes, d) => bytes.length + uptoBulk d + 1
  | (_, d) => uptoBulk d + 1
 end
def uptoSmall : (H : Type) → List (DataW H) → Bool := fun _ ds => decide (uptoBulkAll ds ≤ 1048576)
def OpenSpec.upto (s : _root_.Go.ChangeSpec) : _root_.Go.OpenSpec := { _root_.Go.OpenSpec.ofChange s with cond := some uptoSmall }

/-- 'laws.FnExactSaveSum', WHERE WHAT IT READS IS OF BULK AT MOST 1048576: true; the input reads as it did. -/
def fnExactSaveSumUptoRow : OpenClaim := { program := "ytedlpghakpfjjaa", sum := "0ee63749ff16e74096397ced98c459d04f479dfe44de60d7c611c7390f67b688", func := "loop.example/fretwork/laws.FnExactSaveSum", spec := "fnExactSaveSum", apart := false, narrowed := true }
def FnExactSaveSumUptoSaid : Prop := fnExactSaveSumUptoRow.holds Try.pinned (OpenSpec.upto fnExactSaveSumSpec)

/-- 'laws.FnSaveSum', WHERE WHAT IT READS IS OF BULK AT MOST 1048576: true; the input reads as it did. -/
def fnSaveSumUptoRow : OpenClaim := { program := "ytedlpghakpfjjaa", sum := "0ee63749ff16e74096397ced98c459d04f479dfe44de60d7c611c7390f67b688", func := "loop.example/fretwork/laws.FnSaveSum", spec := "fnSaveSum", apart := false, narrowed := true }
def FnSaveSumUptoSaid : Prop := fnSaveSumUptoRow.holds Try.pinned (OpenSpec.upto fnSaveSumSpec)

/-- 'laws.FnExactSaveWrite', WHERE WHAT IT READS IS OF BULK AT MOST 1048576: true; the input reads as it did. -/
def fnExactSaveWriteUptoRow : OpenClaim := { program := "ytedlpghakpfjjaa", sum := "0ee63749ff16e74096397ced98c459d04f479dfe44de60d7c611c7390f67b688", func := "loop.example/fretwork/laws.FnExactSaveWrite", spec := "fnExactSaveWrite", apart := false, narrowed := true }
def FnExactSaveWriteUptoSaid : Prop := fnExactSaveWriteUptoRow.holds Try.pinned (OpenSpec.upto fnExactSaveWriteSpec)

/-- 'laws.FnExactSaveRead', WHERE WHAT IT READS IS OF BULK AT MOST 1048576: true; the input reads as it did. -/
def fnExactSaveReadUptoRow : OpenClaim := { program := "ytedlpghakpfjjaa", sum := "0ee63749ff16e74096397ced98c459d04f479dfe44de60d7c611c7390f67b688", func := "loop.example/fretwork/laws.FnExactSaveRead", spec := "fnExactSaveRead", apart := false, narrowed := true }
def FnExactSaveReadUptoSaid : Prop := fnExactSaveReadUptoRow.holds Try.pinned (OpenSpec.upto fnExactSaveReadSpec)

/-- 'laws.FnSaveLen', WHERE WHAT IT READS IS OF BULK AT MOST 1048576: true; the input reads as it did. -/
def fnSaveLenUptoRow : OpenClaim := { program := "ytedlpghakpfjjaa", sum := "0ee63749ff16e74096397ced98c459d04f479dfe44de60d7c611c7390f67b688", func := "loop.example/fretwork/laws.FnSaveLen", spec := "fnSaveLen", recurses := true, apart := false, narrowed := true }
def FnSaveLenUptoSaid : Prop := fnSaveLenUptoRow.holds Try.pinned (OpenSpec.upto fnSaveLenSpec)

/-- 'laws.FnSaveShort', WHERE WHAT IT READS IS OF BULK AT MOST 1048576: true; the input reads as it did. -/
def fnSaveShortUptoRow : OpenClaim := { program := "ytedlpghakpfjjaa", sum := "0ee63749ff16e74096397ced98c459d04f479dfe44de60d7c611c7390f67b688", func := "loop.example/fretwork/laws.FnSaveShort", spec := "fnSaveShort", recurses := true, apart := false, narrowed := true }
def FnSaveShortUptoSaid : Prop := fnSaveShortUptoRow.holds Try.pinned (OpenSpec.upto fnSaveShortSpec)

/-- 'laws.FnSaveSpoilt', WHERE WHAT IT READS IS OF BULK AT MOST 1048576: true; the input reads as it did. -/
def fnSaveSpoiltUptoRow : OpenClaim := { program := "ytedlpghakpfjjaa", sum := "0ee63749ff16e74096397ced98c459d04f479dfe44de60d7c611c7390f67b688", func := "loop.example/fretwork/laws.FnSaveSpoilt", spec := "fnSaveSpoilt", recurses := true, apart := false, narrowed := true }
def FnSaveSpoiltUptoSaid : Prop := fnSaveSpoiltUptoRow.holds Try.pinned (OpenSpec.upto fnSaveSpoiltSpec)

/-- 'laws.FnSaveBack', WHERE WHAT IT READS IS OF BULK AT MOST 1048576: true; the input reads as it did. -/
def fnSaveBackUptoRow : OpenClaim := { program := "ytedlpghakpfjjaa", sum := "0ee63749ff16e74096397ced98c459d04f479dfe44de60d7c611c7390f67b688", func := "loop.example/fretwork/laws.FnSaveBack", spec := "fnSaveBack", recurses := true, apart := false, narrowed := true }
def FnSaveBackUptoSaid : Prop := fnSaveBackUptoRow.holds Try.pinned (OpenSpec.upto fnSaveBackSpec)

/-- 'laws.FnSaveStrict', WHERE WHAT IT READS IS OF BULK AT MOST 1048576: true; the input reads as it did. -/
def fnSaveStrictUptoRow : OpenClaim := { program := "ytedlpghakpfjjaa", sum := "0ee63749ff16e74096397ced98c459d04f479dfe44de60d7c611c7390f67b688", func := "loop.example/fretwork/laws.FnSaveStrict", spec := "fnSaveStrict", recurses := true, apart := false, narrowed := true }
def FnSaveStrictUptoSaid : Prop := fnSaveStrictUptoRow.holds Try.pinned (OpenSpec.upto fnSaveStrictSpec)

end Rows
end Go.Proofs.Ytedlpghakpfjjaa
