/-
  No cell of these rows narrows 'for every input' (looked for: loops, veiled, ifaces, maps, wideKeys, modest, calm, conditions, laid).
  DERIVED. THE GIVEN ROWS OF THIS SEAT. 9 by the template 'for every input the law returns true; each argument reads behind the call as it read before'; 0 by the template 'total and deterministic' (their statements: YtjobkhnanbkcjaaTotals.lean).
  GIVEN WITH THE SEED: the statements are not yours to turn. If you find one false, say at which input.
  Laid BY PROGRAM, IN A SANDBOX (cutbox-rows.mjs): the forced cells as the released guide's own fill.sh prints them over the translation c498e6baf55102b0… (all of the seat's roots in one cut). By AI agents, Wed Nov 11 2026. No macro, syntax, notation, axiom, sorry.
-/
import Derived.Test.YtjobkhnanbkcjaaChecked
import GoSem.Claim
import GoSem.ClaimJoined
import GoSem.ClaimMapViews
import Derived.JoinedTies
import Derived.KernelRfl
namespace Go.Proofs.Ytjobkhnanbkcjaa
/- THE CELL 'sum', in the pinned program and in every row, IS THE sha256 OF THE DUMP (.gsa) THAT YtjobkhnanbkcjaaProg.lean LOADS. Nothing in Lean hashes anything: it is a label: what it is worth is what the hold of that sum in a sandbox is worth. -/
noncomputable def Try.pinned : Pinned := { name := "ytjobkhnanbkcjaa", sum := "c498e6baf55102b095ea3fc794b41b150fa76375ea126d7bfc95c81f770bb383", checked := Try.checked }
namespace Rows
def none {H : Type} : Left H := { results := [], args := [] }

/-- 'pianolalaw18.IrRows': WHATEVER THE INPUT: true; the input reads as it did. -/
def irRowsSpec : ChangeSpec := { name := "irRows", fn := fun _ => fun
  | [d1, d2, d3] => { results := [.lit (.bool true)], args := [d1, d2, d3] }
  | _ => none }
def irRowsRow : OpenClaim := { program := "ytjobkhnanbkcjaa", sum := "c498e6baf55102b095ea3fc794b41b150fa76375ea126d7bfc95c81f770bb383", func := "pianola/pianolalaw18.IrRows", spec := "irRows", unfollowed := true, recurses := true, apart := false }
def IrRowsSaid : Prop := irRowsRow.holds Try.pinned (OpenSpec.ofChange irRowsSpec)

/-- ITS FALSE NEIGHBOUR: 'it returns false'. Refute it at one input. -/
def irRowsWrong : ChangeSpec := { name := "irRows", fn := fun _ => fun
  | [d1, d2, d3] => { results := [.lit (.bool false)], args := [d1, d2, d3] }
  | _ => none }
def IrRowsWrongFalsely : Prop := irRowsRow.holds Try.pinned (OpenSpec.ofChange irRowsWrong)

/-- 'pianolalaw18.IrNumbers': WHATEVER THE INPUT: true; the input reads as it did. -/
def irNumbersSpec : ChangeSpec := { name := "irNumbers", fn := fun _ => fun
  | [] => { results := [.lit (.bool true)], args := [] }
  | _ => none }
def irNumbersRow : OpenClaim := { program := "ytjobkhnanbkcjaa", sum := "c498e6baf55102b095ea3fc794b41b150fa76375ea126d7bfc95c81f770bb383", func := "pianola/pianolalaw18.IrNumbers", spec := "irNumbers", unfollowed := true, recurses := true, apart := false }
def IrNumbersSaid : Prop := irNumbersRow.holds Try.pinned (OpenSpec.ofChange irNumbersSpec)

/-- ITS FALSE NEIGHBOUR: 'it returns false'. Refute it at one input. -/
def irNumbersWrong : ChangeSpec := { name := "irNumbers", fn := fun _ => fun
  | [] => { results := [.lit (.bool false)], args := [] }
  | _ => none }
def IrNumbersWrongFalsely : Prop := irNumbersRow.holds Try.pinned (OpenSpec.ofChange irNumbersWrong)

/-- 'pianolalaw18.IrTells': WHATEVER THE INPUT: true; the input reads as it did. -/
def irTellsSpec : ChangeSpec := { name := "irTells", fn := fun _ => fun
  | [d1, d2] => { results := [.lit (.bool true)], args := [d1, d2] }
  | _ => none }
def irTellsRow : OpenClaim := { program := "ytjobkhnanbkcjaa", sum := "c498e6baf55102b095ea3fc794b41b150fa76375ea126d7bfc95c81f770bb383", func := "pianola/pianolalaw18.IrTells", spec := "irTells", unfollowed := true, recurses := true, apart := false }
def IrTellsSaid : Prop := irTellsRow.holds Try.pinned (OpenSpec.ofChange irTellsSpec)

/-- ITS FALSE NEIGHBOUR: 'it returns false'. Refute it at one input. -/
def irTellsWrong : ChangeSpec := { name := "irTells", fn := fun _ => fun
  | [d1, d2] => { results := [.lit (.bool false)], args := [d1, d2] }
  | _ => none }
def IrTellsWrongFalsely : Prop := irTellsRow.holds Try.pinned (OpenSpec.ofChange irTellsWrong)

/-- 'pianolalaw18.IrCells': WHATEVER THE INPUT: true; the input reads as it did. -/
def irCellsSpec : ChangeSpec := { name := "irCells", fn := fun _ => fun
  | [d1, d2, d3] => { results := [.lit (.bool true)], args := [d1, d2, d3] }
  | _ => none }
def irCellsRow : OpenClaim := { program := "ytjobkhnanbkcjaa", sum := "c498e6baf55102b095ea3fc794b41b150fa76375ea126d7bfc95c81f770bb383", func := "pianola/pianolalaw18.IrCells", spec := "irCells", unfollowed := true, recurses := true, apart := false }
def IrCellsSaid : Prop := irCellsRow.holds Try.pinned (OpenSpec.ofChange irCellsSpec)

/-- ITS FALSE NEIGHBOUR: 'it returns false'. Refute it at one input. -/
def irCellsWrong : ChangeSpec := { name := "irCells", fn := fun _ => fun
  | [d1, d2, d3] => { results := [.lit (.bool false)], args := [d1, d2, d3] }
  | _ => none }
def IrCellsWrongFalsely : Prop := irCellsRow.holds Try.pinned (OpenSpec.ofChange irCellsWrong)

/-- 'pianolalaw20.OptNumbers': WHATEVER THE INPUT: true; the input reads as it did. -/
def optNumbersSpec : ChangeSpec := { name := "optNumbers", fn := fun _ => fun
  | [] => { results := [.lit (.bool true)], args := [] }
  | _ => none }
def optNumbersRow : OpenClaim := { program := "ytjobkhnanbkcjaa", sum := "c498e6baf55102b095ea3fc794b41b150fa76375ea126d7bfc95c81f770bb383", func := "pianola/pianolalaw20.OptNumbers", spec := "optNumbers", unfollowed := true, recurses := true, apart := false }
def OptNumbersSaid : Prop := optNumbersRow.holds Try.pinned (OpenSpec.ofChange optNumbersSpec)

/-- ITS FALSE NEIGHBOUR: 'it returns false'. Refute it at one input. -/
def optNumbersWrong : ChangeSpec := { name := "optNumbers", fn := fun _ => fun
  | [] => { results := [.lit (.bool false)], args := [] }
  | _ => none }
def OptNumbersWrongFalsely : Prop := optNumbersRow.holds Try.pinned (OpenSpec.ofChange optNumbersWrong)

/-- 'pianolalaw20.OptSame': WHATEVER THE INPUT: true; the input reads as it did. -/
def optSameSpec : ChangeSpec := { name := "optSame", fn := fun _ => fun
  | [d1, d2] => { results := [.lit (.bool true)], args := [d1, d2] }
  | _ => none }
def optSameRow : OpenClaim := { program := "ytjobkhnanbkcjaa", sum := "c498e6baf55102b095ea3fc794b41b150fa76375ea126d7bfc95c81f770bb383", func := "pianola/pianolalaw20.OptSame", spec := "optSame", unfollowed := true, recurses := true, apart := false }
def OptSameSaid : Prop := optSameRow.holds Try.pinned (OpenSpec.ofChange optSameSpec)

/-- ITS FALSE NEIGHBOUR: 'it returns false'. Refute it at one input. -/
def optSameWrong : ChangeSpec := { name := "optSame", fn := fun _ => fun
  | [d1, d2] => { results := [.lit (.bool false)], args := [d1, d2] }
  | _ => none }
def OptSameWrongFalsely : Prop := optSameRow.holds Try.pinned (OpenSpec.ofChange optSameWrong)

/-- 'pianolalaw20.OptDead': WHATEVER THE INPUT: true; the input reads as it did. -/
def optDeadSpec : ChangeSpec := { name := "optDead", fn := fun _ => fun
  | [d] => { results := [.lit (.bool true)], args := [d] }
  | _ => none }
def optDeadRow : OpenClaim := { program := "ytjobkhnanbkcjaa", sum := "c498e6baf55102b095ea3fc794b41b150fa76375ea126d7bfc95c81f770bb383", func := "pianola/pianolalaw20.OptDead", spec := "optDead", unfollowed := true, recurses := true, apart := false }
def OptDeadSaid : Prop := optDeadRow.holds Try.pinned (OpenSpec.ofChange optDeadSpec)

/-- ITS FALSE NEIGHBOUR: 'it returns false'. Refute it at one input. -/
def optDeadWrong : ChangeSpec := { name := "optDead", fn := fun _ => fun
  | [d] => { results := [.lit (.bool false)], args := [d] }
  | _ => none }
def OptDeadWrongFalsely : Prop := optDeadRow.holds Try.pinned (OpenSpec.ofChange optDeadWrong)

/-- 'pianolalaw20.OptFolds': WHATEVER THE INPUT: true; the input reads as it did. -/
def optFoldsSpec : ChangeSpec := { name := "optFolds", fn := fun _ => fun
  | [d1, d2] => { results := [.lit (.bool true)], args := [d1, d2] }
  | _ => none }
def optFoldsRow : OpenClaim := { program := "ytjobkhnanbkcjaa", sum := "c498e6baf55102b095ea3fc794b41b150fa76375ea126d7bfc95c81f770bb383", func := "pianola/pianolalaw20.OptFolds", spec := "optFolds", unfollowed := true, recurses := true, apart := false }
def OptFoldsSaid : Prop := optFoldsRow.holds Try.pinned (OpenSpec.ofChange optFoldsSpec)

/-- ITS FALSE NEIGHBOUR: 'it returns false'. Refute it at one input. -/
def optFoldsWrong : ChangeSpec := { name := "optFolds", fn := fun _ => fun
  | [d1, d2] => { results := [.lit (.bool false)], args := [d1, d2] }
  | _ => none }
def OptFoldsWrongFalsely : Prop := optFoldsRow.holds Try.pinned (OpenSpec.ofChange optFoldsWrong)

/-- 'pianolalaw20.OptLifts': WHATEVER THE INPUT: true; the input reads as it did. -/
def optLiftsSpec : ChangeSpec := { name := "optLifts", fn := fun _ => fun
  | [d1, d2, d3] => { results := [.lit (.bool true)], args := [d1, d2, d3] }
  | _ => none }
def optLiftsRow : OpenClaim := { program := "ytjobkhnanbkcjaa", sum := "c498e6baf55102b095ea3fc794b41b150fa76375ea126d7bfc95c81f770bb383", func := "pianola/pianolalaw20.OptLifts", spec := "optLifts", unfollowed := true, recurses := true, apart := false }
def OptLiftsSaid : Prop := optLiftsRow.holds Try.pinned (OpenSpec.ofChange optLiftsSpec)

/-- ITS FALSE NEIGHBOUR: 'it returns false'. Refute it at one input. -/
def optLiftsWrong : ChangeSpec := { name := "optLifts", fn := fun _ => fun
  | [d1, d2, d3] => { results := [.lit (.bool false)], args := [d1, d2, d3] }
  | _ => none }
def OptLiftsWrongFalsely : Prop := optLiftsRow.holds Try.pinned (OpenSpec.ofChange optLiftsWrong)

/- THE SECOND FORM. 'bulk': how many values and letters a reading holds, each counted each time it is reached (what is shared counts as often as it is met; a slice's spare places count too). A statement '..UptoSaid' is the law's where the arguments, and the package variables that the reading takes, are together of bulk at most 1048576: NARROWER than '..Said'. Prove '..Said' where nothing that the law and all that it calls make is longer than what came in: it says more and counts as full. Else prove '..UptoSaid'. A law counts once. -/
mutual
def uptoBulk {H : Type} : DataW H → Nat
  | .lit (.string bytes) => bytes.length + 1
  | .lit _ => 1
  | .nil => 1
  | .ptr d => uptoBulk d + 1
  | .slice elems spare => uptoBulkAll elems + uptoBulkAll spare + 1
  | .agg parts => uptoBulkAll parts + 1
  | .iface _ d => uptoBulk d + 1
  | .map entries => uptoBulkEntries entries + 1
  | .held _ => 1
def uptoBulkAll {H : Type} : List (DataW H) → Nat
  | [] => 0
  | d :: r => uptoBulk d + uptoBulkAll r
def uptoBulkEntries {H : Type} : List (Lit × DataW H) → Nat
  | [] => 0
  | x :: r => uptoBulkEntry x + uptoBulkEntries r
def uptoBulkEntry {H : Type} : Lit × DataW H → Nat
  | (.string bytes, d) => bytes.length + uptoBulk d + 1
  | (_, d) => uptoBulk d + 1
 end
def uptoSmall : (H : Type) → List (DataW H) → Bool := fun _ ds => decide (uptoBulkAll ds ≤ 1048576)
def OpenSpec.upto (s : _root_.Go.ChangeSpec) : _root_.Go.OpenSpec := { _root_.Go.OpenSpec.ofChange s with cond := some uptoSmall }

/-- 'pianolalaw18.IrRows', WHERE WHAT IT READS IS OF BULK AT MOST 1048576: true; the input reads as it did. -/
def irRowsUptoRow : OpenClaim := { program := "ytjobkhnanbkcjaa", sum := "c498e6baf55102b095ea3fc794b41b150fa76375ea126d7bfc95c81f770bb383", func := "pianola/pianolalaw18.IrRows", spec := "irRows", unfollowed := true, recurses := true, apart := false, narrowed := true }
def IrRowsUptoSaid : Prop := irRowsUptoRow.holds Try.pinned (OpenSpec.upto irRowsSpec)

/-- 'pianolalaw18.IrNumbers', WHERE WHAT IT READS IS OF BULK AT MOST 1048576: true; the input reads as it did. -/
def irNumbersUptoRow : OpenClaim := { program := "ytjobkhnanbkcjaa", sum := "c498e6baf55102b095ea3fc794b41b150fa76375ea126d7bfc95c81f770bb383", func := "pianola/pianolalaw18.IrNumbers", spec := "irNumbers", unfollowed := true, recurses := true, apart := false, narrowed := true }
def IrNumbersUptoSaid : Prop := irNumbersUptoRow.holds Try.pinned (OpenSpec.upto irNumbersSpec)

/-- 'pianolalaw18.IrTells', WHERE WHAT IT READS IS OF BULK AT MOST 1048576: true; the input reads as it did. -/
def irTellsUptoRow : OpenClaim := { program := "ytjobkhnanbkcjaa", sum := "c498e6baf55102b095ea3fc794b41b150fa76375ea126d7bfc95c81f770bb383", func := "pianola/pianolalaw18.IrTells", spec := "irTells", unfollowed := true, recurses := true, apart := false, narrowed := true }
def IrTellsUptoSaid : Prop := irTellsUptoRow.holds Try.pinned (OpenSpec.upto irTellsSpec)

/-- 'pianolalaw18.IrCells', WHERE WHAT IT READS IS OF BULK AT MOST 1048576: true; the input reads as it did. -/
def irCellsUptoRow : OpenClaim := { program := "ytjobkhnanbkcjaa", sum := "c498e6baf55102b095ea3fc794b41b150fa76375ea126d7bfc95c81f770bb383", func := "pianola/pianolalaw18.IrCells", spec := "irCells", unfollowed := true, recurses := true, apart := false, narrowed := true }
def IrCellsUptoSaid : Prop := irCellsUptoRow.holds Try.pinned (OpenSpec.upto irCellsSpec)

/-- 'pianolalaw20.OptNumbers', WHERE WHAT IT READS IS OF BULK AT MOST 1048576: true; the input reads as it did. -/
def optNumbersUptoRow : OpenClaim := { program := "ytjobkhnanbkcjaa", sum := "c498e6baf55102b095ea3fc794b41b150fa76375ea126d7bfc95c81f770bb383", func := "pianola/pianolalaw20.OptNumbers", spec := "optNumbers", unfollowed := true, recurses := true, apart := false, narrowed := true }
def OptNumbersUptoSaid : Prop := optNumbersUptoRow.holds Try.pinned (OpenSpec.upto optNumbersSpec)

/-- 'pianolalaw20.OptSame', WHERE WHAT IT READS IS OF BULK AT MOST 1048576: true; the input reads as it did. -/
def optSameUptoRow : OpenClaim := { program := "ytjobkhnanbkcjaa", sum := "c498e6baf55102b095ea3fc794b41b150fa76375ea126d7bfc95c81f770bb383", func := "pianola/pianolalaw20.OptSame", spec := "optSame", unfollowed := true, recurses := true, apart := false, narrowed := true }
def OptSameUptoSaid : Prop := optSameUptoRow.holds Try.pinned (OpenSpec.upto optSameSpec)

/-- 'pianolalaw20.OptDead', WHERE WHAT IT READS IS OF BULK AT MOST 1048576: true; the input reads as it did. -/
def optDeadUptoRow : OpenClaim := { program := "ytjobkhnanbkcjaa", sum := "c498e6baf55102b095ea3fc794b41b150fa76375ea126d7bfc95c81f770bb383", func := "pianola/pianolalaw20.OptDead", spec := "optDead", unfollowed := true, recurses := true, apart := false, narrowed := true }
def OptDeadUptoSaid : Prop := optDeadUptoRow.holds Try.pinned (OpenSpec.upto optDeadSpec)

/-- 'pianolalaw20.OptFolds', WHERE WHAT IT READS IS OF BULK AT MOST 1048576: true; the input reads as it did. -/
def optFoldsUptoRow : OpenClaim := { program := "ytjobkhnanbkcjaa", sum := "c498e6baf55102b095ea3fc794b41b150fa76375ea126d7bfc95c81f770bb383", func := "pianola/pianolalaw20.OptFolds", spec := "optFolds", unfollowed := true, recurses := true, apart := false, narrowed := true }
def OptFoldsUptoSaid : Prop := optFoldsUptoRow.holds Try.pinned (OpenSpec.upto optFoldsSpec)

/-- 'pianolalaw20.OptLifts', WHERE WHAT IT READS IS OF BULK AT MOST 1048576: true; the input reads as it did. -/
def optLiftsUptoRow : OpenClaim := { program := "ytjobkhnanbkcjaa", sum := "c498e6baf55102b095ea3fc794b41b150fa76375ea126d7bfc95c81f770bb383", func := "pianola/pianolalaw20.OptLifts", spec := "optLifts", unfollowed := true, recurses := true, apart := false, narrowed := true }
def OptLiftsUptoSaid : Prop := optLiftsUptoRow.holds Try.pinned (OpenSpec.upto optLiftsSpec)

end Rows
end Go.Proofs.Ytjobkhnanbkcjaa
