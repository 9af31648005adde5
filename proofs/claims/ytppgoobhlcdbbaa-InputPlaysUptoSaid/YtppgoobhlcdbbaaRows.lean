/-
  No cell of these rows narrows 'for every input' (looked for: loops, veiled, ifaces, maps, wideKeys, modest, calm, conditions, laid).
  DERIVED. THE GIVEN ROWS OF THIS SEAT. 12 by the template 'for every input the law returns true; each argument reads behind the call as it read before'; 0 by the template 'total and deterministic' (their statements: YtppgoobhlcdbbaaTotals.lean).
  GIVEN WITH THE SEED: the statements are not yours to turn. If you find one false, say at which input.
  Laid BY PROGRAM, IN A SANDBOX (cutbox-rows.mjs): the forced cells as the released guide's own fill.sh prints them over the translation 5211bb0121d13196… (all of the seat's roots in one cut). By AI agents, Wed Nov 11 2026. No macro, syntax, notation, axiom, sorry.
-/
import Derived.Test.YtppgoobhlcdbbaaChecked
import GoSem.Claim
import GoSem.ClaimJoined
import GoSem.ClaimMapViews
import Derived.JoinedTies
import Derived.KernelRfl
namespace Go.Proofs.Ytppgoobhlcdbbaa
/- THE CELL 'sum', in the pinned program and in every row, IS THE sha256 OF THE DUMP (.gsa) THAT YtppgoobhlcdbbaaProg.lean LOADS. Nothing in Lean hashes anything: it is a label: what it is worth is what the hold of that sum in a sandbox is worth. -/
noncomputable def Try.pinned : Pinned := { name := "ytppgoobhlcdbbaa", sum := "5211bb0121d13196e72109e7129cb1b178f597fab8b4ccecf3b744d0370ceb45", checked := Try.checked }
namespace Rows
def none {H : Type} : Left H := { results := [], args := [] }

/-- 'pianolalaw10.LinesNumbers': WHATEVER THE INPUT: true; the input reads as it did. -/
def linesNumbersSpec : ChangeSpec := { name := "linesNumbers", fn := fun _ => fun
  | [] => { results := [.lit (.bool true)], args := [] }
  | _ => none }
def linesNumbersRow : OpenClaim := { program := "ytppgoobhlcdbbaa", sum := "5211bb0121d13196e72109e7129cb1b178f597fab8b4ccecf3b744d0370ceb45", func := "pianola/pianolalaw10.LinesNumbers", spec := "linesNumbers", apart := false }
def LinesNumbersSaid : Prop := linesNumbersRow.holds Try.pinned (OpenSpec.ofChange linesNumbersSpec)

/-- ITS FALSE NEIGHBOUR: 'it returns false'. Refute it at one input. -/
def linesNumbersWrong : ChangeSpec := { name := "linesNumbers", fn := fun _ => fun
  | [] => { results := [.lit (.bool false)], args := [] }
  | _ => none }
def LinesNumbersWrongFalsely : Prop := linesNumbersRow.holds Try.pinned (OpenSpec.ofChange linesNumbersWrong)

/-- 'pianolalaw10.LinesPlays': WHATEVER THE INPUT: true; the input reads as it did. -/
def linesPlaysSpec : ChangeSpec := { name := "linesPlays", fn := fun _ => fun
  | [d] => { results := [.lit (.bool true)], args := [d] }
  | _ => none }
def linesPlaysRow : OpenClaim := { program := "ytppgoobhlcdbbaa", sum := "5211bb0121d13196e72109e7129cb1b178f597fab8b4ccecf3b744d0370ceb45", func := "pianola/pianolalaw10.LinesPlays", spec := "linesPlays", apart := false }
def LinesPlaysSaid : Prop := linesPlaysRow.holds Try.pinned (OpenSpec.ofChange linesPlaysSpec)

/-- ITS FALSE NEIGHBOUR: 'it returns false'. Refute it at one input. -/
def linesPlaysWrong : ChangeSpec := { name := "linesPlays", fn := fun _ => fun
  | [d] => { results := [.lit (.bool false)], args := [d] }
  | _ => none }
def LinesPlaysWrongFalsely : Prop := linesPlaysRow.holds Try.pinned (OpenSpec.ofChange linesPlaysWrong)

/-- 'pianolalaw10.LinesMask': WHATEVER THE INPUT: true; the input reads as it did. -/
def linesMaskSpec : ChangeSpec := { name := "linesMask", fn := fun _ => fun
  | [d1, d2] => { results := [.lit (.bool true)], args := [d1, d2] }
  | _ => none }
def linesMaskRow : OpenClaim := { program := "ytppgoobhlcdbbaa", sum := "5211bb0121d13196e72109e7129cb1b178f597fab8b4ccecf3b744d0370ceb45", func := "pianola/pianolalaw10.LinesMask", spec := "linesMask", apart := false }
def LinesMaskSaid : Prop := linesMaskRow.holds Try.pinned (OpenSpec.ofChange linesMaskSpec)

/-- ITS FALSE NEIGHBOUR: 'it returns false'. Refute it at one input. -/
def linesMaskWrong : ChangeSpec := { name := "linesMask", fn := fun _ => fun
  | [d1, d2] => { results := [.lit (.bool false)], args := [d1, d2] }
  | _ => none }
def LinesMaskWrongFalsely : Prop := linesMaskRow.holds Try.pinned (OpenSpec.ofChange linesMaskWrong)

/-- 'pianolalaw24.InputNumbers': WHATEVER THE INPUT: true; the input reads as it did. -/
def inputNumbersSpec : ChangeSpec := { name := "inputNumbers", fn := fun _ => fun
  | [] => { results := [.lit (.bool true)], args := [] }
  | _ => none }
def inputNumbersRow : OpenClaim := { program := "ytppgoobhlcdbbaa", sum := "5211bb0121d13196e72109e7129cb1b178f597fab8b4ccecf3b744d0370ceb45", func := "pianola/pianolalaw24.InputNumbers", spec := "inputNumbers", unfollowed := true, recurses := true, apart := false }
def InputNumbersSaid : Prop := inputNumbersRow.holds Try.pinned (OpenSpec.ofChange inputNumbersSpec)

/-- ITS FALSE NEIGHBOUR: 'it returns false'. Refute it at one input. -/
def inputNumbersWrong : ChangeSpec := { name := "inputNumbers", fn := fun _ => fun
  | [] => { results := [.lit (.bool false)], args := [] }
  | _ => none }
def InputNumbersWrongFalsely : Prop := inputNumbersRow.holds Try.pinned (OpenSpec.ofChange inputNumbersWrong)

/-- 'pianolalaw24.InputPlays': WHATEVER THE INPUT: true; the input reads as it did. -/
def inputPlaysSpec : ChangeSpec := { name := "inputPlays", fn := fun _ => fun
  | [d1, d2] => { results := [.lit (.bool true)], args := [d1, d2] }
  | _ => none }
def inputPlaysRow : OpenClaim := { program := "ytppgoobhlcdbbaa", sum := "5211bb0121d13196e72109e7129cb1b178f597fab8b4ccecf3b744d0370ceb45", func := "pianola/pianolalaw24.InputPlays", spec := "inputPlays", unfollowed := true, recurses := true, apart := false }
def InputPlaysSaid : Prop := inputPlaysRow.holds Try.pinned (OpenSpec.ofChange inputPlaysSpec)

/-- ITS FALSE NEIGHBOUR: 'it returns false'. Refute it at one input. -/
def inputPlaysWrong : ChangeSpec := { name := "inputPlays", fn := fun _ => fun
  | [d1, d2] => { results := [.lit (.bool false)], args := [d1, d2] }
  | _ => none }
def InputPlaysWrongFalsely : Prop := inputPlaysRow.holds Try.pinned (OpenSpec.ofChange inputPlaysWrong)

/-- 'pianolalaw24.InputParts': WHATEVER THE INPUT: true; the input reads as it did. -/
def inputPartsSpec : ChangeSpec := { name := "inputParts", fn := fun _ => fun
  | [d1, d2] => { results := [.lit (.bool true)], args := [d1, d2] }
  | _ => none }
def inputPartsRow : OpenClaim := { program := "ytppgoobhlcdbbaa", sum := "5211bb0121d13196e72109e7129cb1b178f597fab8b4ccecf3b744d0370ceb45", func := "pianola/pianolalaw24.InputParts", spec := "inputParts", unfollowed := true, recurses := true, apart := false }
def InputPartsSaid : Prop := inputPartsRow.holds Try.pinned (OpenSpec.ofChange inputPartsSpec)

/-- ITS FALSE NEIGHBOUR: 'it returns false'. Refute it at one input. -/
def inputPartsWrong : ChangeSpec := { name := "inputParts", fn := fun _ => fun
  | [d1, d2] => { results := [.lit (.bool false)], args := [d1, d2] }
  | _ => none }
def InputPartsWrongFalsely : Prop := inputPartsRow.holds Try.pinned (OpenSpec.ofChange inputPartsWrong)

/-- 'pianolalaw9.WheelOrder': WHATEVER THE INPUT: true; the input reads as it did. -/
def wheelOrderSpec : ChangeSpec := { name := "wheelOrder", fn := fun _ => fun
  | [d] => { results := [.lit (.bool true)], args := [d] }
  | _ => none }
def wheelOrderRow : OpenClaim := { program := "ytppgoobhlcdbbaa", sum := "5211bb0121d13196e72109e7129cb1b178f597fab8b4ccecf3b744d0370ceb45", func := "pianola/pianolalaw9.WheelOrder", spec := "wheelOrder", unfollowed := true, recurses := true, apart := false }
def WheelOrderSaid : Prop := wheelOrderRow.holds Try.pinned (OpenSpec.ofChange wheelOrderSpec)

/-- ITS FALSE NEIGHBOUR: 'it returns false'. Refute it at one input. -/
def wheelOrderWrong : ChangeSpec := { name := "wheelOrder", fn := fun _ => fun
  | [d] => { results := [.lit (.bool false)], args := [d] }
  | _ => none }
def WheelOrderWrongFalsely : Prop := wheelOrderRow.holds Try.pinned (OpenSpec.ofChange wheelOrderWrong)

/-- 'pianolalaw9.WheelAnew': WHATEVER THE INPUT: true; the input reads as it did. -/
def wheelAnewSpec : ChangeSpec := { name := "wheelAnew", fn := fun _ => fun
  | [d1, d2, d3] => { results := [.lit (.bool true)], args := [d1, d2, d3] }
  | _ => none }
def wheelAnewRow : OpenClaim := { program := "ytppgoobhlcdbbaa", sum := "5211bb0121d13196e72109e7129cb1b178f597fab8b4ccecf3b744d0370ceb45", func := "pianola/pianolalaw9.WheelAnew", spec := "wheelAnew", unfollowed := true, recurses := true, apart := false }
def WheelAnewSaid : Prop := wheelAnewRow.holds Try.pinned (OpenSpec.ofChange wheelAnewSpec)

/-- ITS FALSE NEIGHBOUR: 'it returns false'. Refute it at one input. -/
def wheelAnewWrong : ChangeSpec := { name := "wheelAnew", fn := fun _ => fun
  | [d1, d2, d3] => { results := [.lit (.bool false)], args := [d1, d2, d3] }
  | _ => none }
def WheelAnewWrongFalsely : Prop := wheelAnewRow.holds Try.pinned (OpenSpec.ofChange wheelAnewWrong)

/-- 'pianolalaw9.WheelNumbers': WHATEVER THE INPUT: true; the input reads as it did. -/
def wheelNumbersSpec : ChangeSpec := { name := "wheelNumbers", fn := fun _ => fun
  | [] => { results := [.lit (.bool true)], args := [] }
  | _ => none }
def wheelNumbersRow : OpenClaim := { program := "ytppgoobhlcdbbaa", sum := "5211bb0121d13196e72109e7129cb1b178f597fab8b4ccecf3b744d0370ceb45", func := "pianola/pianolalaw9.WheelNumbers", spec := "wheelNumbers", unfollowed := true, recurses := true, apart := false }
def WheelNumbersSaid : Prop := wheelNumbersRow.holds Try.pinned (OpenSpec.ofChange wheelNumbersSpec)

/-- ITS FALSE NEIGHBOUR: 'it returns false'. Refute it at one input. -/
def wheelNumbersWrong : ChangeSpec := { name := "wheelNumbers", fn := fun _ => fun
  | [] => { results := [.lit (.bool false)], args := [] }
  | _ => none }
def WheelNumbersWrongFalsely : Prop := wheelNumbersRow.holds Try.pinned (OpenSpec.ofChange wheelNumbersWrong)

/-- 'pianolalaw9.WheelPlays': WHATEVER THE INPUT: true; the input reads as it did. -/
def wheelPlaysSpec : ChangeSpec := { name := "wheelPlays", fn := fun _ => fun
  | [d] => { results := [.lit (.bool true)], args := [d] }
  | _ => none }
def wheelPlaysRow : OpenClaim := { program := "ytppgoobhlcdbbaa", sum := "5211bb0121d13196e72109e7129cb1b178f597fab8b4ccecf3b744d0370ceb45", func := "pianola/pianolalaw9.WheelPlays", spec := "wheelPlays", unfollowed := true, recurses := true, apart := false }
def WheelPlaysSaid : Prop := wheelPlaysRow.holds Try.pinned (OpenSpec.ofChange wheelPlaysSpec)

/-- ITS FALSE NEIGHBOUR: 'it returns false'. Refute it at one input. -/
def wheelPlaysWrong : ChangeSpec := { name := "wheelPlays", fn := fun _ => fun
  | [d] => { results := [.lit (.bool false)], args := [d] }
  | _ => none }
def WheelPlaysWrongFalsely : Prop := wheelPlaysRow.holds Try.pinned (OpenSpec.ofChange wheelPlaysWrong)

/-- 'pianolalaw11.TimerAgain': WHATEVER THE INPUT: true; the input reads as it did. -/
def timerAgainSpec : ChangeSpec := { name := "timerAgain", fn := fun _ => fun
  | [d1, d2, d3] => { results := [.lit (.bool true)], args := [d1, d2, d3] }
  | _ => none }
def timerAgainRow : OpenClaim := { program := "ytppgoobhlcdbbaa", sum := "5211bb0121d13196e72109e7129cb1b178f597fab8b4ccecf3b744d0370ceb45", func := "pianola/pianolalaw11.TimerAgain", spec := "timerAgain", unfollowed := true, recurses := true, apart := false }
def TimerAgainSaid : Prop := timerAgainRow.holds Try.pinned (OpenSpec.ofChange timerAgainSpec)

/-- ITS FALSE NEIGHBOUR: 'it returns false'. Refute it at one input. -/
def timerAgainWrong : ChangeSpec := { name := "timerAgain", fn := fun _ => fun
  | [d1, d2, d3] => { results := [.lit (.bool false)], args := [d1, d2, d3] }
  | _ => none }
def TimerAgainWrongFalsely : Prop := timerAgainRow.holds Try.pinned (OpenSpec.ofChange timerAgainWrong)

/-- 'pianolalaw11.TimerNumbers': WHATEVER THE INPUT: true; the input reads as it did. -/
def timerNumbersSpec : ChangeSpec := { name := "timerNumbers", fn := fun _ => fun
  | [] => { results := [.lit (.bool true)], args := [] }
  | _ => none }
def timerNumbersRow : OpenClaim := { program := "ytppgoobhlcdbbaa", sum := "5211bb0121d13196e72109e7129cb1b178f597fab8b4ccecf3b744d0370ceb45", func := "pianola/pianolalaw11.TimerNumbers", spec := "timerNumbers", unfollowed := true, recurses := true, apart := false }
def TimerNumbersSaid : Prop := timerNumbersRow.holds Try.pinned (OpenSpec.ofChange timerNumbersSpec)

/-- ITS FALSE NEIGHBOUR: 'it returns false'. Refute it at one input. -/
def timerNumbersWrong : ChangeSpec := { name := "timerNumbers", fn := fun _ => fun
  | [] => { results := [.lit (.bool false)], args := [] }
  | _ => none }
def TimerNumbersWrongFalsely : Prop := timerNumbersRow.holds Try.pinned (OpenSpec.ofChange timerNumbersWrong)

/- THE SECOND FORM. 'bulk': how many values and letters a reading holds, each counted each time it is reached (what is shared counts as often as it is met; a slice's spare places count too). A statement '..UptoSaid' is the law's where the arguments, and the package variables that the reading takes, are together of bulk at most 1048576: NARROWER than '..Said'. Prove '..Said' where nothing that the law and all that it calls make is longer than what came in: it says more and counts as full. Else prove '..UptoSaid'. A law counts once. -/
mutual
def uptoBulk {H : Type} : DataW H → Nat
  | .lit (.string bytes) => bytes.length + 1
  | .lit _ => 1
  | .nil => 1
  | .ptr d => uptoBulk d + 1
  | .slice elems spare => uptoBulkAll elems + uptoBulkAll spare + 1
  | .agg parts => uptoBulkAll parts + 1
  | .iface _ d => uptoBulk d + 1
  | .map entries => uptoBulkEntries entries + 1
  | .held _ => 1
def uptoBulkAll {H : Type} : List (DataW H) → Nat
  | [] => 0
  | d :: r => uptoBulk d + uptoBulkAll r
def uptoBulkEntries {H : Type} : List (Lit × DataW H) → Nat
  | [] => 0
  | x :: r => uptoBulkEntry x + uptoBulkEntries r
def uptoBulkEntry {H : Type} : Lit × DataW H → Nat
  | (.string bytes, d) => bytes.length + uptoBulk d + 1
  | (_, d) => uptoBulk d + 1
 end
def uptoSmall : (H : Type) → List (DataW H) → Bool := fun _ ds => decide (uptoBulkAll ds ≤ 1048576)
def OpenSpec.upto (s : _root_.Go.ChangeSpec) : _root_.Go.OpenSpec := { _root_.Go.OpenSpec.ofChange s with cond := some uptoSmall }

/-- 'pianolalaw10.LinesNumbers', WHERE WHAT IT READS IS OF BULK AT MOST 1048576: true; the input reads as it did. -/
def linesNumbersUptoRow : OpenClaim := { program := "ytppgoobhlcdbbaa", sum := "5211bb0121d13196e72109e7129cb1b178f597fab8b4ccecf3b744d0370ceb45", func := "pianola/pianolalaw10.LinesNumbers", spec := "linesNumbers", apart := false, narrowed := true }
def LinesNumbersUptoSaid : Prop := linesNumbersUptoRow.holds Try.pinned (OpenSpec.upto linesNumbersSpec)

/-- 'pianolalaw10.LinesPlays', WHERE WHAT IT READS IS OF BULK AT MOST 1048576: true; the input reads as it did. -/
def linesPlaysUptoRow : OpenClaim := { program := "ytppgoobhlcdbbaa", sum := "5211bb0121d13196e72109e7129cb1b178f597fab8b4ccecf3b744d0370ceb45", func := "pianola/pianolalaw10.LinesPlays", spec := "linesPlays", apart := false, narrowed := true }
def LinesPlaysUptoSaid : Prop := linesPlaysUptoRow.holds Try.pinned (OpenSpec.upto linesPlaysSpec)

/-- 'pianolalaw10.LinesMask', WHERE WHAT IT READS IS OF BULK AT MOST 1048576: true; the input reads as it did. -/
def linesMaskUptoRow : OpenClaim := { program := "ytppgoobhlcdbbaa", sum := "5211bb0121d13196e72109e7129cb1b178f597fab8b4ccecf3b744d0370ceb45", func := "pianola/pianolalaw10.LinesMask", spec := "linesMask", apart := false, narrowed := true }
def LinesMaskUptoSaid : Prop := linesMaskUptoRow.holds Try.pinned (OpenSpec.upto linesMaskSpec)

/-- 'pianolalaw24.InputNumbers', WHERE WHAT IT READS IS OF BULK AT MOST 1048576: true; the input reads as it did. -/
def inputNumbersUptoRow : OpenClaim := { program := "ytppgoobhlcdbbaa", sum := "5211bb0121d13196e72109e7129cb1b178f597fab8b4ccecf3b744d0370ceb45", func := "pianola/pianolalaw24.InputNumbers", spec := "inputNumbers", unfollowed := true, recurses := true, apart := false, narrowed := true }
def InputNumbersUptoSaid : Prop := inputNumbersUptoRow.holds Try.pinned (OpenSpec.upto inputNumbersSpec)

/-- 'pianolalaw24.InputPlays', WHERE WHAT IT READS IS OF BULK AT MOST 1048576: true; the input reads as it did. -/
def inputPlaysUptoRow : OpenClaim := { program := "ytppgoobhlcdbbaa", sum := "5211bb0121d13196e72109e7129cb1b178f597fab8b4ccecf3b744d0370ceb45", func := "pianola/pianolalaw24.InputPlays", spec := "inputPlays", unfollowed := true, recurses := true, apart := false, narrowed := true }
def InputPlaysUptoSaid : Prop := inputPlaysUptoRow.holds Try.pinned (OpenSpec.upto inputPlaysSpec)

/-- 'pianolalaw24.InputParts', WHERE WHAT IT READS IS OF BULK AT MOST 1048576: true; the input reads as it did. -/
def inputPartsUptoRow : OpenClaim := { program := "ytppgoobhlcdbbaa", sum := "5211bb0121d13196e72109e7129cb1b178f597fab8b4ccecf3b744d0370ceb45", func := "pianola/pianolalaw24.InputParts", spec := "inputParts", unfollowed := true, recurses := true, apart := false, narrowed := true }
def InputPartsUptoSaid : Prop := inputPartsUptoRow.holds Try.pinned (OpenSpec.upto inputPartsSpec)

/-- 'pianolalaw9.WheelOrder', WHERE WHAT IT READS IS OF BULK AT MOST 1048576: true; the input reads as it did. -/
def wheelOrderUptoRow : OpenClaim := { program := "ytppgoobhlcdbbaa", sum := "5211bb0121d13196e72109e7129cb1b178f597fab8b4ccecf3b744d0370ceb45", func := "pianola/pianolalaw9.WheelOrder", spec := "wheelOrder", unfollowed := true, recurses := true, apart := false, narrowed := true }
def WheelOrderUptoSaid : Prop := wheelOrderUptoRow.holds Try.pinned (OpenSpec.upto wheelOrderSpec)

/-- 'pianolalaw9.WheelAnew', WHERE WHAT IT READS IS OF BULK AT MOST 1048576: true; the input reads as it did. -/
def wheelAnewUptoRow : OpenClaim := { program := "ytppgoobhlcdbbaa", sum := "5211bb0121d13196e72109e7129cb1b178f597fab8b4ccecf3b744d0370ceb45", func := "pianola/pianolalaw9.WheelAnew", spec := "wheelAnew", unfollowed := true, recurses := true, apart := false, narrowed := true }
def WheelAnewUptoSaid : Prop := wheelAnewUptoRow.holds Try.pinned (OpenSpec.upto wheelAnewSpec)

/-- 'pianolalaw9.WheelNumbers', WHERE WHAT IT READS IS OF BULK AT MOST 1048576: true; the input reads as it did. -/
def wheelNumbersUptoRow : OpenClaim := { program := "ytppgoobhlcdbbaa", sum := "5211bb0121d13196e72109e7129cb1b178f597fab8b4ccecf3b744d0370ceb45", func := "pianola/pianolalaw9.WheelNumbers", spec := "wheelNumbers", unfollowed := true, recurses := true, apart := false, narrowed := true }
def WheelNumbersUptoSaid : Prop := wheelNumbersUptoRow.holds Try.pinned (OpenSpec.upto wheelNumbersSpec)

/-- 'pianolalaw9.WheelPlays', WHERE WHAT IT READS IS OF BULK AT MOST 1048576: true; the input reads as it did. -/
def wheelPlaysUptoRow : OpenClaim := { program := "ytppgoobhlcdbbaa", sum := "5211bb0121d13196e72109e7129cb1b178f597fab8b4ccecf3b744d0370ceb45", func := "pianola/pianolalaw9.WheelPlays", spec := "wheelPlays", unfollowed := true, recurses := true, apart := false, narrowed := true }
def WheelPlaysUptoSaid : Prop := wheelPlaysUptoRow.holds Try.pinned (OpenSpec.upto wheelPlaysSpec)

/-- 'pianolalaw11.TimerAgain', WHERE WHAT IT READS IS OF BULK AT MOST 1048576: true; the input reads as it did. -/
def timerAgainUptoRow : OpenClaim := { program := "ytppgoobhlcdbbaa", sum := "5211bb0121d13196e72109e7129cb1b178f597fab8b4ccecf3b744d0370ceb45", func := "pianola/pianolalaw11.TimerAgain", spec := "timerAgain", unfollowed := true, recurses := true, apart := false, narrowed := true }
def TimerAgainUptoSaid : Prop := timerAgainUptoRow.holds Try.pinned (OpenSpec.upto timerAgainSpec)

/-- 'pianolalaw11.TimerNumbers', WHERE WHAT IT READS IS OF BULK AT MOST 1048576: true; the input reads as it did. -/
def timerNumbersUptoRow : OpenClaim := { program := "ytppgoobhlcdbbaa", sum := "5211bb0121d13196e72109e7129cb1b178f597fab8b4ccecf3b744d0370ceb45", func := "pianola/pianolalaw11.TimerNumbers", spec := "timerNumbers", unfollowed := true, recurses := true, apart := false, narrowed := true }
def TimerNumbersUptoSaid : Prop := timerNumbersUptoRow.holds Try.pinned (OpenSpec.upto timerNumbersSpec)

end Rows
end Go.Proofs.Ytppgoobhlcdbbaa
