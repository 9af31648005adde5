/-
  No cell of these rows narrows 'for every input' (looked for: loops, veiled, ifaces, maps, wideKeys, modest, calm, conditions, laid).
  DERIVED. THE GIVEN ROWS OF THIS SEAT. 6 by the template 'for every input the law returns true; each argument reads behind the call as it read before'; 0 by the template 'total and deterministic' (their statements: YtpdfdemoflofhaaTotals.lean).
  GIVEN WITH THE SEED: the statements are not yours to turn. If you find one false, say at which input.
  Laid BY PROGRAM, IN A SANDBOX (cutbox-rows.mjs): the forced cells as the released guide's own fill.sh prints them over the translation 7d9f363bbcdea21e… (all of the seat's roots in one cut). By AI agents, Wed Nov 11 2026. No macro, syntax, notation, axiom, sorry.
-/
import Derived.Test.YtpdfdemoflofhaaChecked
import GoSem.Claim
import GoSem.ClaimJoined
import GoSem.ClaimMapViews
import Derived.JoinedTies
import Derived.KernelRfl
namespace Go.Proofs.Ytpdfdemoflofhaa
/- THE CELL 'sum', in the pinned program and in every row, IS THE sha256 OF THE DUMP (.gsa) THAT YtpdfdemoflofhaaProg.lean LOADS. Nothing in Lean hashes anything: it is a label: what it is worth is what the hold of that sum in a sandbox is worth. -/
noncomputable def Try.pinned : Pinned := { name := "ytpdfdemoflofhaa", sum := "7d9f363bbcdea21e3d322d2a1ca72d03f505d7975a4268f45a820766a6455c12", checked := Try.checked }
namespace Rows
def none {H : Type} : Left H := { results := [], args := [] }

/-- 'pianolalaw12.UartOrder': WHATEVER THE INPUT: true; the input reads as it did. -/
def uartOrderSpec : ChangeSpec := { name := "uartOrder", fn := fun _ => fun
  | [d1, d2] => { results := [.lit (.bool true)], args := [d1, d2] }
  | _ => none }
def uartOrderRow : OpenClaim := { program := "ytpdfdemoflofhaa", sum := "7d9f363bbcdea21e3d322d2a1ca72d03f505d7975a4268f45a820766a6455c12", func := "pianola/pianolalaw12.UartOrder", spec := "uartOrder", unfollowed := true, recurses := true, apart := false }
def UartOrderSaid : Prop := uartOrderRow.holds Try.pinned (OpenSpec.ofChange uartOrderSpec)

/-- ITS FALSE NEIGHBOUR: 'it returns false'. Refute it at one input. -/
def uartOrderWrong : ChangeSpec := { name := "uartOrder", fn := fun _ => fun
  | [d1, d2] => { results := [.lit (.bool false)], args := [d1, d2] }
  | _ => none }
def UartOrderWrongFalsely : Prop := uartOrderRow.holds Try.pinned (OpenSpec.ofChange uartOrderWrong)

/-- 'pianolalaw12.UartAsks': WHATEVER THE INPUT: true; the input reads as it did. -/
def uartAsksSpec : ChangeSpec := { name := "uartAsks", fn := fun _ => fun
  | [d1, d2, d3] => { results := [.lit (.bool true)], args := [d1, d2, d3] }
  | _ => none }
def uartAsksRow : OpenClaim := { program := "ytpdfdemoflofhaa", sum := "7d9f363bbcdea21e3d322d2a1ca72d03f505d7975a4268f45a820766a6455c12", func := "pianola/pianolalaw12.UartAsks", spec := "uartAsks", unfollowed := true, recurses := true, apart := false }
def UartAsksSaid : Prop := uartAsksRow.holds Try.pinned (OpenSpec.ofChange uartAsksSpec)

/-- ITS FALSE NEIGHBOUR: 'it returns false'. Refute it at one input. -/
def uartAsksWrong : ChangeSpec := { name := "uartAsks", fn := fun _ => fun
  | [d1, d2, d3] => { results := [.lit (.bool false)], args := [d1, d2, d3] }
  | _ => none }
def UartAsksWrongFalsely : Prop := uartAsksRow.holds Try.pinned (OpenSpec.ofChange uartAsksWrong)

/-- 'pianolalaw14.DiskNumbers': WHATEVER THE INPUT: true; the input reads as it did. -/
def diskNumbersSpec : ChangeSpec := { name := "diskNumbers", fn := fun _ => fun
  | [] => { results := [.lit (.bool true)], args := [] }
  | _ => none }
def diskNumbersRow : OpenClaim := { program := "ytpdfdemoflofhaa", sum := "7d9f363bbcdea21e3d322d2a1ca72d03f505d7975a4268f45a820766a6455c12", func := "pianola/pianolalaw14.DiskNumbers", spec := "diskNumbers", unfollowed := true, recurses := true, apart := false }
def DiskNumbersSaid : Prop := diskNumbersRow.holds Try.pinned (OpenSpec.ofChange diskNumbersSpec)

/-- ITS FALSE NEIGHBOUR: 'it returns false'. Refute it at one input. -/
def diskNumbersWrong : ChangeSpec := { name := "diskNumbers", fn := fun _ => fun
  | [] => { results := [.lit (.bool false)], args := [] }
  | _ => none }
def DiskNumbersWrongFalsely : Prop := diskNumbersRow.holds Try.pinned (OpenSpec.ofChange diskNumbersWrong)

/-- 'pianolalaw13.DmaMoves': WHATEVER THE INPUT: true; the input reads as it did. -/
def dmaMovesSpec : ChangeSpec := { name := "dmaMoves", fn := fun _ => fun
  | [d1, d2, d3, d4] => { results := [.lit (.bool true)], args := [d1, d2, d3, d4] }
  | _ => none }
def dmaMovesRow : OpenClaim := { program := "ytpdfdemoflofhaa", sum := "7d9f363bbcdea21e3d322d2a1ca72d03f505d7975a4268f45a820766a6455c12", func := "pianola/pianolalaw13.DmaMoves", spec := "dmaMoves", unfollowed := true, recurses := true, apart := false }
def DmaMovesSaid : Prop := dmaMovesRow.holds Try.pinned (OpenSpec.ofChange dmaMovesSpec)

/-- ITS FALSE NEIGHBOUR: 'it returns false'. Refute it at one input. -/
def dmaMovesWrong : ChangeSpec := { name := "dmaMoves", fn := fun _ => fun
  | [d1, d2, d3, d4] => { results := [.lit (.bool false)], args := [d1, d2, d3, d4] }
  | _ => none }
def DmaMovesWrongFalsely : Prop := dmaMovesRow.holds Try.pinned (OpenSpec.ofChange dmaMovesWrong)

/-- 'pianolalaw13.DmaNumbers': WHATEVER THE INPUT: true; the input reads as it did. -/
def dmaNumbersSpec : ChangeSpec := { name := "dmaNumbers", fn := fun _ => fun
  | [] => { results := [.lit (.bool true)], args := [] }
  | _ => none }
def dmaNumbersRow : OpenClaim := { program := "ytpdfdemoflofhaa", sum := "7d9f363bbcdea21e3d322d2a1ca72d03f505d7975a4268f45a820766a6455c12", func := "pianola/pianolalaw13.DmaNumbers", spec := "dmaNumbers", unfollowed := true, recurses := true, apart := false }
def DmaNumbersSaid : Prop := dmaNumbersRow.holds Try.pinned (OpenSpec.ofChange dmaNumbersSpec)

/-- ITS FALSE NEIGHBOUR: 'it returns false'. Refute it at one input. -/
def dmaNumbersWrong : ChangeSpec := { name := "dmaNumbers", fn := fun _ => fun
  | [] => { results := [.lit (.bool false)], args := [] }
  | _ => none }
def DmaNumbersWrongFalsely : Prop := dmaNumbersRow.holds Try.pinned (OpenSpec.ofChange dmaNumbersWrong)

/-- 'pianolalaw15.BusTimes': WHATEVER THE INPUT: true; the input reads as it did. -/
def busTimesSpec : ChangeSpec := { name := "busTimes", fn := fun _ => fun
  | [d1, d2, d3] => { results := [.lit (.bool true)], args := [d1, d2, d3] }
  | _ => none }
def busTimesRow : OpenClaim := { program := "ytpdfdemoflofhaa", sum := "7d9f363bbcdea21e3d322d2a1ca72d03f505d7975a4268f45a820766a6455c12", func := "pianola/pianolalaw15.BusTimes", spec := "busTimes", unfollowed := true, recurses := true, apart := false }
def BusTimesSaid : Prop := busTimesRow.holds Try.pinned (OpenSpec.ofChange busTimesSpec)

/-- ITS FALSE NEIGHBOUR: 'it returns false'. Refute it at one input. -/
def busTimesWrong : ChangeSpec := { name := "busTimes", fn := fun _ => fun
  | [d1, d2, d3] => { results := [.lit (.bool false)], args := [d1, d2, d3] }
  | _ => none }
def BusTimesWrongFalsely : Prop := busTimesRow.holds Try.pinned (OpenSpec.ofChange busTimesWrong)

/- THE SECOND FORM. 'bulk': how many values and letters a reading holds, each counted each time it is reached (what is shared counts as often as it is met; a slice's spare places count too). A statement '..UptoSaid' is the law's where the arguments, and the package variables that the reading takes, are together of bulk at most 1048576: NARROWER than '..Said'. Prove '..Said' where nothing that the law and all that it calls make is longer than what came in: it says more and counts as full. Else prove '..UptoSaid'. A law counts once. -/
mutual
def uptoBulk {H : Type} : DataW H → Nat
  | .lit (.string bytes) => bytes.length + 1
  | .lit _ => 1
  | .nil => 1
  | .ptr d => uptoBulk d + 1
  | .slice elems spare => uptoBulkAll elems + uptoBulkAll spare + 1
  | .agg parts => uptoBulkAll parts + 1
  | .iface _ d => uptoBulk d + 1
  | .map entries => uptoBulkEntries entries + 1
  | .held _ => 1
def uptoBulkAll {H : Type} : List (DataW H) → Nat
  | [] => 0
  | d :: r => uptoBulk d + uptoBulkAll r
def uptoBulkEntries {H : Type} : List (Lit × DataW H) → Nat
  | [] => 0
  | x :: r => uptoBulkEntry x + uptoBulkEntries r
def uptoBulkEntry {H : Type} : Lit × DataW H → Nat
  | (.string bytes, d) => bytes.length + uptoBulk d + 1
  | (_, d) => uptoBulk d + 1
 end
def uptoSmall : (H : Type) → List (DataW H) → Bool := fun _ ds => decide (uptoBulkAll ds ≤ 1048576)
def OpenSpec.upto (s : _root_.Go.ChangeSpec) : _root_.Go.OpenSpec := { _root_.Go.OpenSpec.ofChange s with cond := some uptoSmall }

/-- 'pianolalaw12.UartOrder', WHERE WHAT IT READS IS OF BULK AT MOST 1048576: true; the input reads as it did. -/
def uartOrderUptoRow : OpenClaim := { program := "ytpdfdemoflofhaa", sum := "7d9f363bbcdea21e3d322d2a1ca72d03f505d7975a4268f45a820766a6455c12", func := "pianola/pianolalaw12.UartOrder", spec := "uartOrder", unfollowed := true, recurses := true, apart := false, narrowed := true }
def UartOrderUptoSaid : Prop := uartOrderUptoRow.holds Try.pinned (OpenSpec.upto uartOrderSpec)

/-- 'pianolalaw12.UartAsks', WHERE WHAT IT READS IS OF BULK AT MOST 1048576: true; the input reads as it did. -/
def uartAsksUptoRow : OpenClaim := { program := "ytpdfdemoflofhaa", sum := "7d9f363bbcdea21e3d322d2a1ca72d03f505d7975a4268f45a820766a6455c12", func := "pianola/pianolalaw12.UartAsks", spec := "uartAsks", unfollowed := true, recurses := true, apart := false, narrowed := true }
def UartAsksUptoSaid : Prop := uartAsksUptoRow.holds Try.pinned (OpenSpec.upto uartAsksSpec)

/-- 'pianolalaw14.DiskNumbers', WHERE WHAT IT READS IS OF BULK AT MOST 1048576: true; the input reads as it did. -/
def diskNumbersUptoRow : OpenClaim := { program := "ytpdfdemoflofhaa", sum := "7d9f363bbcdea21e3d322d2a1ca72d03f505d7975a4268f45a820766a6455c12", func := "pianola/pianolalaw14.DiskNumbers", spec := "diskNumbers", unfollowed := true, recurses := true, apart := false, narrowed := true }
def DiskNumbersUptoSaid : Prop := diskNumbersUptoRow.holds Try.pinned (OpenSpec.upto diskNumbersSpec)

/-- 'pianolalaw13.DmaMoves', WHERE WHAT IT READS IS OF BULK AT MOST 1048576: true; the input reads as it did. -/
def dmaMovesUptoRow : OpenClaim := { program := "ytpdfdemoflofhaa", sum := "7d9f363bbcdea21e3d322d2a1ca72d03f505d7975a4268f45a820766a6455c12", func := "pianola/pianolalaw13.DmaMoves", spec := "dmaMoves", unfollowed := true, recurses := true, apart := false, narrowed := true }
def DmaMovesUptoSaid : Prop := dmaMovesUptoRow.holds Try.pinned (OpenSpec.upto dmaMovesSpec)

/-- 'pianolalaw13.DmaNumbers', WHERE WHAT IT READS IS OF BULK AT MOST 1048576: true; the input reads as it did. -/
def dmaNumbersUptoRow : OpenClaim := { program := "ytpdfdemoflofhaa", sum := "7d9f363bbcdea21e3d322d2a1ca72d03f505d7975a4268f45a820766a6455c12", func := "pianola/pianolalaw13.DmaNumbers", spec := "dmaNumbers", unfollowed := true, recurses := true, apart := false, narrowed := true }
def DmaNumbersUptoSaid : Prop := dmaNumbersUptoRow.holds Try.pinned (OpenSpec.upto dmaNumbersSpec)

/-- 'pianolalaw15.BusTimes', WHERE WHAT IT READS IS OF BULK AT MOST 1048576: true; the input reads as it did. -/
def busTimesUptoRow : OpenClaim := { program := "ytpdfdemoflofhaa", sum := "7d9f363bbcdea21e3d322d2a1ca72d03f505d7975a4268f45a820766a6455c12", func := "pianola/pianolalaw15.BusTimes", spec := "busTimes", unfollowed := true, recurses := true, apart := false, narrowed := true }
def BusTimesUptoSaid : Prop := busTimesUptoRow.holds Try.pinned (OpenSpec.upto busTimesSpec)

end Rows
end Go.Proofs.Ytpdfdemoflofhaa
