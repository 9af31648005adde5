/-
  No cell of these rows narrows 'for every input' (looked for: loops, veiled, ifaces, maps, wideKeys, modest, calm, conditions, laid).
  DERIVED. THE GIVEN ROWS OF THIS SEAT. 7 by the template 'for every input the law returns true; each argument reads behind the call as it read before'; 0 by the template 'total and deterministic' (their statements: YtoiiphcbkejliaaGreatTotals.lean).
  GIVEN WITH THE SEED: the statements are not yours to turn. If you find one false, say at which input.
  Laid BY PROGRAM, IN A SANDBOX (cutbox-rows.mjs): the forced cells as the released guide's own fill.sh prints them over the translation f889c505172e3228… (all of the seat's roots in one cut). By AI agents, Wed Nov 11 2026. No macro, syntax, notation, axiom, sorry.
-/
import Derived.Test.YtoiiphcbkejliaaGreatChecked
import GoSem.Claim
import GoSem.ClaimJoined
import GoSem.ClaimMapViews
import Derived.JoinedTies
import Derived.KernelRfl
namespace Go.Proofs.YtoiiphcbkejliaaGreat
/- THE CELL 'sum', in the pinned program and in every row, IS THE sha256 OF THE DUMP (.gsa) THAT YtoiiphcbkejliaaGreatProg.lean LOADS. Nothing in Lean hashes anything: it is a label: what it is worth is what the hold of that sum in a sandbox is worth. -/
noncomputable def Tryz.pinned : Pinned := { name := "ytoiiphcbkejliaagreat", sum := "f889c505172e3228a39e26c53ff6f7eb4ae0a4e9d958e0418b8c4026610b6c0f", checked := Tryz.checked }
namespace Rows
def none {H : Type} : Left H := { results := [], args := [] }

/-- 'pianolalaw28.ShellNumbers': WHATEVER THE INPUT: true; the input reads as it did. -/
def shellNumbersSpec : ChangeSpec := { name := "shellNumbers", fn := fun _ => fun
  | [] => { results := [.lit (.bool true)], args := [] }
  | _ => none }
def shellNumbersRow : OpenClaim := { program := "ytoiiphcbkejliaagreat", sum := "f889c505172e3228a39e26c53ff6f7eb4ae0a4e9d958e0418b8c4026610b6c0f", func := "pianola/pianolalaw28.ShellNumbers", spec := "shellNumbers", unfollowed := true, recurses := true, plainKeys := false, apart := false }
def ShellNumbersSaid : Prop := shellNumbersRow.holds Tryz.pinned (OpenSpec.ofChange shellNumbersSpec)

/-- ITS FALSE NEIGHBOUR: 'it returns false'. Refute it at one input. -/
def shellNumbersWrong : ChangeSpec := { name := "shellNumbers", fn := fun _ => fun
  | [] => { results := [.lit (.bool false)], args := [] }
  | _ => none }
def ShellNumbersWrongFalsely : Prop := shellNumbersRow.holds Tryz.pinned (OpenSpec.ofChange shellNumbersWrong)

/-- 'pianolalaw28.ShellWrites': WHATEVER THE INPUT: true; the input reads as it did. -/
def shellWritesSpec : ChangeSpec := { name := "shellWrites", fn := fun _ => fun
  | [d] => { results := [.lit (.bool true)], args := [d] }
  | _ => none }
def shellWritesRow : OpenClaim := { program := "ytoiiphcbkejliaagreat", sum := "f889c505172e3228a39e26c53ff6f7eb4ae0a4e9d958e0418b8c4026610b6c0f", func := "pianola/pianolalaw28.ShellWrites", spec := "shellWrites", unfollowed := true, recurses := true, plainKeys := false, apart := false }
def ShellWritesSaid : Prop := shellWritesRow.holds Tryz.pinned (OpenSpec.ofChange shellWritesSpec)

/-- ITS FALSE NEIGHBOUR: 'it returns false'. Refute it at one input. -/
def shellWritesWrong : ChangeSpec := { name := "shellWrites", fn := fun _ => fun
  | [d] => { results := [.lit (.bool false)], args := [d] }
  | _ => none }
def ShellWritesWrongFalsely : Prop := shellWritesRow.holds Tryz.pinned (OpenSpec.ofChange shellWritesWrong)

/-- 'pianolalaw28.ShellReads': WHATEVER THE INPUT: true; the input reads as it did. -/
def shellReadsSpec : ChangeSpec := { name := "shellReads", fn := fun _ => fun
  | [d1, d2, d3, d4] => { results := [.lit (.bool true)], args := [d1, d2, d3, d4] }
  | _ => none }
def shellReadsRow : OpenClaim := { program := "ytoiiphcbkejliaagreat", sum := "f889c505172e3228a39e26c53ff6f7eb4ae0a4e9d958e0418b8c4026610b6c0f", func := "pianola/pianolalaw28.ShellReads", spec := "shellReads", unfollowed := true, recurses := true, plainKeys := false, apart := false }
def ShellReadsSaid : Prop := shellReadsRow.holds Tryz.pinned (OpenSpec.ofChange shellReadsSpec)

/-- ITS FALSE NEIGHBOUR: 'it returns false'. Refute it at one input. -/
def shellReadsWrong : ChangeSpec := { name := "shellReads", fn := fun _ => fun
  | [d1, d2, d3, d4] => { results := [.lit (.bool false)], args := [d1, d2, d3, d4] }
  | _ => none }
def ShellReadsWrongFalsely : Prop := shellReadsRow.holds Tryz.pinned (OpenSpec.ofChange shellReadsWrong)

/-- 'pianolalaw28.ShellBack': WHATEVER THE INPUT: true; the input reads as it did. -/
def shellBackSpec : ChangeSpec := { name := "shellBack", fn := fun _ => fun
  | [d1, d2] => { results := [.lit (.bool true)], args := [d1, d2] }
  | _ => none }
def shellBackRow : OpenClaim := { program := "ytoiiphcbkejliaagreat", sum := "f889c505172e3228a39e26c53ff6f7eb4ae0a4e9d958e0418b8c4026610b6c0f", func := "pianola/pianolalaw28.ShellBack", spec := "shellBack", unfollowed := true, recurses := true, plainKeys := false, apart := false }
def ShellBackSaid : Prop := shellBackRow.holds Tryz.pinned (OpenSpec.ofChange shellBackSpec)

/-- ITS FALSE NEIGHBOUR: 'it returns false'. Refute it at one input. -/
def shellBackWrong : ChangeSpec := { name := "shellBack", fn := fun _ => fun
  | [d1, d2] => { results := [.lit (.bool false)], args := [d1, d2] }
  | _ => none }
def ShellBackWrongFalsely : Prop := shellBackRow.holds Tryz.pinned (OpenSpec.ofChange shellBackWrong)

/-- 'pianolalaw28.ShellRuns': WHATEVER THE INPUT: true; the input reads as it did. -/
def shellRunsSpec : ChangeSpec := { name := "shellRuns", fn := fun _ => fun
  | [d] => { results := [.lit (.bool true)], args := [d] }
  | _ => none }
def shellRunsRow : OpenClaim := { program := "ytoiiphcbkejliaagreat", sum := "f889c505172e3228a39e26c53ff6f7eb4ae0a4e9d958e0418b8c4026610b6c0f", func := "pianola/pianolalaw28.ShellRuns", spec := "shellRuns", unfollowed := true, recurses := true, plainKeys := false, apart := false }
def ShellRunsSaid : Prop := shellRunsRow.holds Tryz.pinned (OpenSpec.ofChange shellRunsSpec)

/-- ITS FALSE NEIGHBOUR: 'it returns false'. Refute it at one input. -/
def shellRunsWrong : ChangeSpec := { name := "shellRuns", fn := fun _ => fun
  | [d] => { results := [.lit (.bool false)], args := [d] }
  | _ => none }
def ShellRunsWrongFalsely : Prop := shellRunsRow.holds Tryz.pinned (OpenSpec.ofChange shellRunsWrong)

/-- 'pianolalaw28.ShellOdd': WHATEVER THE INPUT: true; the input reads as it did. -/
def shellOddSpec : ChangeSpec := { name := "shellOdd", fn := fun _ => fun
  | [d] => { results := [.lit (.bool true)], args := [d] }
  | _ => none }
def shellOddRow : OpenClaim := { program := "ytoiiphcbkejliaagreat", sum := "f889c505172e3228a39e26c53ff6f7eb4ae0a4e9d958e0418b8c4026610b6c0f", func := "pianola/pianolalaw28.ShellOdd", spec := "shellOdd", unfollowed := true, recurses := true, plainKeys := false, apart := false }
def ShellOddSaid : Prop := shellOddRow.holds Tryz.pinned (OpenSpec.ofChange shellOddSpec)

/-- ITS FALSE NEIGHBOUR: 'it returns false'. Refute it at one input. -/
def shellOddWrong : ChangeSpec := { name := "shellOdd", fn := fun _ => fun
  | [d] => { results := [.lit (.bool false)], args := [d] }
  | _ => none }
def ShellOddWrongFalsely : Prop := shellOddRow.holds Tryz.pinned (OpenSpec.ofChange shellOddWrong)

/-- 'pianolalaw28.ShellCuts': WHATEVER THE INPUT: true; the input reads as it did. -/
def shellCutsSpec : ChangeSpec := { name := "shellCuts", fn := fun _ => fun
  | [d1, d2, d3] => { results := [.lit (.bool true)], args := [d1, d2, d3] }
  | _ => none }
def shellCutsRow : OpenClaim := { program := "ytoiiphcbkejliaagreat", sum := "f889c505172e3228a39e26c53ff6f7eb4ae0a4e9d958e0418b8c4026610b6c0f", func := "pianola/pianolalaw28.ShellCuts", spec := "shellCuts", unfollowed := true, recurses := true, plainKeys := false, apart := false }
def ShellCutsSaid : Prop := shellCutsRow.holds Tryz.pinned (OpenSpec.ofChange shellCutsSpec)

/-- ITS FALSE NEIGHBOUR: 'it returns false'. Refute it at one input. -/
def shellCutsWrong : ChangeSpec := { name := "shellCuts", fn := fun _ => fun
  | [d1, d2, d3] => { results := [.lit (.bool false)], args := [d1, d2, d3] }
  | _ => none }
def ShellCutsWrongFalsely : Prop := shellCutsRow.holds Tryz.pinned (OpenSpec.ofChange shellCutsWrong)

/- THE SECOND FORM. 'bulk': how many values and letters a reading holds, each counted each time it is reached (what is shared counts as often as it is met; a slice's spare places count too). A statement '..UptoSaid' is the law's where the arguments, and the package variables that the reading takes, are together of bulk at most 1048576: NARROWER than '..Said'. Prove '..Said' where nothing that the law and all that it calls make is longer than what came in: it says more and counts as full. Else prove '..UptoSaid'. A law counts once. -/
mutual
def uptoBulk {H : Type} : DataW H → Nat
  | .lit (.string bytes) => bytes.length + 1
  | .lit _ => 1
  | .nil => 1
  | .ptr d => uptoBulk d + 1
  | .slice elems spare => uptoBulkAll elems + uptoBulkAll spare + 1
  | .agg parts => uptoBulkAll parts + 1
  | .iface _ d => uptoBulk d + 1
  | .map entries => uptoBulkEntries entries + 1
  | .held _ => 1
def uptoBulkAll {H : Type} : List (DataW H) → Nat
  | [] => 0
  | d :: r => uptoBulk d + uptoBulkAll r
def uptoBulkEntries {H : Type} : List (Lit × DataW H) → Nat
  | [] => 0
  | x :: r => uptoBulkEntry x + uptoBulkEntries r
def uptoBulkEntry {H : Type} : Lit × DataW H → Nat
  | (.string bytes, d) => bytes.length + uptoBulk d + 1
  | (_, d) => uptoBulk d + 1
 end
def uptoSmall : (H : Type) → List (DataW H) → Bool := fun _ ds => decide (uptoBulkAll ds ≤ 1048576)
def OpenSpec.upto (s : _root_.Go.ChangeSpec) : _root_.Go.OpenSpec := { _root_.Go.OpenSpec.ofChange s with cond := some uptoSmall }

/-- 'pianolalaw28.ShellNumbers', WHERE WHAT IT READS IS OF BULK AT MOST 1048576: true; the input reads as it did. -/
def shellNumbersUptoRow : OpenClaim := { program := "ytoiiphcbkejliaagreat", sum := "f889c505172e3228a39e26c53ff6f7eb4ae0a4e9d958e0418b8c4026610b6c0f", func := "pianola/pianolalaw28.ShellNumbers", spec := "shellNumbers", unfollowed := true, recurses := true, plainKeys := false, apart := false, narrowed := true }
def ShellNumbersUptoSaid : Prop := shellNumbersUptoRow.holds Tryz.pinned (OpenSpec.upto shellNumbersSpec)

/-- 'pianolalaw28.ShellWrites', WHERE WHAT IT READS IS OF BULK AT MOST 1048576: true; the input reads as it did. -/
def shellWritesUptoRow : OpenClaim := { program := "ytoiiphcbkejliaagreat", sum := "f889c505172e3228a39e26c53ff6f7eb4ae0a4e9d958e0418b8c4026610b6c0f", func := "pianola/pianolalaw28.ShellWrites", spec := "shellWrites", unfollowed := true, recurses := true, plainKeys := false, apart := false, narrowed := true }
def ShellWritesUptoSaid : Prop := shellWritesUptoRow.holds Tryz.pinned (OpenSpec.upto shellWritesSpec)

/-- 'pianolalaw28.ShellReads', WHERE WHAT IT READS IS OF BULK AT MOST 1048576: true; the input reads as it did. -/
def shellReadsUptoRow : OpenClaim := { program := "ytoiiphcbkejliaagreat", sum := "f889c505172e3228a39e26c53ff6f7eb4ae0a4e9d958e0418b8c4026610b6c0f", func := "pianola/pianolalaw28.ShellReads", spec := "shellReads", unfollowed := true, recurses := true, plainKeys := false, apart := false, narrowed := true }
def ShellReadsUptoSaid : Prop := shellReadsUptoRow.holds Tryz.pinned (OpenSpec.upto shellReadsSpec)

/-- 'pianolalaw28.ShellBack', WHERE WHAT IT READS IS OF BULK AT MOST 1048576: true; the input reads as it did. -/
def shellBackUptoRow : OpenClaim := { program := "ytoiiphcbkejliaagreat", sum := "f889c505172e3228a39e26c53ff6f7eb4ae0a4e9d958e0418b8c4026610b6c0f", func := "pianola/pianolalaw28.ShellBack", spec := "shellBack", unfollowed := true, recurses := true, plainKeys := false, apart := false, narrowed := true }
def ShellBackUptoSaid : Prop := shellBackUptoRow.holds Tryz.pinned (OpenSpec.upto shellBackSpec)

/-- 'pianolalaw28.ShellRuns', WHERE WHAT IT READS IS OF BULK AT MOST 1048576: true; the input reads as it did. -/
def shellRunsUptoRow : OpenClaim := { program := "ytoiiphcbkejliaagreat", sum := "f889c505172e3228a39e26c53ff6f7eb4ae0a4e9d958e0418b8c4026610b6c0f", func := "pianola/pianolalaw28.ShellRuns", spec := "shellRuns", unfollowed := true, recurses := true, plainKeys := false, apart := false, narrowed := true }
def ShellRunsUptoSaid : Prop := shellRunsUptoRow.holds Tryz.pinned (OpenSpec.upto shellRunsSpec)

/-- 'pianolalaw28.ShellOdd', WHERE WHAT IT READS IS OF BULK AT MOST 1048576: true; the input reads as it did. -/
def shellOddUptoRow : OpenClaim := { program := "ytoiiphcbkejliaagreat", sum := "f889c505172e3228a39e26c53ff6f7eb4ae0a4e9d958e0418b8c4026610b6c0f", func := "pianola/pianolalaw28.ShellOdd", spec := "shellOdd", unfollowed := true, recurses := true, plainKeys := false, apart := false, narrowed := true }
def ShellOddUptoSaid : Prop := shellOddUptoRow.holds Tryz.pinned (OpenSpec.upto shellOddSpec)

/-- 'pianolalaw28.ShellCuts', WHERE WHAT IT READS IS OF BULK AT MOST 1048576: true; the input reads as it did. -/
def shellCutsUptoRow : OpenClaim := { program := "ytoiiphcbkejliaagreat", sum := "f889c505172e3228a39e26c53ff6f7eb4ae0a4e9d958e0418b8c4026610b6c0f", func := "pianola/pianolalaw28.ShellCuts", spec := "shellCuts", unfollowed := true, recurses := true, plainKeys := false, apart := false, narrowed := true }
def ShellCutsUptoSaid : Prop := shellCutsUptoRow.holds Tryz.pinned (OpenSpec.upto shellCutsSpec)

end Rows
end Go.Proofs.YtoiiphcbkejliaaGreat
