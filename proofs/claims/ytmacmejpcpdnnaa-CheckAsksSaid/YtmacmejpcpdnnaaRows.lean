/-
  No cell of these rows narrows 'for every input' (looked for: loops, veiled, ifaces, maps, wideKeys, modest, calm, conditions, laid).
  DERIVED. THE GIVEN ROWS OF THIS SEAT. 5 by the template 'for every input the law returns true; each argument reads behind the call as it read before'; 0 by the template 'total and deterministic' (their statements: YtmacmejpcpdnnaaTotals.lean).
  GIVEN WITH THE SEED: the statements are not yours to turn. If you find one false, say at which input.
  Laid BY PROGRAM, IN A SANDBOX (cutbox-rows.mjs): the forced cells as the released guide's own fill.sh prints them over the translation 96bdd8c3a06441ba… (all of the seat's roots in one cut). By AI agents, Wed Nov 11 2026. No macro, syntax, notation, axiom, sorry.
-/
import Derived.Test.YtmacmejpcpdnnaaChecked
import GoSem.Claim
import GoSem.ClaimJoined
import GoSem.ClaimMapViews
import Derived.JoinedTies
import Derived.KernelRfl
namespace Go.Proofs.Ytmacmejpcpdnnaa
/- THE CELL 'sum', in the pinned program and in every row, IS THE sha256 OF THE DUMP (.gsa) THAT YtmacmejpcpdnnaaProg.lean LOADS. Nothing in Lean hashes anything: it is a label: what it is worth is what the hold of that sum in a sandbox is worth. -/
noncomputable def Try.pinned : Pinned := { name := "ytmacmejpcpdnnaa", sum := "96bdd8c3a06441bafb309eca1555bb45698d9f90fe46b9c6357aeac2d99da35c", checked := Try.checked }
namespace Rows
def none {H : Type} : Left H := { results := [], args := [] }

/-- 'prompterlaw11.CheckSlots': WHATEVER THE INPUT: true; the input reads as it did. -/
def checkSlotsSpec : ChangeSpec := { name := "checkSlots", fn := fun _ => fun
  | [d] => { results := [.lit (.bool true)], args := [d] }
  | _ => none }
def checkSlotsRow : OpenClaim := { program := "ytmacmejpcpdnnaa", sum := "96bdd8c3a06441bafb309eca1555bb45698d9f90fe46b9c6357aeac2d99da35c", func := "prompter/prompterlaw11.CheckSlots", spec := "checkSlots", unfollowed := true, recurses := true, apart := false }
def CheckSlotsSaid : Prop := checkSlotsRow.holds Try.pinned (OpenSpec.ofChange checkSlotsSpec)

/-- ITS FALSE NEIGHBOUR: 'it returns false'. Refute it at one input. -/
def checkSlotsWrong : ChangeSpec := { name := "checkSlots", fn := fun _ => fun
  | [d] => { results := [.lit (.bool false)], args := [d] }
  | _ => none }
def CheckSlotsWrongFalsely : Prop := checkSlotsRow.holds Try.pinned (OpenSpec.ofChange checkSlotsWrong)

/-- 'prompterlaw11.CheckBound': WHATEVER THE INPUT: true; the input reads as it did. -/
def checkBoundSpec : ChangeSpec := { name := "checkBound", fn := fun _ => fun
  | [d] => { results := [.lit (.bool true)], args := [d] }
  | _ => none }
def checkBoundRow : OpenClaim := { program := "ytmacmejpcpdnnaa", sum := "96bdd8c3a06441bafb309eca1555bb45698d9f90fe46b9c6357aeac2d99da35c", func := "prompter/prompterlaw11.CheckBound", spec := "checkBound", unfollowed := true, recurses := true, apart := false }
def CheckBoundSaid : Prop := checkBoundRow.holds Try.pinned (OpenSpec.ofChange checkBoundSpec)

/-- ITS FALSE NEIGHBOUR: 'it returns false'. Refute it at one input. -/
def checkBoundWrong : ChangeSpec := { name := "checkBound", fn := fun _ => fun
  | [d] => { results := [.lit (.bool false)], args := [d] }
  | _ => none }
def CheckBoundWrongFalsely : Prop := checkBoundRow.holds Try.pinned (OpenSpec.ofChange checkBoundWrong)

/-- 'prompterlaw11.CheckRenamed': WHATEVER THE INPUT: true; the input reads as it did. -/
def checkRenamedSpec : ChangeSpec := { name := "checkRenamed", fn := fun _ => fun
  | [d1, d2] => { results := [.lit (.bool true)], args := [d1, d2] }
  | _ => none }
def checkRenamedRow : OpenClaim := { program := "ytmacmejpcpdnnaa", sum := "96bdd8c3a06441bafb309eca1555bb45698d9f90fe46b9c6357aeac2d99da35c", func := "prompter/prompterlaw11.CheckRenamed", spec := "checkRenamed", unfollowed := true, recurses := true, apart := false }
def CheckRenamedSaid : Prop := checkRenamedRow.holds Try.pinned (OpenSpec.ofChange checkRenamedSpec)

/-- ITS FALSE NEIGHBOUR: 'it returns false'. Refute it at one input. -/
def checkRenamedWrong : ChangeSpec := { name := "checkRenamed", fn := fun _ => fun
  | [d1, d2] => { results := [.lit (.bool false)], args := [d1, d2] }
  | _ => none }
def CheckRenamedWrongFalsely : Prop := checkRenamedRow.holds Try.pinned (OpenSpec.ofChange checkRenamedWrong)

/-- 'prompterlaw11.CheckNames': WHATEVER THE INPUT: true; the input reads as it did. -/
def checkNamesSpec : ChangeSpec := { name := "checkNames", fn := fun _ => fun
  | [d] => { results := [.lit (.bool true)], args := [d] }
  | _ => none }
def checkNamesRow : OpenClaim := { program := "ytmacmejpcpdnnaa", sum := "96bdd8c3a06441bafb309eca1555bb45698d9f90fe46b9c6357aeac2d99da35c", func := "prompter/prompterlaw11.CheckNames", spec := "checkNames", unfollowed := true, recurses := true, apart := false }
def CheckNamesSaid : Prop := checkNamesRow.holds Try.pinned (OpenSpec.ofChange checkNamesSpec)

/-- ITS FALSE NEIGHBOUR: 'it returns false'. Refute it at one input. -/
def checkNamesWrong : ChangeSpec := { name := "checkNames", fn := fun _ => fun
  | [d] => { results := [.lit (.bool false)], args := [d] }
  | _ => none }
def CheckNamesWrongFalsely : Prop := checkNamesRow.holds Try.pinned (OpenSpec.ofChange checkNamesWrong)

/-- 'prompterlaw11.CheckAsks': WHATEVER THE INPUT: true; the input reads as it did. -/
def checkAsksSpec : ChangeSpec := { name := "checkAsks", fn := fun _ => fun
  | [d] => { results := [.lit (.bool true)], args := [d] }
  | _ => none }
def checkAsksRow : OpenClaim := { program := "ytmacmejpcpdnnaa", sum := "96bdd8c3a06441bafb309eca1555bb45698d9f90fe46b9c6357aeac2d99da35c", func := "prompter/prompterlaw11.CheckAsks", spec := "checkAsks", unfollowed := true, recurses := true, apart := false }
def CheckAsksSaid : Prop := checkAsksRow.holds Try.pinned (OpenSpec.ofChange checkAsksSpec)

/-- ITS FALSE NEIGHBOUR: 'it returns false'. Refute it at one input. -/
def checkAsksWrong : ChangeSpec := { name := "checkAsks", fn := fun _ => fun
  | [d] => { results := [.lit (.bool false)], args := [d] }
  | _ => none }
def CheckAsksWrongFalsely : Prop := checkAsksRow.holds Try.pinned (OpenSpec.ofChange checkAsksWrong)

/- THE SECOND FORM. 'bulk': how many values and letters a reading holds, each counted each time it is reached (what is shared counts as often as it is met; a slice's spare places count too). A statement '..UptoSaid' is the law's where the arguments, and the package variables that the reading takes, are together of bulk at most 1048576: NARROWER than '..Said'. Prove '..Said' where nothing that the law and all that it calls make is longer than what came in: it says more and counts as full. Else prove '..UptoSaid'. A law counts once. -/
mutual
def uptoBulk {H : Type} : DataW H → Nat
  | .lit (.string bytes) => bytes.length + 1
  | .lit _ => 1
  | .nil => 1
  | .ptr d => uptoBulk d + 1
  | .slice elems spare => uptoBulkAll elems + uptoBulkAll spare + 1
  | .agg parts => uptoBulkAll parts + 1
  | .iface _ d => uptoBulk d + 1
  | .map entries => uptoBulkEntries entries + 1
  | .held _ => 1
def uptoBulkAll {H : Type} : List (DataW H) → Nat
  | [] => 0
  | d :: r => uptoBulk d + uptoBulkAll r
def uptoBulkEntries {H : Type} : List (Lit × DataW H) → Nat
  | [] => 0
  | x :: r => uptoBulkEntry x + uptoBulkEntries r
def uptoBulkEntry {H : Type} : Lit × DataW H → Nat
  | (.string bytes, d) => bytes.length + uptoBulk d + 1
  | (_, d) => uptoBulk d + 1
 end
def uptoSmall : (H : Type) → List (DataW H) → Bool := fun _ ds => decide (uptoBulkAll ds ≤ 1048576)
def OpenSpec.upto (s : _root_.Go.ChangeSpec) : _root_.Go.OpenSpec := { _root_.Go.OpenSpec.ofChange s with cond := some uptoSmall }

/-- 'prompterlaw11.CheckSlots', WHERE WHAT IT READS IS OF BULK AT MOST 1048576: true; the input reads as it did. -/
def checkSlotsUptoRow : OpenClaim := { program := "ytmacmejpcpdnnaa", sum := "96bdd8c3a06441bafb309eca1555bb45698d9f90fe46b9c6357aeac2d99da35c", func := "prompter/prompterlaw11.CheckSlots", spec := "checkSlots", unfollowed := true, recurses := true, apart := false, narrowed := true }
def CheckSlotsUptoSaid : Prop := checkSlotsUptoRow.holds Try.pinned (OpenSpec.upto checkSlotsSpec)

/-- 'prompterlaw11.CheckBound', WHERE WHAT IT READS IS OF BULK AT MOST 1048576: true; the input reads as it did. -/
def checkBoundUptoRow : OpenClaim := { program := "ytmacmejpcpdnnaa", sum := "96bdd8c3a06441bafb309eca1555bb45698d9f90fe46b9c6357aeac2d99da35c", func := "prompter/prompterlaw11.CheckBound", spec := "checkBound", unfollowed := true, recurses := true, apart := false, narrowed := true }
def CheckBoundUptoSaid : Prop := checkBoundUptoRow.holds Try.pinned (OpenSpec.upto checkBoundSpec)

/-- 'prompterlaw11.CheckRenamed', WHERE WHAT IT READS IS OF BULK AT MOST 1048576: true; the input reads as it did. -/
def checkRenamedUptoRow : OpenClaim := { program := "ytmacmejpcpdnnaa", sum := "96bdd8c3a06441bafb309eca1555bb45698d9f90fe46b9c6357aeac2d99da35c", func := "prompter/prompterlaw11.CheckRenamed", spec := "checkRenamed", unfollowed := true, recurses := true, apart := false, narrowed := true }
def CheckRenamedUptoSaid : Prop := checkRenamedUptoRow.holds Try.pinned (OpenSpec.upto checkRenamedSpec)

/-- 'prompterlaw11.CheckNames', WHERE WHAT IT READS IS OF BULK AT MOST 1048576: true; the input reads as it did. -/
def checkNamesUptoRow : OpenClaim := { program := "ytmacmejpcpdnnaa", sum := "96bdd8c3a06441bafb309eca1555bb45698d9f90fe46b9c6357aeac2d99da35c", func := "prompter/prompterlaw11.CheckNames", spec := "checkNames", unfollowed := true, recurses := true, apart := false, narrowed := true }
def CheckNamesUptoSaid : Prop := checkNamesUptoRow.holds Try.pinned (OpenSpec.upto checkNamesSpec)

/-- 'prompterlaw11.CheckAsks', WHERE WHAT IT READS IS OF BULK AT MOST 1048576: true; the input reads as it did. -/
def checkAsksUptoRow : OpenClaim := { program := "ytmacmejpcpdnnaa", sum := "96bdd8c3a06441bafb309eca1555bb45698d9f90fe46b9c6357aeac2d99da35c", func := "prompter/prompterlaw11.CheckAsks", spec := "checkAsks", unfollowed := true, recurses := true, apart := false, narrowed := true }
def CheckAsksUptoSaid : Prop := checkAsksUptoRow.holds Try.pinned (OpenSpec.upto checkAsksSpec)

end Rows
end Go.Proofs.Ytmacmejpcpdnnaa
