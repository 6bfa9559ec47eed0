/-
  No cell of these rows narrows 'for every input' (looked for: loops, veiled, ifaces, maps, wideKeys, modest, calm, conditions, laid).
  DERIVED. THE GIVEN ROWS OF THIS SEAT. 5 by the template 'for every input the law returns true; each argument reads behind the call as it read before'; 0 by the template 'total and deterministic' (their statements: YtpbheicfplpemaaTotals.lean).
  GIVEN WITH THE SEED: the statements are not yours to turn. If you find one false, say at which input.
  Laid BY PROGRAM, IN A SANDBOX (cutbox-rows.mjs): the forced cells as the released guide's own fill.sh prints them over the translation 11f204193d4b4dbd… (all of the seat's roots in one cut). By AI agents, Wed Nov 11 2026. No macro, syntax, notation, axiom, sorry.
-/
import Derived.Test.YtpbheicfplpemaaChecked
import GoSem.Claim
import GoSem.ClaimJoined
import GoSem.ClaimMapViews
import Derived.JoinedTies
import Derived.KernelRfl
namespace Go.Proofs.Ytpbheicfplpemaa
/- THE CELL 'sum', in the pinned program and in every row, IS THE sha256 OF THE DUMP (.gsa) THAT YtpbheicfplpemaaProg.lean LOADS. Nothing in Lean hashes anything: it is a label: what it is worth is what the hold of that sum in a sandbox is worth. -/
noncomputable def Try.pinned : Pinned := { name := "ytpbheicfplpemaa", sum := "11f204193d4b4dbd8fb15393ad1ee6c4de4b70ac9b73b892ff511ce69da09615", checked := Try.checked }
namespace Rows
def none {H : Type} : Left H := { results := [], args := [] }

/-- 'prompterlaw22.QueueOrder': WHATEVER THE INPUT: true; the input reads as it did. -/
def queueOrderSpec : ChangeSpec := { name := "queueOrder", fn := fun _ => fun
  | [d1, d2, d3, d4, d5] => { results := [.lit (.bool true)], args := [d1, d2, d3, d4, d5] }
  | _ => none }
def queueOrderRow : OpenClaim := { program := "ytpbheicfplpemaa", sum := "11f204193d4b4dbd8fb15393ad1ee6c4de4b70ac9b73b892ff511ce69da09615", func := "prompter/prompterlaw22.QueueOrder", spec := "queueOrder", inPlace := ["maps.clone"], unfollowed := true, recurses := true, apart := false }
def QueueOrderSaid : Prop := queueOrderRow.holds Try.pinned (OpenSpec.ofChange queueOrderSpec)

/-- ITS FALSE NEIGHBOUR: 'it returns false'. Refute it at one input. -/
def queueOrderWrong : ChangeSpec := { name := "queueOrder", fn := fun _ => fun
  | [d1, d2, d3, d4, d5] => { results := [.lit (.bool false)], args := [d1, d2, d3, d4, d5] }
  | _ => none }
def QueueOrderWrongFalsely : Prop := queueOrderRow.holds Try.pinned (OpenSpec.ofChange queueOrderWrong)

/-- 'prompterlaw22.QueueLeases': WHATEVER THE INPUT: true; the input reads as it did. -/
def queueLeasesSpec : ChangeSpec := { name := "queueLeases", fn := fun _ => fun
  | [d1, d2, d3] => { results := [.lit (.bool true)], args := [d1, d2, d3] }
  | _ => none }
def queueLeasesRow : OpenClaim := { program := "ytpbheicfplpemaa", sum := "11f204193d4b4dbd8fb15393ad1ee6c4de4b70ac9b73b892ff511ce69da09615", func := "prompter/prompterlaw22.QueueLeases", spec := "queueLeases", unfollowed := true, recurses := true, apart := false }
def QueueLeasesSaid : Prop := queueLeasesRow.holds Try.pinned (OpenSpec.ofChange queueLeasesSpec)

/-- ITS FALSE NEIGHBOUR: 'it returns false'. Refute it at one input. -/
def queueLeasesWrong : ChangeSpec := { name := "queueLeases", fn := fun _ => fun
  | [d1, d2, d3] => { results := [.lit (.bool false)], args := [d1, d2, d3] }
  | _ => none }
def QueueLeasesWrongFalsely : Prop := queueLeasesRow.holds Try.pinned (OpenSpec.ofChange queueLeasesWrong)

/-- 'prompterlaw22.QueueOnce': WHATEVER THE INPUT: true; the input reads as it did. -/
def queueOnceSpec : ChangeSpec := { name := "queueOnce", fn := fun _ => fun
  | [d1, d2, d3] => { results := [.lit (.bool true)], args := [d1, d2, d3] }
  | _ => none }
def queueOnceRow : OpenClaim := { program := "ytpbheicfplpemaa", sum := "11f204193d4b4dbd8fb15393ad1ee6c4de4b70ac9b73b892ff511ce69da09615", func := "prompter/prompterlaw22.QueueOnce", spec := "queueOnce", unfollowed := true, recurses := true, apart := false }
def QueueOnceSaid : Prop := queueOnceRow.holds Try.pinned (OpenSpec.ofChange queueOnceSpec)

/-- ITS FALSE NEIGHBOUR: 'it returns false'. Refute it at one input. -/
def queueOnceWrong : ChangeSpec := { name := "queueOnce", fn := fun _ => fun
  | [d1, d2, d3] => { results := [.lit (.bool false)], args := [d1, d2, d3] }
  | _ => none }
def QueueOnceWrongFalsely : Prop := queueOnceRow.holds Try.pinned (OpenSpec.ofChange queueOnceWrong)

/-- 'prompterlaw22.QueueNobody': WHATEVER THE INPUT: true; the input reads as it did. -/
def queueNobodySpec : ChangeSpec := { name := "queueNobody", fn := fun _ => fun
  | [d1, d2, d3, d4, d5] => { results := [.lit (.bool true)], args := [d1, d2, d3, d4, d5] }
  | _ => none }
def queueNobodyRow : OpenClaim := { program := "ytpbheicfplpemaa", sum := "11f204193d4b4dbd8fb15393ad1ee6c4de4b70ac9b73b892ff511ce69da09615", func := "prompter/prompterlaw22.QueueNobody", spec := "queueNobody", inPlace := ["maps.clone"], unfollowed := true, recurses := true, apart := false }
def QueueNobodySaid : Prop := queueNobodyRow.holds Try.pinned (OpenSpec.ofChange queueNobodySpec)

/-- ITS FALSE NEIGHBOUR: 'it returns false'. Refute it at one input. -/
def queueNobodyWrong : ChangeSpec := { name := "queueNobody", fn := fun _ => fun
  | [d1, d2, d3, d4, d5] => { results := [.lit (.bool false)], args := [d1, d2, d3, d4, d5] }
  | _ => none }
def QueueNobodyWrongFalsely : Prop := queueNobodyRow.holds Try.pinned (OpenSpec.ofChange queueNobodyWrong)

/-- 'prompterlaw22.QueueKnown': WHATEVER THE INPUT: true; the input reads as it did. -/
def queueKnownSpec : ChangeSpec := { name := "queueKnown", fn := fun _ => fun
  | [] => { results := [.lit (.bool true)], args := [] }
  | _ => none }
def queueKnownRow : OpenClaim := { program := "ytpbheicfplpemaa", sum := "11f204193d4b4dbd8fb15393ad1ee6c4de4b70ac9b73b892ff511ce69da09615", func := "prompter/prompterlaw22.QueueKnown", spec := "queueKnown", unfollowed := true, recurses := true, apart := false }
def QueueKnownSaid : Prop := queueKnownRow.holds Try.pinned (OpenSpec.ofChange queueKnownSpec)

/-- ITS FALSE NEIGHBOUR: 'it returns false'. Refute it at one input. -/
def queueKnownWrong : ChangeSpec := { name := "queueKnown", fn := fun _ => fun
  | [] => { results := [.lit (.bool false)], args := [] }
  | _ => none }
def QueueKnownWrongFalsely : Prop := queueKnownRow.holds Try.pinned (OpenSpec.ofChange queueKnownWrong)

/- THE SECOND FORM. 'bulk': how many values and letters a reading holds, each counted each time it is reached (what is shared counts as often as it is met; a slice's spare places count too). A statement '..UptoSaid' is the law's where the arguments, and the package variables that the reading takes, are together of bulk at most 1048576: NARROWER than '..Said'. Prove '..Said' where nothing that the law and all that it calls make is longer than what came in: it says more and counts as full. Else prove '..UptoSaid'. A law counts once. -/
mutual
def uptoBulk {H : Type} : DataW H → Nat
  | .lit (.string bytes) => bytes.length + 1
  | .lit _ => 1
  | .nil => 1
  | .ptr d => uptoBulk d + 1
  | .slice elems spare => uptoBulkAll elems + uptoBulkAll spare + 1
  | .agg parts => uptoBulkAll parts + 1
  | .iface _ d => uptoBulk d + 1
  | .map entries => uptoBulkEntries entries + 1
  | .held _ => 1
def uptoBulkAll {H : Type} : List (DataW H) → Nat
  | [] => 0
  | d :: r => uptoBulk d + uptoBulkAll r
def uptoBulkEntries {H : Type} : List (Lit × DataW H) → Nat
  | [] => 0
  | x :: r => uptoBulkEntry x + uptoBulkEntries r
def uptoBulkEntry {H : Type} : Lit × DataW H → Nat
  | (.string bytes, d) => bytes.length + uptoBulk d + 1
  | (_, d) => uptoBulk d + 1
 end
def uptoSmall : (H : Type) → List (DataW H) → Bool := fun _ ds => decide (uptoBulkAll ds ≤ 1048576)
def OpenSpec.upto (s : _root_.Go.ChangeSpec) : _root_.Go.OpenSpec := { _root_.Go.OpenSpec.ofChange s with cond := some uptoSmall }

/-- 'prompterlaw22.QueueOrder', WHERE WHAT IT READS IS OF BULK AT MOST 1048576: true; the input reads as it did. -/
def queueOrderUptoRow : OpenClaim := { program := "ytpbheicfplpemaa", sum := "11f204193d4b4dbd8fb15393ad1ee6c4de4b70ac9b73b892ff511ce69da09615", func := "prompter/prompterlaw22.QueueOrder", spec := "queueOrder", inPlace := ["maps.clone"], unfollowed := true, recurses := true, apart := false, narrowed := true }
def QueueOrderUptoSaid : Prop := queueOrderUptoRow.holds Try.pinned (OpenSpec.upto queueOrderSpec)

/-- 'prompterlaw22.QueueLeases', WHERE WHAT IT READS IS OF BULK AT MOST 1048576: true; the input reads as it did. -/
def queueLeasesUptoRow : OpenClaim := { program := "ytpbheicfplpemaa", sum := "11f204193d4b4dbd8fb15393ad1ee6c4de4b70ac9b73b892ff511ce69da09615", func := "prompter/prompterlaw22.QueueLeases", spec := "queueLeases", unfollowed := true, recurses := true, apart := false, narrowed := true }
def QueueLeasesUptoSaid : Prop := queueLeasesUptoRow.holds Try.pinned (OpenSpec.upto queueLeasesSpec)

/-- 'prompterlaw22.QueueOnce', WHERE WHAT IT READS IS OF BULK AT MOST 1048576: true; the input reads as it did. -/
def queueOnceUptoRow : OpenClaim := { program := "ytpbheicfplpemaa", sum := "11f204193d4b4dbd8fb15393ad1ee6c4de4b70ac9b73b892ff511ce69da09615", func := "prompter/prompterlaw22.QueueOnce", spec := "queueOnce", unfollowed := true, recurses := true, apart := false, narrowed := true }
def QueueOnceUptoSaid : Prop := queueOnceUptoRow.holds Try.pinned (OpenSpec.upto queueOnceSpec)

/-- 'prompterlaw22.QueueNobody', WHERE WHAT IT READS IS OF BULK AT MOST 1048576: true; the input reads as it did. -/
def queueNobodyUptoRow : OpenClaim := { program := "ytpbheicfplpemaa", sum := "11f204193d4b4dbd8fb15393ad1ee6c4de4b70ac9b73b892ff511ce69da09615", func := "prompter/prompterlaw22.QueueNobody", spec := "queueNobody", inPlace := ["maps.clone"], unfollowed := true, recurses := true, apart := false, narrowed := true }
def QueueNobodyUptoSaid : Prop := queueNobodyUptoRow.holds Try.pinned (OpenSpec.upto queueNobodySpec)

/-- 'prompterlaw22.QueueKnown', WHERE WHAT IT READS IS OF BULK AT MOST 1048576: true; the input reads as it did. -/
def queueKnownUptoRow : OpenClaim := { program := "ytpbheicfplpemaa", sum := "11f204193d4b4dbd8fb15393ad1ee6c4de4b70ac9b73b892ff511ce69da09615", func := "prompter/prompterlaw22.QueueKnown", spec := "queueKnown", unfollowed := true, recurses := true, apart := false, narrowed := true }
def QueueKnownUptoSaid : Prop := queueKnownUptoRow.holds Try.pinned (OpenSpec.upto queueKnownSpec)

end Rows
end Go.Proofs.Ytpbheicfplpemaa
