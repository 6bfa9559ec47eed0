/-
  No cell of these rows narrows 'for every input' (looked for: loops, veiled, ifaces, maps, wideKeys, modest, calm, conditions, laid).
  DERIVED. THE GIVEN ROWS OF THIS SEAT. 6 by the template 'for every input the law returns true; each argument reads behind the call as it read before'; 0 by the template 'total and deterministic' (their statements: YteondokncalbnaaTotals.lean).
  GIVEN WITH THE SEED: the statements are not yours to turn. If you find one false, say at which input.
  Laid BY PROGRAM, IN A SANDBOX (cutbox-rows.mjs): the forced cells as the released guide's own fill.sh prints them over the translation 00ad6a0972d16093… (all of the seat's roots in one cut). By AI agents, Wed Nov 11 2026. No macro, syntax, notation, axiom, sorry.
-/
import Derived.Test.YteondokncalbnaaChecked
import GoSem.Claim
import GoSem.ClaimJoined
import GoSem.ClaimMapViews
import Derived.JoinedTies
import Derived.KernelRfl
namespace Go.Proofs.Yteondokncalbnaa
/- THE CELL 'sum', in the pinned program and in every row, IS THE sha256 OF THE DUMP (.gsa) THAT YteondokncalbnaaProg.lean LOADS. Nothing in Lean hashes anything: it is a label: what it is worth is what the hold of that sum in a sandbox is worth. -/
noncomputable def Try.pinned : Pinned := { name := "yteondokncalbnaa", sum := "00ad6a0972d1609300ee30be68d15d469e8213bd5cc4ff63dff65c6fb087b070", checked := Try.checked }
namespace Rows
def none {H : Type} : Left H := { results := [], args := [] }

/-- 'prompterlaw21.TimersOnce': WHATEVER THE INPUT: true; the input reads as it did. -/
def timersOnceSpec : ChangeSpec := { name := "timersOnce", fn := fun _ => fun
  | [d1, d2] => { results := [.lit (.bool true)], args := [d1, d2] }
  | _ => none }
def timersOnceRow : OpenClaim := { program := "yteondokncalbnaa", sum := "00ad6a0972d1609300ee30be68d15d469e8213bd5cc4ff63dff65c6fb087b070", func := "prompter/prompterlaw21.TimersOnce", spec := "timersOnce", plainKeys := false, apart := false }
def TimersOnceSaid : Prop := timersOnceRow.holds Try.pinned (OpenSpec.ofChange timersOnceSpec)

/-- ITS FALSE NEIGHBOUR: 'it returns false'. Refute it at one input. -/
def timersOnceWrong : ChangeSpec := { name := "timersOnce", fn := fun _ => fun
  | [d1, d2] => { results := [.lit (.bool false)], args := [d1, d2] }
  | _ => none }
def TimersOnceWrongFalsely : Prop := timersOnceRow.holds Try.pinned (OpenSpec.ofChange timersOnceWrong)

/-- 'prompterlaw21.TimersNobody': WHATEVER THE INPUT: true; the input reads as it did. -/
def timersNobodySpec : ChangeSpec := { name := "timersNobody", fn := fun _ => fun
  | [d1, d2, d3] => { results := [.lit (.bool true)], args := [d1, d2, d3] }
  | _ => none }
def timersNobodyRow : OpenClaim := { program := "yteondokncalbnaa", sum := "00ad6a0972d1609300ee30be68d15d469e8213bd5cc4ff63dff65c6fb087b070", func := "prompter/prompterlaw21.TimersNobody", spec := "timersNobody", unfollowed := true, recurses := true, plainKeys := false, apart := false }
def TimersNobodySaid : Prop := timersNobodyRow.holds Try.pinned (OpenSpec.ofChange timersNobodySpec)

/-- ITS FALSE NEIGHBOUR: 'it returns false'. Refute it at one input. -/
def timersNobodyWrong : ChangeSpec := { name := "timersNobody", fn := fun _ => fun
  | [d1, d2, d3] => { results := [.lit (.bool false)], args := [d1, d2, d3] }
  | _ => none }
def TimersNobodyWrongFalsely : Prop := timersNobodyRow.holds Try.pinned (OpenSpec.ofChange timersNobodyWrong)

/-- 'prompterlaw21.TimersOpens': WHATEVER THE INPUT: true; the input reads as it did. -/
def timersOpensSpec : ChangeSpec := { name := "timersOpens", fn := fun _ => fun
  | [d] => { results := [.lit (.bool true)], args := [d] }
  | _ => none }
def timersOpensRow : OpenClaim := { program := "yteondokncalbnaa", sum := "00ad6a0972d1609300ee30be68d15d469e8213bd5cc4ff63dff65c6fb087b070", func := "prompter/prompterlaw21.TimersOpens", spec := "timersOpens", unfollowed := true, recurses := true, plainKeys := false, apart := false }
def TimersOpensSaid : Prop := timersOpensRow.holds Try.pinned (OpenSpec.ofChange timersOpensSpec)

/-- ITS FALSE NEIGHBOUR: 'it returns false'. Refute it at one input. -/
def timersOpensWrong : ChangeSpec := { name := "timersOpens", fn := fun _ => fun
  | [d] => { results := [.lit (.bool false)], args := [d] }
  | _ => none }
def TimersOpensWrongFalsely : Prop := timersOpensRow.holds Try.pinned (OpenSpec.ofChange timersOpensWrong)

/-- 'prompterlaw21.TimersKnown': WHATEVER THE INPUT: true; the input reads as it did. -/
def timersKnownSpec : ChangeSpec := { name := "timersKnown", fn := fun _ => fun
  | [] => { results := [.lit (.bool true)], args := [] }
  | _ => none }
def timersKnownRow : OpenClaim := { program := "yteondokncalbnaa", sum := "00ad6a0972d1609300ee30be68d15d469e8213bd5cc4ff63dff65c6fb087b070", func := "prompter/prompterlaw21.TimersKnown", spec := "timersKnown", unfollowed := true, recurses := true, plainKeys := false, apart := false }
def TimersKnownSaid : Prop := timersKnownRow.holds Try.pinned (OpenSpec.ofChange timersKnownSpec)

/-- ITS FALSE NEIGHBOUR: 'it returns false'. Refute it at one input. -/
def timersKnownWrong : ChangeSpec := { name := "timersKnown", fn := fun _ => fun
  | [] => { results := [.lit (.bool false)], args := [] }
  | _ => none }
def TimersKnownWrongFalsely : Prop := timersKnownRow.holds Try.pinned (OpenSpec.ofChange timersKnownWrong)

/-- 'prompterlaw21.TimersScript': WHATEVER THE INPUT: true; the input reads as it did. -/
def timersScriptSpec : ChangeSpec := { name := "timersScript", fn := fun _ => fun
  | [d] => { results := [.lit (.bool true)], args := [d] }
  | _ => none }
def timersScriptRow : OpenClaim := { program := "yteondokncalbnaa", sum := "00ad6a0972d1609300ee30be68d15d469e8213bd5cc4ff63dff65c6fb087b070", func := "prompter/prompterlaw21.TimersScript", spec := "timersScript", unfollowed := true, recurses := true, plainKeys := false, apart := false }
def TimersScriptSaid : Prop := timersScriptRow.holds Try.pinned (OpenSpec.ofChange timersScriptSpec)

/-- ITS FALSE NEIGHBOUR: 'it returns false'. Refute it at one input. -/
def timersScriptWrong : ChangeSpec := { name := "timersScript", fn := fun _ => fun
  | [d] => { results := [.lit (.bool false)], args := [d] }
  | _ => none }
def TimersScriptWrongFalsely : Prop := timersScriptRow.holds Try.pinned (OpenSpec.ofChange timersScriptWrong)

/-- 'prompterlaw21.TimersDropped': WHATEVER THE INPUT: true; the input reads as it did. -/
def timersDroppedSpec : ChangeSpec := { name := "timersDropped", fn := fun _ => fun
  | [d1, d2, d3, d4] => { results := [.lit (.bool true)], args := [d1, d2, d3, d4] }
  | _ => none }
def timersDroppedRow : OpenClaim := { program := "yteondokncalbnaa", sum := "00ad6a0972d1609300ee30be68d15d469e8213bd5cc4ff63dff65c6fb087b070", func := "prompter/prompterlaw21.TimersDropped", spec := "timersDropped", unfollowed := true, recurses := true, plainKeys := false, apart := false }
def TimersDroppedSaid : Prop := timersDroppedRow.holds Try.pinned (OpenSpec.ofChange timersDroppedSpec)

/-- ITS FALSE NEIGHBOUR: 'it returns false'. Refute it at one input. -/
def timersDroppedWrong : ChangeSpec := { name := "timersDropped", fn := fun _ => fun
  | [d1, d2, d3, d4] => { results := [.lit (.bool false)], args := [d1, d2, d3, d4] }
  | _ => none }
def TimersDroppedWrongFalsely : Prop := timersDroppedRow.holds Try.pinned (OpenSpec.ofChange timersDroppedWrong)

/- THE SECOND FORM. 'bulk': how many values and letters a reading holds, each counted each time it is reached (what is shared counts as often as it is met; a slice's spare places count too). A statement '..UptoSaid' is the law's where the arguments, and the package variables that the reading takes, are together of bulk at most 1048576: NARROWER than '..Said'. Prove '..Said' where nothing that the law and all that it calls make is longer than what came in: it says more and counts as full. Else prove '..UptoSaid'. A law counts once. -/
mutual
def uptoBulk {H : Type} : DataW H → Nat
  | .lit (.string bytes) => bytes.length + 1
  | .lit _ => 1
  | .nil => 1
  | .ptr d => uptoBulk d + 1
  | .slice elems spare => uptoBulkAll elems + uptoBulkAll spare + 1
  | .agg parts => uptoBulkAll parts + 1
  | .iface _ d => uptoBulk d + 1
  | .map entries => uptoBulkEntries entries + 1
  | .held _ => 1
def uptoBulkAll {H : Type} : List (DataW H) → Nat
  | [] => 0
  | d :: r => uptoBulk d + uptoBulkAll r
def uptoBulkEntries {H : Type} : List (Lit × DataW H) → Nat
  | [] => 0
  | x :: r => uptoBulkEntry x + uptoBulkEntries r
def uptoBulkEntry {H : Type} : Lit × DataW H → Nat
  | (.string bytes, d) => bytes.length + uptoBulk d + 1
  | (_, d) => uptoBulk d + 1
 end
def uptoSmall : (H : Type) → List (DataW H) → Bool := fun _ ds => decide (uptoBulkAll ds ≤ 1048576)
def OpenSpec.upto (s : _root_.Go.ChangeSpec) : _root_.Go.OpenSpec := { _root_.Go.OpenSpec.ofChange s with cond := some uptoSmall }

/-- 'prompterlaw21.TimersOnce', WHERE WHAT IT READS IS OF BULK AT MOST 1048576: true; the input reads as it did. -/
def timersOnceUptoRow : OpenClaim := { program := "yteondokncalbnaa", sum := "00ad6a0972d1609300ee30be68d15d469e8213bd5cc4ff63dff65c6fb087b070", func := "prompter/prompterlaw21.TimersOnce", spec := "timersOnce", plainKeys := false, apart := false, narrowed := true }
def TimersOnceUptoSaid : Prop := timersOnceUptoRow.holds Try.pinned (OpenSpec.upto timersOnceSpec)

/-- 'prompterlaw21.TimersNobody', WHERE WHAT IT READS IS OF BULK AT MOST 1048576: true; the input reads as it did. -/
def timersNobodyUptoRow : OpenClaim := { program := "yteondokncalbnaa", sum := "00ad6a0972d1609300ee30be68d15d469e8213bd5cc4ff63dff65c6fb087b070", func := "prompter/prompterlaw21.TimersNobody", spec := "timersNobody", unfollowed := true, recurses := true, plainKeys := false, apart := false, narrowed := true }
def TimersNobodyUptoSaid : Prop := timersNobodyUptoRow.holds Try.pinned (OpenSpec.upto timersNobodySpec)

/-- 'prompterlaw21.TimersOpens', WHERE WHAT IT READS IS OF BULK AT MOST 1048576: true; the input reads as it did. -/
def timersOpensUptoRow : OpenClaim := { program := "yteondokncalbnaa", sum := "00ad6a0972d1609300ee30be68d15d469e8213bd5cc4ff63dff65c6fb087b070", func := "prompter/prompterlaw21.TimersOpens", spec := "timersOpens", unfollowed := true, recurses := true, plainKeys := false, apart := false, narrowed := true }
def TimersOpensUptoSaid : Prop := timersOpensUptoRow.holds Try.pinned (OpenSpec.upto timersOpensSpec)

/-- 'prompterlaw21.TimersKnown', WHERE WHAT IT READS IS OF BULK AT MOST 1048576: true; the input reads as it did. -/
def timersKnownUptoRow : OpenClaim := { program := "yteondokncalbnaa", sum := "00ad6a0972d1609300ee30be68d15d469e8213bd5cc4ff63dff65c6fb087b070", func := "prompter/prompterlaw21.TimersKnown", spec := "timersKnown", unfollowed := true, recurses := true, plainKeys := false, apart := false, narrowed := true }
def TimersKnownUptoSaid : Prop := timersKnownUptoRow.holds Try.pinned (OpenSpec.upto timersKnownSpec)

/-- 'prompterlaw21.TimersScript', WHERE WHAT IT READS IS OF BULK AT MOST 1048576: true; the input reads as it did. -/
def timersScriptUptoRow : OpenClaim := { program := "yteondokncalbnaa", sum := "00ad6a0972d1609300ee30be68d15d469e8213bd5cc4ff63dff65c6fb087b070", func := "prompter/prompterlaw21.TimersScript", spec := "timersScript", unfollowed := true, recurses := true, plainKeys := false, apart := false, narrowed := true }
def TimersScriptUptoSaid : Prop := timersScriptUptoRow.holds Try.pinned (OpenSpec.upto timersScriptSpec)

/-- 'prompterlaw21.TimersDropped', WHERE WHAT IT READS IS OF BULK AT MOST 1048576: true; the input reads as it did. -/
def timersDroppedUptoRow : OpenClaim := { program := "yteondokncalbnaa", sum := "00ad6a0972d1609300ee30be68d15d469e8213bd5cc4ff63dff65c6fb087b070", func := "prompter/prompterlaw21.TimersDropped", spec := "timersDropped", unfollowed := true, recurses := true, plainKeys := false, apart := false, narrowed := true }
def TimersDroppedUptoSaid : Prop := timersDroppedUptoRow.holds Try.pinned (OpenSpec.upto timersDroppedSpec)

end Rows
end Go.Proofs.Yteondokncalbnaa
