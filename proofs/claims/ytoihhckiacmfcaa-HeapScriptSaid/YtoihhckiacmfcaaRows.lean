/-
  No cell of these rows narrows 'for every input' (looked for: loops, veiled, ifaces, maps, wideKeys, modest, calm, conditions, laid).
  DERIVED. THE GIVEN ROWS OF THIS SEAT. 4 by the template 'for every input the law returns true; each argument reads behind the call as it read before'; 0 by the template 'total and deterministic' (their statements: YtoihhckiacmfcaaTotals.lean).
  GIVEN WITH THE SEED: the statements are not yours to turn. If you find one false, say at which input.
  Laid BY PROGRAM, IN A SANDBOX (cutbox-rows.mjs): the forced cells as the released guide's own fill.sh prints them over the translation 49817a6d134598d7… (all of the seat's roots in one cut). By AI agents, Wed Nov 11 2026. No macro, syntax, notation, axiom, sorry.
-/
import Derived.Test.YtoihhckiacmfcaaChecked
import GoSem.Claim
import GoSem.ClaimJoined
import GoSem.ClaimMapViews
import Derived.JoinedTies
import Derived.KernelRfl
namespace Go.Proofs.Ytoihhckiacmfcaa
/- THE CELL 'sum', in the pinned program and in every row, IS THE sha256 OF THE DUMP (.gsa) THAT YtoihhckiacmfcaaProg.lean LOADS. Nothing in Lean hashes anything: it is a label: what it is worth is what the hold of that sum in a sandbox is worth. -/
noncomputable def Try.pinned : Pinned := { name := "ytoihhckiacmfcaa", sum := "49817a6d134598d70250fecf2cbd96e520722c44fcda6ccacf20cd4c6e19df80", checked := Try.checked }
namespace Rows
def none {H : Type} : Left H := { results := [], args := [] }

/-- 'prompterlaw03.HeapTakes': WHATEVER THE INPUT: true; the input reads as it did. -/
def heapTakesSpec : ChangeSpec := { name := "heapTakes", fn := fun _ => fun
  | [d1, d2, d3] => { results := [.lit (.bool true)], args := [d1, d2, d3] }
  | _ => none }
def heapTakesRow : OpenClaim := { program := "ytoihhckiacmfcaa", sum := "49817a6d134598d70250fecf2cbd96e520722c44fcda6ccacf20cd4c6e19df80", func := "prompter/prompterlaw03.HeapTakes", spec := "heapTakes", apart := false }
def HeapTakesSaid : Prop := heapTakesRow.holds Try.pinned (OpenSpec.ofChange heapTakesSpec)

/-- ITS FALSE NEIGHBOUR: 'it returns false'. Refute it at one input. -/
def heapTakesWrong : ChangeSpec := { name := "heapTakes", fn := fun _ => fun
  | [d1, d2, d3] => { results := [.lit (.bool false)], args := [d1, d2, d3] }
  | _ => none }
def HeapTakesWrongFalsely : Prop := heapTakesRow.holds Try.pinned (OpenSpec.ofChange heapTakesWrong)

/-- 'prompterlaw03.HeapSorts': WHATEVER THE INPUT: true; the input reads as it did. -/
def heapSortsSpec : ChangeSpec := { name := "heapSorts", fn := fun _ => fun
  | [d] => { results := [.lit (.bool true)], args := [d] }
  | _ => none }
def heapSortsRow : OpenClaim := { program := "ytoihhckiacmfcaa", sum := "49817a6d134598d70250fecf2cbd96e520722c44fcda6ccacf20cd4c6e19df80", func := "prompter/prompterlaw03.HeapSorts", spec := "heapSorts", unfollowed := true, recurses := true, apart := false }
def HeapSortsSaid : Prop := heapSortsRow.holds Try.pinned (OpenSpec.ofChange heapSortsSpec)

/-- ITS FALSE NEIGHBOUR: 'it returns false'. Refute it at one input. -/
def heapSortsWrong : ChangeSpec := { name := "heapSorts", fn := fun _ => fun
  | [d] => { results := [.lit (.bool false)], args := [d] }
  | _ => none }
def HeapSortsWrongFalsely : Prop := heapSortsRow.holds Try.pinned (OpenSpec.ofChange heapSortsWrong)

/-- 'prompterlaw03.HeapScript': WHATEVER THE INPUT: true; the input reads as it did. -/
def heapScriptSpec : ChangeSpec := { name := "heapScript", fn := fun _ => fun
  | [d] => { results := [.lit (.bool true)], args := [d] }
  | _ => none }
def heapScriptRow : OpenClaim := { program := "ytoihhckiacmfcaa", sum := "49817a6d134598d70250fecf2cbd96e520722c44fcda6ccacf20cd4c6e19df80", func := "prompter/prompterlaw03.HeapScript", spec := "heapScript", inPlace := ["maps.clone"], unfollowed := true, recurses := true, apart := false }
def HeapScriptSaid : Prop := heapScriptRow.holds Try.pinned (OpenSpec.ofChange heapScriptSpec)

/-- ITS FALSE NEIGHBOUR: 'it returns false'. Refute it at one input. -/
def heapScriptWrong : ChangeSpec := { name := "heapScript", fn := fun _ => fun
  | [d] => { results := [.lit (.bool false)], args := [d] }
  | _ => none }
def HeapScriptWrongFalsely : Prop := heapScriptRow.holds Try.pinned (OpenSpec.ofChange heapScriptWrong)

/-- 'prompterlaw03.HeapNobody': WHATEVER THE INPUT: true; the input reads as it did. -/
def heapNobodySpec : ChangeSpec := { name := "heapNobody", fn := fun _ => fun
  | [d1, d2] => { results := [.lit (.bool true)], args := [d1, d2] }
  | _ => none }
def heapNobodyRow : OpenClaim := { program := "ytoihhckiacmfcaa", sum := "49817a6d134598d70250fecf2cbd96e520722c44fcda6ccacf20cd4c6e19df80", func := "prompter/prompterlaw03.HeapNobody", spec := "heapNobody", inPlace := ["maps.clone"], unfollowed := true, recurses := true, apart := false }
def HeapNobodySaid : Prop := heapNobodyRow.holds Try.pinned (OpenSpec.ofChange heapNobodySpec)

/-- ITS FALSE NEIGHBOUR: 'it returns false'. Refute it at one input. -/
def heapNobodyWrong : ChangeSpec := { name := "heapNobody", fn := fun _ => fun
  | [d1, d2] => { results := [.lit (.bool false)], args := [d1, d2] }
  | _ => none }
def HeapNobodyWrongFalsely : Prop := heapNobodyRow.holds Try.pinned (OpenSpec.ofChange heapNobodyWrong)

/- THE SECOND FORM. 'bulk': how many values and letters a reading holds, each counted each time it is reached (what is shared counts as often as it is met; a slice's spare places count too). A statement '..UptoSaid' is the law's where the arguments, and the package variables that the reading takes, are together of bulk at most 1048576: NARROWER than '..Said'. Prove '..Said' where nothing that the law and all that it calls make is longer than what came in: it says more and counts as full. Else prove '..UptoSaid'. A law counts once. -/
mutual
def uptoBulk {H : Type} : DataW H → Nat
  | .lit (.string bytes) => bytes.length + 1
  | .lit _ => 1
  | .nil => 1
  | .ptr d => uptoBulk d + 1
  | .slice elems spare => uptoBulkAll elems + uptoBulkAll spare + 1
  | .agg parts => uptoBulkAll parts + 1
  | .iface _ d => uptoBulk d + 1
  | .map entries => uptoBulkEntries entries + 1
  | .held _ => 1
def uptoBulkAll {H : Type} : List (DataW H) → Nat
  | [] => 0
  | d :: r => uptoBulk d + uptoBulkAll r
def uptoBulkEntries {H : Type} : List (Lit × DataW H) → Nat
  | [] => 0
  | x :: r => uptoBulkEntry x + uptoBulkEntries r
def uptoBulkEntry {H : Type} : Lit × DataW H → Nat
  | (.string bytes, d) => bytes.length + uptoBulk d + 1
  | (_, d) => uptoBulk d + 1
 end
def uptoSmall : (H : Type) → List (DataW H) → Bool := fun _ ds => decide (uptoBulkAll ds ≤ 1048576)
def OpenSpec.upto (s : _root_.Go.ChangeSpec) : _root_.Go.OpenSpec := { _root_.Go.OpenSpec.ofChange s with cond := some uptoSmall }

/-- 'prompterlaw03.HeapTakes', WHERE WHAT IT READS IS OF BULK AT MOST 1048576: true; the input reads as it did. -/
def heapTakesUptoRow : OpenClaim := { program := "ytoihhckiacmfcaa", sum := "49817a6d134598d70250fecf2cbd96e520722c44fcda6ccacf20cd4c6e19df80", func := "prompter/prompterlaw03.HeapTakes", spec := "heapTakes", apart := false, narrowed := true }
def HeapTakesUptoSaid : Prop := heapTakesUptoRow.holds Try.pinned (OpenSpec.upto heapTakesSpec)

/-- 'prompterlaw03.HeapSorts', WHERE WHAT IT READS IS OF BULK AT MOST 1048576: true; the input reads as it did. -/
def heapSortsUptoRow : OpenClaim := { program := "ytoihhckiacmfcaa", sum := "49817a6d134598d70250fecf2cbd96e520722c44fcda6ccacf20cd4c6e19df80", func := "prompter/prompterlaw03.HeapSorts", spec := "heapSorts", unfollowed := true, recurses := true, apart := false, narrowed := true }
def HeapSortsUptoSaid : Prop := heapSortsUptoRow.holds Try.pinned (OpenSpec.upto heapSortsSpec)

/-- 'prompterlaw03.HeapScript', WHERE WHAT IT READS IS OF BULK AT MOST 1048576: true; the input reads as it did. -/
def heapScriptUptoRow : OpenClaim := { program := "ytoihhckiacmfcaa", sum := "49817a6d134598d70250fecf2cbd96e520722c44fcda6ccacf20cd4c6e19df80", func := "prompter/prompterlaw03.HeapScript", spec := "heapScript", inPlace := ["maps.clone"], unfollowed := true, recurses := true, apart := false, narrowed := true }
def HeapScriptUptoSaid : Prop := heapScriptUptoRow.holds Try.pinned (OpenSpec.upto heapScriptSpec)

/-- 'prompterlaw03.HeapNobody', WHERE WHAT IT READS IS OF BULK AT MOST 1048576: true; the input reads as it did. -/
def heapNobodyUptoRow : OpenClaim := { program := "ytoihhckiacmfcaa", sum := "49817a6d134598d70250fecf2cbd96e520722c44fcda6ccacf20cd4c6e19df80", func := "prompter/prompterlaw03.HeapNobody", spec := "heapNobody", inPlace := ["maps.clone"], unfollowed := true, recurses := true, apart := false, narrowed := true }
def HeapNobodyUptoSaid : Prop := heapNobodyUptoRow.holds Try.pinned (OpenSpec.upto heapNobodySpec)

end Rows
end Go.Proofs.Ytoihhckiacmfcaa
