/- A region that draws its order, whose operations read and whose callees read or make memory of their own: walked once, in the order of the text. -/
import Derived.Test.YticipdjfkpakpaaEvRead1
import Derived.Deep.QuietTactic
import Derived.BigQuiet
namespace Go.Proofs.Yticipdjfkpakpaa
open Go.RowKit

/-- a world in which every block of the first is as it was -/
structure BelowW (w0 : World) where
  w : World
  h : Below w0.heap.size w0 w
instance (w : World) : Inhabited (BelowW w) := ⟨⟨w, Below.refl _ w⟩⟩
theorem wp_region_quiet_below {P : Program} {id : Nat} {Q : Exit → Act → World → Prop} {a : Act} {w : World} {l : List Oper} (hm : P.follows .mixedOrders = true) (hB : Region.lexB .any l.toArray = true)
    (h : wpQuiet P l.toArray (fun w' => ∃ p : BelowW w, w' = p.w) (fun a' => ∀ w', (∃ p : BelowW w, w' = p.w) → Q .normal a' w') l a) : (Code.region id l.toArray true).wp P Q a w :=
  wp_region_quiet (C := fun w' => ∃ p : BelowW w, w' = p.w) hm hB ⟨⟨_, below_drewN (Below.refl _ w) 1⟩, rfl⟩ (by simpa using h)
theorem BelowW.cell {w : World} {a : Addr} {v : Value} (hb : a.block < w.heap.size) (h : w.cell? a = some v) : ∀ p : BelowW w, p.w.cell? a = some v := fun p => (p.h.cell hb).trans h
theorem belowW_out {w w' : World} (h : ∃ p : BelowW w, w' = p.w) : Below w.heap.size w w' := by
  obtain ⟨p, rfl⟩ := h
  exact p.h
/-- a callee's contract in such a world -/
theorem Calls.below_of {P : Program} {f : FuncId} {args : Array Value} {w : World} {p : BelowW w} {v : Value}
    (h : Calls P f args p.w fun e w' => e = .returned v ∧ Below p.w.heap.size p.w w') : Calls P f args p.w fun e w'' => e = .returned v ∧ ∃ q : BelowW w, w'' = q.w :=
  h.mono fun _ w' ⟨he, hb⟩ => ⟨he, ⟨w', below_trans' p.h hb⟩, rfl⟩

end Go.Proofs.Yticipdjfkpakpaa
