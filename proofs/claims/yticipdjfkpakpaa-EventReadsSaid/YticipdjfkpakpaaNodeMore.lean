/- Rows of nodes, bytes of values: small words. -/
import Derived.Test.YticipdjfkpakpaaNodeVal
import Derived.Test.YticipdjfkpakpaaCodeIn
namespace Go.Proofs.Yticipdjfkpakpaa
open Go.RowKit
theorem row_of_own {w : World} {base cap : Nat} {A : Option Addr} {xs : List Nd} (h : w.ownsRow base 40 5 (.slice A xs.length cap) xs.length (ndsV xs)) (h0 : 0 < xs.length) :
    ∃ g, A = some ⟨g, 0, none⟩ ∧ base ≤ g ∧ g < w.heap.size ∧ RowOf w g xs := by
  rcases h.2 with ⟨_, h1⟩ | ⟨g, cap', cur, hv, hb, hh, _⟩
  · omega
  · injection hv with hA _ _
    subst hA
    exact ⟨g, rfl, hb, (Array.getElem?_eq_some_iff.1 hh).1, fun k hk j hj => (h.cellAt (k * 5 + j) (by omega)).trans (ndsV_at xs k j hk hj)⟩
theorem MadeV.bs {w w' : World} {l : List UInt8} {e : Ending} (h : MadeV w l e w') : ∃ A cap, e = .returned (.tuple #[.slice A l.length cap, .int .i64 0]) ∧ In w' A l.length cap l ∧ Below w.heap.size w w' := by
  obtain ⟨v, rfl, ho, hb⟩ := h
  obtain ⟨A, cap, e1, h1, h2⟩ := Made.bs ⟨v, rfl, ho, hb⟩
  injection e1 with e1
  subst e1
  exact ⟨A, cap, rfl, h1, h2⟩
theorem RowOf.drewN {w : World} {g : Nat} {xs : List Nd} (h : RowOf w g xs) (n : Nat) : RowOf (w.drewN n) g xs := h

theorem below_trans' {a b c : World} (h : Below a.heap.size a b) (k : Below b.heap.size b c) : Below a.heap.size a c := h.trans (k.mono h.size)
end Go.Proofs.Yticipdjfkpakpaa
