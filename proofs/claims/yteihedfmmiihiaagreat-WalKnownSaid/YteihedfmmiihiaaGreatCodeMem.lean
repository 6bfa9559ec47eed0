/- Words for memory: the reader's block. -/
import Derived.Test.YteihedfmmiihiaaGreatBytes
namespace Go.Proofs.YteihedfmmiihiaaGreat
open Go.RowKit

/-- The reader's block: it reads the slice '.slice A len cap', whose bytes are l, and stands at a place. -/
structure Rd (w : World) (r : Nat) (A : Option Addr) (len cap : Nat) (l : List UInt8) (at_ : Nat) : Prop where
  blk : w.heap[r]? = some (.cells #[.slice A len cap, .int .i64 (at_ : Int)] 162 (0, 0))
  bs : Bs w A len l
  apart : ∀ ad, A = some ad → 0 < l.length → ad.block ≠ r
  at_le : at_ ≤ l.length
  cap_le : l.length ≤ cap ∧ cap ≤ maxLen

section
variable {w w' : World} {r : Nat} {A : Option Addr} {len cap : Nat} {l : List UInt8} {at_ : Nat}
theorem Rd.lt (h : Rd w r A len cap l at_) : r < w.heap.size := (Array.getElem?_eq_some_iff.1 h.blk).1
theorem Rd.c0 (h : Rd w r A len cap l at_) : w.cell? ⟨r, 0, none⟩ = some (.slice A len cap) := by rw [cell_of_row w r 0 _ _ _ h.blk]; rfl
theorem Rd.c1 (h : Rd w r A len cap l at_) : w.cell? ⟨r, 1, none⟩ = some (.int .i64 (at_ : Int)) := by rw [cell_of_row w r 1 _ _ _ h.blk]; rfl
theorem Rd.fz (h : Rd w r A len cap l at_) (o : Nat) : w.frozen? ⟨r, o, none⟩ = false := by
  have := h.blk
  simp [World.frozen?, this]
theorem grown_setCell (w : World) (r o : Nat) (v : Value) : w.grownBy (w.setCell ⟨r, o, none⟩ v) (some r) :=
  ⟨rfl, rfl, rfl, by simp [World.setCell], fun k _ hne => Below.heap_setCell _ _ _ _ (fun e => hne (by rw [e]))⟩
theorem grown_drewN {row : Option Nat} (h : w.grownBy w' row) (n : Nat) : w.grownBy (w'.drewN n) row := ⟨h.os, h.tape, h.output, h.size, h.block⟩
/-- the reader goes on to another place -/
theorem Rd.move (h : Rd w r A len cap l at_) (to : Nat) (hto : to ≤ l.length) : Rd (w.setCell ⟨r, 1, none⟩ (.int .i64 (to : Int))) r A len cap l to where
  blk := by
    have := h.blk
    simp [World.setCell, Array.getElem?_modify, this]
  bs := h.bs.kept (by simp [World.setCell]) fun ad e h0 => Below.heap_setCell _ _ _ _ (h.apart ad e h0)
  apart := h.apart
  at_le := hto
  cap_le := h.cap_le
theorem Rd.drewN (h : Rd w r A len cap l at_) (n : Nat) : Rd (w.drewN n) r A len cap l at_ := ⟨h.blk, ⟨h.bs.len, h.bs.le, h.bs.cell⟩, h.apart, h.at_le, h.cap_le⟩
end

end Go.Proofs.YteihedfmmiihiaaGreat
