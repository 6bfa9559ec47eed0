/- Slices of bytes as the readers ask for them. -/
import Derived.Test.YteihedfmmiihiaaGreatCodeAsk
import Derived.Test.YteihedfmmiihiaaGreatCodePuts
namespace Go.Proofs.YteihedfmmiihiaaGreat
open Go.RowKit
theorem Made.bs {w w' : World} {l : List UInt8} {e : Ending} (h : Made w l e w') : ∃ A cap, e = .returned (.slice A l.length cap) ∧ In w' A l.length cap l ∧ Below w.heap.size w w' := by
  obtain ⟨v, rfl, ho, hb⟩ := h
  rcases ho.2 with ⟨rfl, h0⟩ | ⟨g, cap, cur, rfl, hg, hh, hn, hm, hs, ht⟩
  · have hl : l = [] := List.eq_nil_of_length_eq_zero h0
    subst hl
    exact ⟨none, 0, rfl, ⟨Bs.nil _, (fun ad e _ => by cases e), ⟨Nat.le_refl _, Nat.zero_le _⟩⟩, hb⟩
  · exact ⟨_, cap, rfl, ⟨Bs.of_own ho rfl, (fun ad e _ => by injection e with e; subst e; exact (Array.getElem?_eq_some_iff.1 hh).1), hn, hm⟩, hb⟩

theorem In.below {w w' : World} {A : Option Addr} {len cap : Nat} {l : List UInt8} (h : In w A len cap l) (hb : Below w.heap.size w w') : In w' A len cap l :=
  ⟨h.bs.below hb, fun ad e h0 => Nat.lt_of_lt_of_le (h.lt ad e h0) hb.size, h.cap_le⟩
theorem In.conv {w : World} {A : Option Addr} {len cap : Nat} {l : List UInt8} (h : In w A len cap l) : (convert 30 9 (.slice A len cap)).run Tryz.prog w = .ok (strV l) w :=
  run_conv_bs h.bs _ _ 5 Tryz.underlying30 Tryz.underlying5 Tryz.underlying9 _

theorem in_lit (w : World) (l : List UInt8) (h : l.length ≤ maxLen) : In (w.alloc (.cells (Cd.bytesV l).toArray 5)) (some ⟨w.heap.size, 0, none⟩) l.length l.length l := by
  have ho : (w.alloc (.cells (Cd.bytesV l).toArray 5)).ownsRow w.heap.size 5 1 (.slice (some ⟨w.heap.size, 0, none⟩) l.length l.length) l.length (Cd.bytesV l) :=
    ⟨by simp [Cd.bytesV], .inr ⟨w.heap.size, l.length, _, rfl, Nat.le_refl _, heap_alloc_new w _, Nat.le_refl _, h, by simp [Cd.bytesV], by rw [Nat.mul_one]; exact List.take_of_length_le (by simp [Cd.bytesV])⟩⟩
  exact ⟨Bs.of_own ho rfl, (fun ad e _ => by injection e with e; subst e; simp), Nat.le_refl _, h⟩

end Go.Proofs.YteihedfmmiihiaaGreat
