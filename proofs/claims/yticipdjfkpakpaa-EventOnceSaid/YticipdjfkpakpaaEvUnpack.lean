/- event.Unpack. -/
import Derived.Test.YticipdjfkpakpaaEvHist
namespace Go.Proofs.Yticipdjfkpakpaa
open Go.RowKit
attribute [local go_sem] run_store_cx'

/-- what event.Unpack gives -/
def UnpSays (w : World) (l : List UInt8) (e : Ending) (w' : World) : Prop :=
  Below w.heap.size w w' ∧ ((∃ (rs : Rs) (v : Value), e = .returned (.tuple #[v, .int .i64 (l.length : Int), .int .i64 0]) ∧ rdHist l = .ok (rs.map (·.1), l.length) ∧
      w'.ownsRow w.heap.size 27 5 v rs.length (rs.flatMap evC) ∧ ∀ q ∈ rs, w'.ownsRow w.heap.size 40 5 (.slice q.2.1 q.1.val.length q.2.2) q.1.val.length (ndsV q.1.val)) ∨
    ∃ p en : Nat, en ≠ 0 ∧ e = .returned (.tuple #[.slice none 0 0, .int .i64 (p : Int), .int .i64 (en : Int)]) ∧ rdHist l = .error (p, en))

set_option maxRecDepth 20000 in
set_option maxHeartbeats 2000000 in
theorem unpack_any (w : World) (A : Option Addr) (len cap : Nat) (l : List UInt8) (h : In w A len cap l) (hsz : l.length ≤ 1000000) :
    Calls Try.prog 10 #[.slice A len cap] w (UnpSays w l) := by
  have H := Lib.hid h
  clear h
  go_enter Try.func10, Try.ntmps10
  go_wp2_with fail
  have hB : Below w.heap.size w (w.alloc (.cells #[.slice A len cap, .int .i64 0, .int .i64 0, .slice none 0 0] 63)) := (Below.refl _ _).alloc (Nat.le_refl _) _
  have hE : ER (w.alloc (.cells #[.slice A len cap, .int .i64 0, .int .i64 0, .slice none 0 0] 63)) w.heap.size 63 [.slice none 0 0] A len cap l 0 0 :=
    ⟨heap_alloc_new w _, H.out.below hB, fun ad e h0 => by have := H.out.lt ad e h0; omega, Nat.zero_le _⟩
  have hs : w.heap.size < (w.alloc (.cells #[.slice A len cap, .int .i64 0, .int .i64 0, .slice none 0 0] 63)).heap.size := by simp
  generalize (w.alloc (.cells #[.slice A len cap, .int .i64 0, .int .i64 0, .slice none 0 0] 63)) = W at hB hE hs ⊢
  refine (all_any W w.heap.size A len cap l hE hsz).mono ?_
  rintro e w1 ⟨rfl, g, hh⟩
  have hB1 : Below w.heap.size w w1 := hB.grown g (Nat.le_of_lt hs) (fun k hk => by injection hk with hk; omega)
  have HB := Lib.hid hB1
  have HS := Lib.hid hs
  clear hB hE hs g hB1
  rcases hh with ⟨rs, v, hH, hR⟩ | ⟨p, en, v, hne, hE, hR⟩
  · obtain ⟨Av, cv, rfl⟩ := own_slice hH.own
    have HE := Lib.hid hH.er
    have HO := Lib.hid (hH.own.mono (Nat.le_of_lt HS.out))
    have HN : Hid (∀ q ∈ rs, w1.ownsRow w.heap.size 40 5 (.slice q.2.1 q.1.val.length q.2.2) q.1.val.length (ndsV q.1.val)) := Lib.hid fun q hq => (hH.nds q hq).mono (Nat.le_of_lt HS.out)
    have HR := Lib.hid hR
    have c1 := HE.out.c1
    have c2 := HE.out.c2
    have c3 := HE.out.c3
    clear hH hR
    go_wp2_with fail
    go_quiet (fail)
    go_wp2_with fail
    go_ret3
    exact ⟨below_drewN HB.out _, .inl ⟨rs, _, rfl, HR.out, own_none HO.out (grown_drewN (World.grownBy.refl _ _) _), fun q hq => own_none (HN.out q hq) (grown_drewN (World.grownBy.refl _ _) _)⟩⟩
  · have hen : ((en : Int) == 0) = false := beq_eq_false_iff_ne.2 (by omega)
    have hen2 : ((en : Int) != 0) = true := by rw [bne_iff_ne]; omega
    have HE := Lib.hid hE
    have HR := Lib.hid hR
    have HNE := Lib.hid hne
    have c1 := HE.out.c1
    have c2 := HE.out.c2
    clear hE hR hne
    go_wp2_with fail
    go_quiet (fail)
    go_wp2_with fail
    go_ret3
    exact ⟨below_drewN HB.out _, .inr ⟨p, en, HNE.out, rfl, HR.out⟩⟩
end Go.Proofs.Yticipdjfkpakpaa
