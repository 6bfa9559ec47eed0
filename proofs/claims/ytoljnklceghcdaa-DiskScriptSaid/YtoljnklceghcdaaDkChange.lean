/- disk: change: a change that the fuse lets happen or not. -/
import Derived.Test.YtoljnklceghcdaaDkGoes
import Derived.Deep.Cut
import Derived.Deep.RegionLaw
import Derived.Deep.RegionHeld3
namespace Go.Proofs.Ytoljnklceghcdaa
open Go.RowKit
variable {Xs : Nat → Prop}

/-- the power fails at the change, and it is not done -/
theorem change_down (w : World) (d F N : Nat) (off : Bool) (p : Fs) (h : DS Xs w d F off 0 p N) (f : Value) :
    Calls Try.prog 27 #[.pointer (some ⟨d, 0, none⟩), .bool false, f] w fun e w' => e = .returned (.int .i64 250) ∧ DS Xs w' d F true (-1) p N ∧ Turns (DSet d F) w w' := by
  have HH := Lib.hid h
  obtain ⟨_, _, c2⟩ := h.cells
  have hbl := h.blk.lt
  have z := h.blk.fz
  clear h
  go_enter Try.func27, Try.ntmps27
  go_wp2_with fail
  go_ret
  exact ⟨rfl, HH.out.set true (-1) ((HH.out.blk.set 2 (.int .i64 (-1))).set 1 (.bool true)) ((Turns.of_set (S := fun i => i = d) w ⟨d, 2, none⟩ _ rfl).set ⟨d, 1, none⟩ _ (fun _ => rfl)) (by omega), (Turns.of_set (S := DSet d F) w ⟨d, 2, none⟩ _ (.inl rfl)).set ⟨d, 1, none⟩ _ (fun _ => .inl rfl)⟩
def Enters (g : FuncId) (caps : Array Value) : Prop := ∀ w, (callFunc g caps).run Try.prog w = .ok (.enter g caps) w
/-- the power fails at it, and it is done all the same -/
theorem change_late (w : World) (d F N : Nat) (off : Bool) (p : Fs) (h : DS Xs w d F off 0 p N) (g : FuncId) (caps : Array Value) (hg : Enters g caps) (R : World → Prop)
    (hdo : ∀ w1, DS Xs w1 d F true (-1) p N → Turns (DSet d F) w w1 → Calls Try.prog g caps w1 fun e w' => e = .returned (.tuple #[]) ∧ R w') :
    Calls Try.prog 27 #[.pointer (some ⟨d, 0, none⟩), .bool true, .func (.func g) #[] caps] w fun e w' => e = .returned (.int .i64 250) ∧ R w' := by
  have HH := Lib.hid h
  obtain ⟨_, _, c2⟩ := h.cells
  have hbl := h.blk.lt
  have z := h.blk.fz
  unfold Enters at hg
  clear h
  go_enter Try.func27, Try.ntmps27
  go_upto_region 4 with (fail)
  have h1 := HH.out.set true (-1) ((HH.out.blk.set 2 (.int .i64 (-1))).set 1 (.bool true)) ((Turns.of_set (S := fun i => i = d) w ⟨d, 2, none⟩ _ rfl).set ⟨d, 1, none⟩ _ (fun _ => rfl)) (by omega)
  have h2 := (Turns.of_set (S := DSet d F) w ⟨d, 2, none⟩ (.int .i64 (-1)) (.inl rfl)).set ⟨d, 1, none⟩ (.bool true) (fun _ => .inl rfl)
  have HC := Lib.hid (hdo _ h1 h2)
  clear hdo h1 h2
  go_wp2_with fail
  refine HC.out.mono ?_
  rintro e w' ⟨rfl, hR⟩
  go_wp2_with fail
  go_ret
  exact ⟨rfl, hR⟩
/-- it is done; the fuse is shorter -/
def lessF (fuse : Int) : Int := if 0 < fuse then fuse - 1 else fuse
theorem change_go (w : World) (d F N : Nat) (off : Bool) (fuse : Int) (hf : fuse ≠ 0) (p : Fs) (h : DS Xs w d F off fuse p N) (late : Bool) (g : FuncId) (caps : Array Value) (hg : Enters g caps) (R : World → Prop)
    (hdo : ∀ w1, DS Xs w1 d F off (lessF fuse) p N → Turns (DSet d F) w w1 → Calls Try.prog g caps w1 fun e w' => e = .returned (.tuple #[]) ∧ R w') :
    Calls Try.prog 27 #[.pointer (some ⟨d, 0, none⟩), .bool late, .func (.func g) #[] caps] w fun e w' => e = .returned (.int .i64 0) ∧ R w' := by
  have HH := Lib.hid h
  obtain ⟨_, _, c2⟩ := h.cells
  have hbl := h.blk.lt
  have z := h.blk.fz 2
  have hfu := h.fu
  unfold Enters at hg
  clear h
  by_cases h0 : 0 < fuse
  · have hl : lessF fuse = fuse - 1 := if_pos h0
    rw [hl] at hdo
    have h1 := HH.out.set off (fuse - 1) (HH.out.blk.set 2 (.int .i64 (fuse - 1))) (Turns.of_set (S := fun i => i = d) w ⟨d, 2, none⟩ _ rfl) (by omega)
    have h2 := Turns.of_set (S := DSet d F) w ⟨d, 2, none⟩ (.int .i64 (fuse - 1)) (.inl rfl)
    have HC := Lib.hid (hdo _ h1 h2)
    clear hdo h1 h2 hl
    go_enter Try.func27, Try.ntmps27
    go_wp2_with fail
    refine HC.out.mono ?_
    rintro e w' ⟨rfl, hR⟩
    go_wp2_with fail
    go_ret
    exact ⟨rfl, hR⟩
  · have hl : lessF fuse = fuse := if_neg h0
    rw [hl] at hdo
    have HC := Lib.hid (hdo _ HH.out (Turns.refl _ _))
    clear hdo hl
    go_enter Try.func27, Try.ntmps27
    go_wp2_with fail
    refine HC.out.mono ?_
    rintro e w' ⟨rfl, hR⟩
    go_wp2_with fail
    go_ret
    exact ⟨rfl, hR⟩
end Go.Proofs.Ytoljnklceghcdaa
