/- ReadUint, ReadInt, ReadText: what they give. -/
import Derived.Test.YteihedfmmiihiaaGreatCodeDoor
namespace Go.Proofs.YteihedfmmiihiaaGreat
open Go.RowKit

theorem enters_number (args : Array Value) (w : World) : (callFunc 106 args).run Tryz.prog w = .ok (.enter 106 args) w := by kernel_rfl
theorem enters_whole (args : Array Value) (w : World) : (callFunc 108 args).run Tryz.prog w = .ok (.enter 108 args) w := by kernel_rfl
theorem enters_text (args : Array Value) (w : World) : (callFunc 110 args).run Tryz.prog w = .ok (.enter 110 args) w := by kernel_rfl

/-- a byte slice that came in, or that was made: what the readers ask -/
structure In (w : World) (A : Option Addr) (len cap : Nat) (l : List UInt8) : Prop where
  bs : Bs w A len l
  lt : ∀ ad, A = some ad → 0 < l.length → ad.block < w.heap.size
  cap_le : l.length ≤ cap ∧ cap ≤ maxLen

set_option maxRecDepth 20000 in
set_option maxHeartbeats 800000 in
theorem text_any (w : World) (r : Nat) (A : Option Addr) (len cap : Nat) (l : List UInt8) (at_ : Nat) (h : Rd w r A len cap l at_) :
    Calls Tryz.prog 110 #[.pointer (some ⟨r, 0, none⟩)] w (Gives w r A len cap l strV (Cd.rdText l at_)) := by
  rcases hres : Cd.rdUint l at_ with ⟨p, en⟩ | ⟨x, to⟩
  · have HR := Lib.hid (show Cd.rdText l at_ = .error (p, en) by simp [Cd.rdText, hres])
    have HS := Lib.hid hres
    clear hres
    go_enter Tryz.func110, Tryz.ntmps110
    go_wp2_with fail
    refine (number_any w r A len cap l at_ h).mono ?_
    intro e w1 hg
    obtain ⟨rfl, hg1⟩ := hg.of_error HS.out
    go_wp2_with fail
    refine ⟨rfl, ?_⟩
    show Gives w r A len cap l strV (Cd.rdText l at_) _ _
    rw [HR.out]
    exact ⟨rfl, hg1⟩
  · have HR := Lib.hid (show Cd.rdText l at_ = Cd.rdBytes l x to by simp [Cd.rdText, hres])
    have HS := Lib.hid hres
    clear hres
    go_enter Tryz.func110, Tryz.ntmps110
    go_wp2_with fail
    refine (number_any w r A len cap l at_ h).mono ?_
    intro e w1 hg
    obtain ⟨rfl, hR1, hg1⟩ := hg.of_ok HS.out
    unfold u64V
    go_wp2_with fail
    refine (bytes_any w1 r A len cap l to x hR1).mono ?_
    intro e w2 hg2
    rcases hres : Cd.rdBytes l x to with ⟨p, en⟩ | ⟨y, to2⟩
    · obtain ⟨rfl, hg3⟩ := hg2.of_error hres
      have HT := Lib.hid hres
      clear hres hg2
      go_wp2_with fail
      refine ⟨rfl, ?_⟩
      show Gives w r A len cap l strV (Cd.rdText l at_) _ _
      rw [HR.out, HT.out]
      exact ⟨rfl, hg1.trans hg3⟩
    · obtain ⟨rfl, hR3, hg3⟩ := hg2.of_ok hres
      have HT := Lib.hid hres
      clear hres hg2
      unfold strV
      go_wp2_with fail
      go_ret
      show Gives w r A len cap l strV (Cd.rdText l at_) _ _
      rw [HR.out, HT.out]
      exact ⟨rfl, hR3, hg1.trans hg3⟩

set_option maxHeartbeats 800000 in
theorem readUint_any (w : World) (A : Option Addr) (len cap : Nat) (l : List UInt8) (h : In w A len cap l) :
    Calls Tryz.prog 90 #[.slice A len cap] w (Gets w u64V (.int .u64 0) (Cd.rdUint l 0)) := by
  have H := Lib.hid h
  clear h
  go_enter Tryz.func90, Tryz.ntmps90
  go_wp2_with fail
  refine (read_uint_of w A len cap l H.out.bs H.out.lt H.out.cap_le _ _ enters_number (fun w1 r hr => number_any w1 r A len cap l 0 hr)).mono ?_
  rintro e w' hg
  rcases hres : Cd.rdUint l 0 with ⟨p, en⟩ | ⟨x, to⟩
  all_goals
    rw [hres] at hg
    have HS := Lib.hid hres
    clear hres
    obtain ⟨rfl, hb⟩ := hg
    try unfold u64V
    go_wp2_with fail
    go_ret3
    show Gets w u64V (.int .u64 0) (Cd.rdUint l 0) _ _
    rw [HS.out]
    exact ⟨rfl, hb⟩

set_option maxHeartbeats 800000 in
theorem readInt_any (w : World) (A : Option Addr) (len cap : Nat) (l : List UInt8) (h : In w A len cap l) :
    Calls Tryz.prog 91 #[.slice A len cap] w (Gets w i64V (.int .i64 0) (Cd.rdInt l 0)) := by
  have H := Lib.hid h
  clear h
  go_enter Tryz.func91, Tryz.ntmps91
  go_wp2_with fail
  refine (read_int_of w A len cap l H.out.bs H.out.lt H.out.cap_le _ _ enters_whole (fun w1 r hr => whole_any w1 r A len cap l 0 hr)).mono ?_
  rintro e w' hg
  rcases hres : Cd.rdInt l 0 with ⟨p, en⟩ | ⟨x, to⟩
  all_goals
    rw [hres] at hg
    have HS := Lib.hid hres
    clear hres
    obtain ⟨rfl, hb⟩ := hg
    try unfold i64V
    go_wp2_with fail
    go_ret3
    show Gets w i64V (.int .i64 0) (Cd.rdInt l 0) _ _
    rw [HS.out]
    exact ⟨rfl, hb⟩

set_option maxHeartbeats 800000 in
theorem readText_any (w : World) (A : Option Addr) (len cap : Nat) (l : List UInt8) (h : In w A len cap l) :
    Calls Tryz.prog 92 #[.slice A len cap] w (Gets w strV (.string ⟨#[]⟩) (Cd.rdText l 0)) := by
  have H := Lib.hid h
  clear h
  go_enter Tryz.func92, Tryz.ntmps92
  go_wp2_with fail
  refine (read_text_of w A len cap l H.out.bs H.out.lt H.out.cap_le _ _ enters_text (fun w1 r hr => text_any w1 r A len cap l 0 hr)).mono ?_
  rintro e w' hg
  rcases hres : Cd.rdText l 0 with ⟨p, en⟩ | ⟨x, to⟩
  all_goals
    rw [hres] at hg
    have HS := Lib.hid hres
    clear hres
    obtain ⟨rfl, hb⟩ := hg
    try unfold strV
    go_wp2_with fail
    go_ret3
    show Gets w strV (.string ⟨#[]⟩) (Cd.rdText l 0) _ _
    rw [HS.out]
    exact ⟨rfl, hb⟩
end Go.Proofs.YteihedfmmiihiaaGreat
