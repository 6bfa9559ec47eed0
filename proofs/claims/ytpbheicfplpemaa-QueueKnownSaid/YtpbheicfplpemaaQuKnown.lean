/- QueueKnown: the chapter's examples and limits. -/
import Derived.Test.YtpbheicfplpemaaQuOpen0
import Derived.Test.YtpbheicfplpemaaQuBytesQ
import Derived.Test.YtpbheicfplpemaaQuOnceM
namespace Go.Proofs.Ytpbheicfplpemaa
open Go.RowKit

set_option maxRecDepth 20000 in
set_option maxHeartbeats 4000000 in
theorem putT (w : World) (q : Nat) (most grace next : Int) (wv : Value) (ts : List Tk) (O T : Nat) (om : Int → Option Ot) (tm : ByteArray → Option Int) (h : QS w q most grace next wv ts O T om tm) (key sticky : ByteArray) (ready x : Int) (hn : tm key = some x) :
    Calls Try.prog 10 #[.pointer (some ⟨q, 0, none⟩), .string key, .string sticky, .int .i64 ready] w fun e w' => e = .returned (.int .i64 6) ∧ Below w.heap.size w w' := by
  obtain ⟨A0, c0, rfl⟩ := own_slice' h.row
  obtain ⟨q0, _, q2, q3, _, q5⟩ := h.cells
  have HM := Lib.hid (made1 w q next h.pos q2)
  obtain ⟨nT, hT⟩ := h.there
  have hlk := lookS hT key true
  rw [hn] at hlk
  simp only [Option.getD_some, Option.isSome_some, if_true] at hlk
  clear h hT hn
  go_enter Try.func10, Try.ntmps10
  go_wp2_with (go_at_call 28; refine HM.out.mono ?_; rintro e w' ⟨rfl, rfl⟩)
  go_ret
  exact ⟨rfl, Below.refl _ _⟩
/-- nothing is handed out where no task is for the worker -/
theorem pollZ (w : World) (q : Nat) (most grace next : Int) (wv : Value) (ts : List Tk) (O T : Nat) (om : Int → Option Ot) (tm : ByteArray → Option Int) (h : QS w q most grace next wv ts O T om tm) (who : ByteArray) (now lease : Int) (hnx : next < 1000000000) (hle : 1 ≤ lease ∧ lease ≤ 9223372036854775807) (hno : -9223372036854775808 ≤ now ∧ now ≤ 9223372036854775807) (hg : -9223372036854775808 ≤ grace ∧ grace ≤ 9223372036854775807) (hr : ∀ t ∈ ts, tkRdy t) (hat : ∀ t ∈ ts, 0 ≤ t.att ∧ t.att ≤ 1000000000) (hz : ∀ t ∈ ts, isForI grace who now t = false) :
    Calls Try.prog 12 #[.pointer (some ⟨q, 0, none⟩), .string who, .int .i64 now, .int .i64 lease] w fun e w' => e = .returned (.tuple #[.string ⟨#[]⟩, .int .i64 0, .int .i64 0, .int .i64 5]) ∧ Below w.heap.size w w' := by
  refine (pollQ w q most grace next wv ts O T om tm h who now lease hnx hle hno hg hr hat).mono ?_
  rintro e w' (⟨rfl, _, hb⟩ | ⟨i, wv', hi, h1, _⟩)
  · exact ⟨rfl, hb⟩
  · rw [gT_get hi, hz _ (List.getElem_mem hi)] at h1
    cases h1
def tA : Tk := ⟨⟨#[97]⟩, ⟨#[]⟩, 0, 0⟩
def tB : Tk := ⟨⟨#[98]⟩, ⟨#[119]⟩, 0, 0⟩
def tC : Tk := ⟨⟨#[99]⟩, ⟨#[]⟩, 7, 0⟩
theorem for1 : isForI 10 ⟨#[118]⟩ 0 tA = true := by simp [isForI, tA]
theorem for2 : ∀ t ∈ [tB, tC], isForI 10 ⟨#[118]⟩ 0 t = false := by
  intro t ht
  simp at ht
  rcases ht with rfl | rfl
  · simp [isForI, tB, addI]
  · simp [isForI, tC]
theorem for3 : isForI 10 ⟨#[119]⟩ 0 tB = true := by simp [isForI, tB]
theorem for4 : isForI 10 ⟨#[118]⟩ 8 tC = true := by simp [isForI, tC]
theorem for5 : isForI 10 ⟨#[118]⟩ 8 ⟨⟨#[98]⟩, ⟨#[]⟩, 8, 1⟩ = true := by simp [isForI]
def kL : List UInt8 := [2, 0, 1, 0, 0]
theorem kq : qB 2 0 1 [] [] = kL := by
  unfold qB kL Cd.zig
  simp [Cd.uB_lt]
end Go.Proofs.Ytpbheicfplpemaa
