/- queue's laws: the steps that came in; long. -/
import Derived.Test.YtpbheicfplpemaaQuHeld
namespace Go.Proofs.Ytpbheicfplpemaa
open Go.RowKit

structure Sp where
  d : Int
  key : ByteArray
  who : ByteArray
  at_ : Int
  lease : Int
  num : Int
structure Stps (w : World) (a : Option Addr) (n : Nat) (S : Nat → Sp) : Prop where
  cell : ∀ i, i < n → ∃ b o, a = some ⟨b, o, none⟩ ∧ b < w.heap.size ∧ w.cell? ⟨b, o + i * 6, none⟩ = some (.int .u8 (S i).d) ∧ w.cell? ⟨b, o + i * 6 + 1, none⟩ = some (.string (S i).key) ∧ w.cell? ⟨b, o + i * 6 + 2, none⟩ = some (.string (S i).who) ∧ w.cell? ⟨b, o + i * 6 + 3, none⟩ = some (.int .i64 (S i).at_) ∧ w.cell? ⟨b, o + i * 6 + 4, none⟩ = some (.int .i64 (S i).lease) ∧ w.cell? ⟨b, o + i * 6 + 5, none⟩ = some (.int .i64 (S i).num)
  wf : ∀ i, i < n → (-9223372036854775808 ≤ (S i).at_ ∧ (S i).at_ ≤ 9223372036854775807) ∧ (-9223372036854775808 ≤ (S i).lease ∧ (S i).lease ≤ 9223372036854775807) ∧ (-9223372036854775808 ≤ (S i).num ∧ (S i).num ≤ 9223372036854775807)
theorem Stps.bel {w w' : World} {a : Option Addr} {n : Nat} {S : Nat → Sp} (h : Stps w a n S) (hb : Below w.heap.size w w') : Stps w' a n S :=
  ⟨fun i hi => by
    obtain ⟨b, o, e, hl, c0, c1, c2, c3, c4, c5⟩ := h.cell i hi
    exact ⟨b, o, e, Nat.lt_of_lt_of_le hl hb.size, (hb.cell (p := ⟨b, _, none⟩) hl).trans c0, (hb.cell (p := ⟨b, _, none⟩) hl).trans c1, (hb.cell (p := ⟨b, _, none⟩) hl).trans c2, (hb.cell (p := ⟨b, _, none⟩) hl).trans c3, (hb.cell (p := ⟨b, _, none⟩) hl).trans c4, (hb.cell (p := ⟨b, _, none⟩) hl).trans c5⟩, h.wf⟩
def LongY (w : World) (n : Nat) (S : Nat → Sp) (e : Ending) (w' : World) : Prop := ∃ b, e = .returned (.bool b) ∧ (b = false → n ≤ 100 ∧ ∀ i, i < n → (S i).key.size ≤ 200 ∧ (S i).who.size ≤ 200) ∧ w' = w
set_option maxRecDepth 20000 in
set_option maxHeartbeats 1600000 in
theorem long_any (w : World) (a : Option Addr) (n c : Nat) (S : Nat → Sp) (h : Stps w a n S) (hn : n ≤ 4611686018427387904) : Calls Try.prog 19 #[.slice a n c] w (LongY w n S) := by
  have HS := Lib.hid h
  clear h
  go_enter Try.func19, Try.ntmps19
  go_wp2_with fail
  go_loopw [3] (fun iv wr => ∃ k : Nat, k ≤ n ∧ k ≤ 100 ∧ iv = .int .i64 (k : Int) ∧ wr = w ∧ Hid (∀ i, i < k → (S i).key.size ≤ 200 ∧ (S i).who.size ≤ 200)) (fun iv _ => n - (intOf iv).toNat)
  case atStart => exact ⟨0, by omega, by omega, rfl, rfl, Lib.hid (fun i hi => absurd hi (Nat.not_lt_zero _))⟩
  case round =>
    obtain ⟨k, hk, hk2, rfl, rfl, hA⟩ := hrel
    by_cases hlt : k < n
    · have hlt1 : (k : Int) < (n : Int) := by omega
      by_cases hlt2 : k < 100
      · have hlt3 : (k : Int) < 100 := by omega
        obtain ⟨b, o, rfl, hl, c0, c1, c2, c3, c4, c5⟩ := HS.out.cell k hlt
        by_cases h1 : 200 < (S k).key.size
        · have h1' : (200 : Int) < ((S k).key.size : Int) := by omega
          go_wp2_with fail
          go_ret
          exact ⟨true, rfl, fun h => (by cases h), rfl⟩
        · have h1' : ¬ (200 : Int) < ((S k).key.size : Int) := by omega
          by_cases h2 : 200 < (S k).who.size
          · have h2' : (200 : Int) < ((S k).who.size : Int) := by omega
            go_wp2_with fail
            go_ret
            exact ⟨true, rfl, fun h => (by cases h), rfl⟩
          · have h2' : ¬ (200 : Int) < ((S k).who.size : Int) := by omega
            go_wp2_with fail
            go_roundw
            case measure => simp only [intOf]; omega
            case rel => exact ⟨k + 1, by omega, by omega, by go_num, by first | rfl | trivial, Lib.hid (fun i hi => by
              by_cases e : i = k
              · subst e; exact ⟨by omega, by omega⟩
              · exact hA.out i (by omega))⟩
      · have hlt3 : ¬ (k : Int) < 100 := by omega
        have hn3 : decide (100 < (n : Int)) = true := decide_eq_true (by omega)
        go_wp2_with fail
        go_ret
        exact ⟨true, rfl, fun h => (by cases h), rfl⟩
    · obtain rfl : k = n := by omega
      have hlt1 : ¬ (k : Int) < (k : Int) := by omega
      have hn3 : decide (100 < (k : Int)) = false := decide_eq_false (by omega)
      go_wp2_with fail
      go_ret
      exact ⟨false, rfl, fun _ => ⟨hk2, hA.out⟩, rfl⟩
end Go.Proofs.Ytpbheicfplpemaa
