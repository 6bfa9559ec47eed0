/- queue: what is looked up of a key. -/
import Derived.Test.YtpbheicfplpemaaGreatQuPut
namespace Go.Proofs.YtpbheicfplpemaaGreat
open Go.RowKit

theorem sV_some {m : ByteArray → Option Int} {k : ByteArray} {v : Value} (h : sV m k = some v) : ∃ x, m k = some x ∧ v = .int .i64 x := by
  unfold sV at h
  cases e : m k with
  | none => rw [e] at h; cases h
  | some x => rw [e] at h; injection h with h; exact ⟨x, rfl, h.symm⟩
theorem lookS {w : World} {M n : Nat} {m : ByteArray → Option Int} (h : MapIs kStr w M (sV m) n) (k : ByteArray) (c : Bool) : (Instr.lookup 79 (.map (some M)) (.string k) c).run Tryz.prog w = .ok (if c then .tuple #[.int .i64 ((m k).getD 0), .bool (m k).isSome] else .int .i64 ((m k).getD 0)) w := by
  have := MapIs.lookup (t := 79) (e := 3) h (str_keys Tryz.underlying9) Tryz.underlying79 (zeroIntE _) k c
  unfold sV at this
  cases e : m k with
  | none => simpa [e, kStr] using this
  | some x => simpa [e, kStr] using this
end Go.Proofs.YtpbheicfplpemaaGreat
