/- QueueOrder at what the frame tells. -/
import Derived.Test.YtpbheicfplpemaaQuOrder2
import Derived.OpenShut
namespace Go.Proofs.Ytpbheicfplpemaa
open Go.RowKit
def CameB (w : World) (a : Option Addr) (len cap : Nat) (zs : Nat → Bool) : Prop :=
  (a = none ∧ len = 0 ∧ cap = 0) ∨ ∃ x, a = some x ∧ len ≤ cap ∧ cap ≤ maxLen ∧ ∀ i, i < cap → w.cell? (x.add i) = some (.bool (zs i))
theorem bools_of {w : World} {a : Option Addr} {len cap : Nat} {zs : Nat → Bool} (h : CameB w a len cap zs) : Bools w a len zs := by
  rcases h with ⟨rfl, rfl, rfl⟩ | ⟨x, rfl, hl, hm, hc⟩
  · exact fun i hi => absurd hi (Nat.not_lt_zero _)
  · exact fun i hi => ⟨x, rfl, by have := World.block_lt_of_cell? w _ (hc i (by omega)); rwa [blk_add] at this, hc i (by omega)⟩
theorem order_any (n ready grace now : Int) (a : Option Addr) (lb cb : Nat) (B : Nat → Bool) (w : World) (hB : CameB w a lb cb B) (hr : (Lit.int .i64 ready).wf = true) (hno : (Lit.int .i64 now).wf = true) :
    Calls Try.prog 3 #[.int .i64 n, .slice a lb cb, .int .i64 ready, .int .i64 grace, .int .i64 now] w fun e w' => e = .returned (.bool true) ∧ Below w.heap.size w w' := by
  by_cases hn : n < 0 ∨ 40 < n
  · exact order_out n ready grace now a lb cb w hn
  · have h1 := bounds_i64 hr
    have h2 := bounds_i64 hno
    exact order_in n ready grace now a lb cb B w (bools_of hB) (by omega) (by omega) (by omega) (by omega)
end Go.Proofs.Ytpbheicfplpemaa
