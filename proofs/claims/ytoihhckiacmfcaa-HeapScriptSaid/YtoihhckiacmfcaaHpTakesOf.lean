/- HeapTakes at what the frame tells of slices that came in. -/
import Derived.Test.YtoihhckiacmfcaaHpTakes
import Derived.OpenShut
namespace Go.Proofs.Ytoihhckiacmfcaa
open Go.RowKit
def CameI (w : World) (a : Option Addr) (len cap : Nat) (zs : List Int) : Prop :=
  (a = none ∧ len = 0 ∧ cap = 0 ∧ zs = []) ∨
  ∃ x, a = some x ∧ len ≤ cap ∧ cap ≤ maxLen ∧ zs.length = cap ∧ (∀ i, i < zs.length → w.cell? (x.add i) = some (.int .i64 (zs.getD i 0))) ∧ ∀ n ∈ zs, (Lit.int .i64 n).wf = true
theorem ints_of {w : World} {a : Option Addr} {len cap : Nat} {zs : List Int} (h : CameI w a len cap zs) : Ints w a len (fun i => zs.getD i 0) := by
  rcases h with ⟨rfl, rfl, rfl, rfl⟩ | ⟨x, rfl, hl, hm, hz, hc, hw⟩
  · exact ⟨fun i hi => absurd hi (Nat.not_lt_zero _), fun i hi => absurd hi (Nat.not_lt_zero _)⟩
  · refine ⟨fun i hi => ⟨x, rfl, ?_, hc i (by omega)⟩, fun i hi => ?_⟩
    · have := World.block_lt_of_cell? w _ (hc i (by omega)); rwa [blk_add] at this
    · have hiz : i < zs.length := by omega
      have hb := bounds_i64 (hw zs[i] (List.getElem_mem hiz))
      have e1 : zs.getD i 0 = zs[i] := by simp [List.getD, hiz]
      simp only [e1]
      omega
theorem takes_any (a0 a1 a2 : Option Addr) (n c0 m c1 l c2 : Nat) (z0 z1 z2 : List Int) (w : World) (h0 : CameI w a0 n c0 z0) (h1 : CameI w a1 m c1 z1) (h2 : CameI w a2 l c2 z2) :
    Calls Try.prog 3 #[.slice a0 n c0, .slice a1 m c1, .slice a2 l c2] w fun e w' => e = .returned (.bool true) ∧ Below w.heap.size w w' := by
  by_cases hn : 100 < (n : Int)
  · exact takes_long0 a0 a1 a2 n c0 m c1 l c2 w hn
  · by_cases hm : 100 < (m : Int)
    · exact takes_long1 a0 a1 a2 n c0 m c1 l c2 w hn hm
    · exact takes_short a0 a1 a2 n c0 m c1 l c2 _ _ _ w (ints_of h0) (ints_of h1) (ints_of h2) hn hm
end Go.Proofs.Ytoihhckiacmfcaa
