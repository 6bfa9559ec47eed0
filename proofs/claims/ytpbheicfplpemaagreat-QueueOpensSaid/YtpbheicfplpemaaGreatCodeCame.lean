/- A slice of bytes that came in, as the readers ask for it. -/
import Derived.Test.YtpbheicfplpemaaGreatCodeIn
import Derived.OpenShut
namespace Go.Proofs.YtpbheicfplpemaaGreat
open Go.RowKit
/-- what the frame tells of a slice of bytes that came in -/
def Came (w : World) (a : Option Addr) (len cap : Nat) (zs : List Int) : Prop :=
  (a = none ∧ len = 0 ∧ cap = 0 ∧ zs = []) ∨
  ∃ x, a = some x ∧ len ≤ cap ∧ cap ≤ maxLen ∧ zs.length = cap ∧ (∀ i, i < zs.length → w.cell? (x.add i) = some (.int .u8 (zs.getD i 0))) ∧ ∀ n ∈ zs, (Lit.int .u8 n).wf = true

theorem came_in {w : World} {a : Option Addr} {len cap : Nat} {zs : List Int} (h : Came w a len cap zs) : ∃ l, In w a len cap l := by
  rcases h with ⟨rfl, rfl, rfl, rfl⟩ | ⟨x, rfl, hl, hm, hz, hc, hw⟩
  · exact ⟨[], ⟨Bs.nil w, (fun ad e _ => by cases e), by simp⟩⟩
  · have hlen : ((zs.take len).map fun n => UInt8.ofNat n.toNat).length = len := by simp; omega
    refine ⟨(zs.take len).map fun n => UInt8.ofNat n.toNat, ⟨⟨hlen.symm, by rw [hlen]; omega, fun i hi => ?_⟩, fun ad e h0 => ?_, by rw [hlen]; exact ⟨hl, hm⟩⟩⟩
    · have hi' : i < len := by rw [hlen] at hi; exact hi
      have hiz : i < zs.length := by omega
      have hcell := hc i hiz
      refine ⟨x, rfl, ?_, ?_⟩
      · have := World.block_lt_of_cell? w _ hcell; rwa [add_block] at this
      · rw [hcell]
        have hb := bounds_u8 (hw zs[i] (List.getElem_mem hiz))
        have e1 : zs.getD i 0 = zs[i] := by simp [List.getD, hiz]
        rw [e1]
        congr 2
        simp only [List.getElem_map, List.getElem_take]
        rw [UInt8.toNat_ofNat']
        omega
    · obtain rfl : x = ad := by injection e
      have h1 := hc 0 (by rw [hlen] at h0; omega)
      have := World.block_lt_of_cell? w _ h1; rwa [add_block] at this

end Go.Proofs.YtpbheicfplpemaaGreat
