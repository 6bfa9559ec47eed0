/- Bytes that a call made, appended to a row of the call's own. -/
import Derived.Test.YtpbheicfplpemaaGreatBsApp
import Derived.Test.YtpbheicfplpemaaGreatBytes
import Derived.Test.YtpbheicfplpemaaGreatQuState
namespace Go.Proofs.YtpbheicfplpemaaGreat
open Go.RowKit

theorem more_bytes {w w1 w2 : World} {v v2 : Value} {l lb : List UInt8} (ho : w1.ownsRow w.heap.size 5 1 v l.length (Cd.bytesV l)) (hB : Below w.heap.size w w1) (h2 : w2.ownsRow w1.heap.size 5 1 v2 lb.length (Cd.bytesV lb)) (hb : Below w1.heap.size w1 w2) (hL : l.length + lb.length ≤ 100000000000) (ty : TypeId) :
    ∃ A' c' w3 l', l' = l ++ lb ∧ (Builtin.append_ #[22, 22] ty #[v, v2]).run Tryz.prog w2 = .ok (.slice A' l'.length c') w3 ∧ w3.ownsRow w.heap.size 5 1 (.slice A' l'.length c') l'.length (Cd.bytesV l') ∧ Below w.heap.size w w3 ∧ Turns (fun i => v.ownBlock = some i) w1 w3 := by
  have ho2 := own_turns ho (.of_below (S := fun _ => False) hb) (fun _ _ => id)
  obtain ⟨A2, c2, rfl⟩ := own_slice' h2
  have hs1 := hB.size
  have hs2 := hb.size
  obtain ⟨A', c', w3, hrun, h3, hg, _⟩ := append_mine w2 w.heap.size v l ho2 (by omega) A2 lb.length c2 lb (Bs.of_own h2 rfl) hL ty
  have hB2 : Below w.heap.size w w2 := below_trans' hB hb
  exact ⟨A', c', w3, _, rfl, hrun, h3, hB2.grown hg hB2.size (fun r e => (own_lt ho2 e).1), (Turns.of_below hb).then (.of_grown hg (fun r e => e))⟩
end Go.Proofs.YtpbheicfplpemaaGreat
