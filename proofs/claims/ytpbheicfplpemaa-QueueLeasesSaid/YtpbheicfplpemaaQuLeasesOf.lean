/- QueueLeases at what the frame tells. -/
import Derived.Test.YtpbheicfplpemaaQuLeases
import Derived.OpenShut
namespace Go.Proofs.Ytpbheicfplpemaa
open Go.RowKit
theorem leases_any (a0 a1 : Option Addr) (n c0 m c1 : Nat) (z0 z1 : List Int) (now : Int) (w : World) (h0 : CameI w a0 n c0 z0) (h1 : CameI w a1 m c1 z1) :
    Calls Try.prog 4 #[.slice a0 n c0, .slice a1 m c1, .int .i64 now] w fun e w' => e = .returned (.bool true) ∧ Below w.heap.size w w' := by
  by_cases hn : 30 < (n : Int)
  · exact leases_long0 a0 a1 n c0 m c1 now w hn
  · by_cases hm : 30 < (m : Int)
    · exact leases_long1 a0 a1 n c0 m c1 now w hn hm
    · exact leases_short a0 a1 n c0 m c1 _ _ now w (ints_of h0) (ints_of h1) hn hm
end Go.Proofs.Ytpbheicfplpemaa
