/- HeapSorts at what the frame tells of a slice that came in. -/
import Derived.Test.YtoihhckiacmfcaaHpSorts
import Derived.Test.YtoihhckiacmfcaaHpSortAny
import Derived.Test.YtoihhckiacmfcaaHpTakesOf
namespace Go.Proofs.Ytoihhckiacmfcaa
open Go.RowKit
theorem sortSays : SortSays := fun w base g cap n xs h1 h2 h3 h4 => sort_any w base g cap n xs h1 h2 h3 h4
theorem sorts_any (a0 : Option Addr) (n c0 : Nat) (z0 : List Int) (w : World) (h0 : CameI w a0 n c0 z0) :
    Calls Try.prog 4 #[.slice a0 n c0] w fun e w' => e = .returned (.bool true) ∧ Below w.heap.size w w' := by
  by_cases hn : 300 < (n : Int)
  · exact sorts_long a0 n c0 w hn
  · exact sorts_short sortSays a0 n c0 _ w (ints_of h0) hn
end Go.Proofs.Ytoihhckiacmfcaa
