/- slices.Values boxes its slice. -/
import Derived.Test.YtoihhckiacmfcaaHpApp
namespace Go.Proofs.Ytoihhckiacmfcaa
open Go.RowKit
set_option maxRecDepth 20000 in
theorem values_any (A : Option Addr) (n cap : Nat) (w : World) : Calls Try.prog 46 #[.slice A n cap] w fun e w' => e = .returned (.func (.func 57) #[] #[.pointer (some ⟨w.heap.size, 0, none⟩)]) ∧ w' = w.alloc (.cells #[.slice A n cap] 53) := by
  go_enter Try.func46, Try.ntmps46
  go_wp2_with fail
  go_ret
  exact ⟨rfl, rfl⟩
end Go.Proofs.Ytoihhckiacmfcaa
