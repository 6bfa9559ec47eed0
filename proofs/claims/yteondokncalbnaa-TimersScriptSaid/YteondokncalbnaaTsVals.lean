/- slices.Values boxes its slice. -/
import Derived.Test.YteondokncalbnaaTsApp
namespace Go.Proofs.Yteondokncalbnaa
open Go.RowKit
set_option maxRecDepth 20000 in
theorem values_any (A : Option Addr) (n cap : Nat) (w : World) : Calls Try.prog 68 #[.slice A n cap] w fun e w' => e = .returned (.func (.func 82) #[] #[.pointer (some ⟨w.heap.size, 0, none⟩)]) ∧ w' = w.alloc (.cells #[.slice A n cap] 93) := by
  go_enter Try.func68, Try.ntmps68
  go_wp2_with fail
  go_ret
  exact ⟨rfl, rfl⟩
end Go.Proofs.Yteondokncalbnaa
