/- CodeFree's walk over the arguments as they come. -/
import Derived.Test.YtgplmipdjehkmaaCodeFreeLaw
import Derived.OpenShut
namespace Go.Proofs.Ytgplmipdjehkmaa
open Go.RowKit
theorem free_of (a b i k : Int) (s t : ByteArray) (w0 : (Lit.int .u64 a).wf = true) (w1 : (Lit.int .u64 b).wf = true) (w2 : (Lit.int .i64 i).wf = true) (w3 : (Lit.int .i64 k).wf = true) (w : World) :
    Calls Try.prog 5 #[.int .u64 a, .int .u64 b, .int .i64 i, .int .i64 k, .string s, .string t] w fun e w' => e = .returned (.bool true) ∧ Below w.heap.size w w' := by
  have ha := bounds_u64 w0
  have hb := bounds_u64 w1
  have hi := bounds_i64 w2
  have hk := bounds_i64 w3
  obtain ⟨m, rfl⟩ := Int.eq_ofNat_of_zero_le ha.1
  obtain ⟨n, rfl⟩ := Int.eq_ofNat_of_zero_le hb.1
  exact free_any m n i k s t ⟨by omega, by omega, hi.1, hi.2, hk.1, hk.2⟩ w
end Go.Proofs.Ytgplmipdjehkmaa
