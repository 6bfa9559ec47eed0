/- begins; CodeFree. -/
import Derived.Test.YtgplmipdjehkmaaCodeAwake
import Derived.BigQuiet
import Derived.Deep.QuietTactic
import Derived.WalkSmall
namespace Go.Proofs.Ytgplmipdjehkmaa
open Go.RowKit

def bgn (b v : List UInt8) : Bool := decide (v.length ≤ b.length ∧ b.take v.length = v)

set_option maxRecDepth 20000 in
set_option maxHeartbeats 800000 in
theorem begins_any (w : World) (A B : Option Addr) (n m c d : Nat) (b v : List UInt8) (hb : In w A n c b) (hv : In w B m d v) :
    Calls Try.prog 27 #[.slice A n c, .slice B m d] w fun e w' => e = .returned (.bool (bgn b v)) ∧ Below w.heap.size w w' := by
  obtain rfl := hb.bs.len
  obtain rfl := hv.bs.len
  have hv1 : ∀ k, (convert 44 9 (.slice B v.length d)).run Try.prog (w.drewN k) = .ok (strV v) (w.drewN k) := fun k => (hv.below (below_drewN (Below.refl _ _) k)).conv
  by_cases hl : v.length ≤ b.length
  · have hd : decide (v.length ≤ b.length) = true := decide_eq_true hl
    have hcut := hb.bs.cut (A' := A) 0 v.length (by omega) hl (fun ad _ e => by rw [e]; rfl)
    have hs1 : ∀ k, (convert 44 9 (.slice A v.length c)).run Try.prog (w.drewN k) = .ok (strV (b.take v.length)) (w.drewN k) := fun k =>
      run_conv_bs (hcut.below (below_drewN (Below.refl _ _) k)) _ _ 5 Try.underlying44 Try.underlying5 Try.underlying9 _
    have hc1 : (v.length : Int) ≤ (c : Int) := by have := hb.cap_le; omega
    clear hcut
    by_cases he : b.take v.length = v
    · have hbn : bgn b v = true := by unfold bgn; exact decide_eq_true ⟨hl, he⟩
      have HB := Lib.hid hbn
      rw [he] at hs1
      clear hbn hl he
      unfold strV at hs1 hv1
      go_enter Try.func27, Try.ntmps27
      go_wp2_with fail
      go_quiet (fail)
      go_wp2_with fail
      go_ret
      exact ⟨by rw [HB.out]; rfl, below_drewN (Below.refl _ _) _⟩
    · have hbn : bgn b v = false := by unfold bgn; exact decide_eq_false (fun h => he h.2)
      have HB := Lib.hid hbn
      have hne : (List.take v.length b == v) = false := by simpa using he
      clear hbn hl he
      unfold strV at hs1 hv1
      go_enter Try.func27, Try.ntmps27
      go_wp2_with fail
      go_quiet (fail)
      go_wp2_with fail
      go_ret
      exact ⟨by rw [HB.out]; rfl, below_drewN (Below.refl _ _) _⟩
  · have hlt : ¬ (v.length : Int) ≤ (b.length : Int) := by omega
    have hbn : bgn b v = false := by unfold bgn; exact decide_eq_false (by omega)
    have HB := Lib.hid hbn
    have hd : decide (v.length ≤ b.length) = false := decide_eq_false hl
    clear hbn hl hv1 hlt
    go_enter Try.func27, Try.ntmps27
    go_wp2_with fail
    go_quiet (fail)
    go_wp2_with fail
    go_ret
    exact ⟨by rw [HB.out]; rfl, below_drewN (Below.refl _ _) _⟩
end Go.Proofs.Ytgplmipdjehkmaa
