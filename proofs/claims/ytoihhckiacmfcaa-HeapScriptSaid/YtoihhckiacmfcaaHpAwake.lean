/- prompterlaw03.awake is true. -/
import Derived.Test.YtoihhckiacmfcaaHpS7
namespace Go.Proofs.Ytoihhckiacmfcaa
open Go.RowKit

set_option maxRecDepth 20000 in
set_option maxHeartbeats 1600000 in
theorem awake_any (w : World) : Calls Try.prog 7 #[] w fun e w' => e = .returned (.bool true) ∧ Below w.heap.size w w' := by
  go_enter Try.func7, Try.ntmps7
  go_wp2_with fail
  refine (newS w).mono ?_
  rintro e w1 ⟨p, M, rfl, h0, hp, hM, hb⟩
  have H0 := Lib.hid h0
  have HB := Lib.hid hb
  clear h0 hb
  go_wp2_with fail
  refine (pushS w1 p _ M [] 0 H0.out 2 ⟨#[98]⟩ (by omega)).mono ?_
  rintro e w2 ⟨rfl, zs, v1, p1, h1, n1, t1⟩
  have H1 := Lib.hid h1
  have P1 := Lib.hid p1
  have N1 := Lib.hid n1
  have T1 := Lib.hid t1
  clear h1 p1 n1 t1
  go_wp2_with fail
  refine (pushS w2 p _ M zs 1 H1.out 1 ⟨#[97]⟩ (by omega)).mono ?_
  rintro e w3 ⟨rfl, zs2, v2, p2, h2, n2, t2⟩
  have H2 := Lib.hid h2
  have P2 := Lib.hid p2
  have N2 := Lib.hid n2
  have T2 := Lib.hid t2
  clear h2 p2 n2 t2
  have hl : zs2.length = 2 := by have a := P2.out.length_eq; have b := P1.out.length_eq; simp at a b; omega
  have h0m : gT zs2 0 = ⟨1, 1, fun _ => .string ⟨#[97]⟩⟩ := by
    have hm : gT zs2 0 ∈ zs2 := mem_gT (by omega)
    have hall : ∀ t, t ∈ zs2 ↔ t = ⟨2, 0, fun _ => .string ⟨#[98]⟩⟩ ∨ t = ⟨1, 1, fun _ => .string ⟨#[97]⟩⟩ := fun t => by
      rw [P2.out.mem_iff, List.mem_append, P1.out.mem_iff]; simp
    rcases (hall _).1 hm with hh | hh
    · obtain ⟨j, hj, hje⟩ := List.mem_iff_getElem.1 ((hall _).2 (.inr rfl))
      have := H2.out.heap.least j hj
      rw [gT_of hj, hje, hh] at this
      unfold Th.le at this
      simp at this
    · exact hh
  have HL := Lib.hid hl
  have HM := Lib.hid h0m
  clear hl h0m
  go_wp2_with fail
  refine (pop1S w3 p _ M zs2 2 H2.out (by have := HL.out; omega)).mono ?_
  rintro e w4 ⟨rfl, zs3, v3, p3, h3, n3, t3⟩
  rw [HM.out] at p3 ⊢
  have hl3 : zs3.length = 1 := by have := p3.length_eq; have := HL.out; simp at *; omega
  have hlen := lenS w4 p v3 M zs3 2 h3
  rw [hl3] at hlen
  have HLen := Lib.hid hlen
  have T3 := Lib.hid t3
  have N3 := Lib.hid n3
  clear p3 h3 n3 t3 hl3 hlen
  go_wp2_with (go_at_call 28; refine HLen.out.mono ?_; rintro e w' ⟨rfl, rfl⟩)
  go_ret
  have l0 : ∀ i, HS p (.slice none 0 0) M i → w.heap.size ≤ i := by
    rintro i (h1 | h1 | h1)
    · omega
    · omega
    · simp [Value.ownBlock] at h1
  have l1 := HS.lo l0 N1.out HB.out.size
  have b2 := HB.out.trans (T1.out.below HB.out.size (fun i _ hs => l0 i hs))
  have l2 := HS.lo l1 N2.out b2.size
  have b3 := b2.trans (T2.out.below b2.size (fun i _ hs => l1 i hs))
  exact ⟨rfl, b3.trans (T3.out.below b3.size (fun i _ hs => l2 i hs))⟩
end Go.Proofs.Ytoihhckiacmfcaa
