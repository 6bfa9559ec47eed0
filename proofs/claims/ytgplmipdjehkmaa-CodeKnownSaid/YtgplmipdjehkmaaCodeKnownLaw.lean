/- CodeKnown: the walk of the chapter's examples. -/
import Derived.Test.YtgplmipdjehkmaaNodeOnceLaw
import Derived.WalkSmall
namespace Go.Proofs.Ytgplmipdjehkmaa
open Go.RowKit
attribute [local go_sem] run_store_cx'

def most : List UInt8 := [255, 255, 255, 255, 255, 255, 255, 255, 255]
theorem uBmax : Cd.uB 18446744073709551615 = most ++ [1] := by
  rw [Cd.uB_ge (by decide), Cd.uB_ge (by decide), Cd.uB_ge (by decide), Cd.uB_ge (by decide), Cd.uB_ge (by decide), Cd.uB_ge (by decide), Cd.uB_ge (by decide), Cd.uB_ge (by decide), Cd.uB_ge (by decide), Cd.uB_lt (by decide)]
  decide
theorem uB299 : Cd.uB (Cd.zig (-150)) = [171, 2] := by
  have e : Cd.zig (-150) = 299 := by decide
  rw [e, Cd.uB_ge (by decide), Cd.uB_lt (by decide)]; decide
theorem textAB : Cd.textB [97, 98] = [2, 97, 98] := by
  unfold Cd.textB
  rw [show ([97, 98] : List UInt8).length = 2 from rfl, Cd.uB_lt (by decide)]; decide
theorem k1 : Cd.rdUint [128] 0 = .error (1, 4) := by rfl
theorem k2 : Cd.rdUint [128, 0] 0 = .error (1, 3) := by rfl
theorem k3 : Cd.rdUint (most ++ [2]) 0 = .error (9, 3) := by rfl
theorem k4 : rdValue [5, 129, 8] = .error (1, 2) := by rfl
theorem k5 : rdValue [3, 128, 32] = .error (1, 2) := by rfl
theorem k6 : rdAll [0, 0] = .error (1, 3) := by rfl
def nds : List Nd := [{ nd0 5 with kids := 2 }, { nd0 2 with int := 1 }, nd0 0]
theorem k7 : rdValue [5, 2, 2, 2, 0] = .ok (nds, 5) := by rfl
theorem flat_nds : flatB nds = [5, 2, 2, 2, 0] := by
  obtain ⟨sz, h⟩ := rdValue_inv k7
  rw [h.bytes]; rfl
theorem nds_row (w : World) : RowOf (w.alloc (.cells #[.int .u8 5, .int .i64 2, .int .i64 0, .string ⟨#[]⟩, .complex .f64 0 0, .int .u8 2, .int .i64 0, .int .i64 1, .string ⟨#[]⟩, .complex .f64 0 0, .int .u8 0, .int .i64 0, .int .i64 0, .string ⟨#[]⟩, .complex .f64 0 0] 37)) w.heap.size nds := by
  intro k hk j hj
  have h := heap_alloc_new w (.cells #[.int .u8 5, .int .i64 2, .int .i64 0, .string ⟨#[]⟩, .complex .f64 0 0, .int .u8 2, .int .i64 0, .int .i64 1, .string ⟨#[]⟩, .complex .f64 0 0, .int .u8 0, .int .i64 0, .int .i64 0, .string ⟨#[]⟩, .complex .f64 0 0] 37)
  rw [cell_of_row _ _ _ _ _ _ h]
  have hk3 : k = 0 ∨ k = 1 ∨ k = 2 := by have : nds.length = 3 := rfl; omega
  have hj5 : j = 0 ∨ j = 1 ∨ j = 2 ∨ j = 3 ∨ j = 4 := by omega
  rcases hk3 with rfl | rfl | rfl <;> rcases hj5 with rfl | rfl | rfl | rfl | rfl <;> rfl

theorem below_trans' {a b c : World} (h : Below a.heap.size a b) (k : Below b.heap.size b c) : Below a.heap.size a c := h.trans (k.mono h.size)
theorem mkBelow {w W w2 : World} {o : Obj} (h : Below w.heap.size w W) (k : Below (W.alloc o).heap.size (W.alloc o) w2) : Below w.heap.size w w2 :=
  (h.alloc h.size o).trans (k.mono (by have := h.size; simp; omega))

set_option maxRecDepth 20000 in
set_option maxHeartbeats 4000000 in
theorem known_of (w : World) : Calls Try.prog 9 #[] w fun e w' => e = .returned (.bool true) ∧ Below w.heap.size w w' := by
  obtain ⟨i0, hi, hz0, hz1, hz2⟩ := info_parts info_u8
  have HV := Lib.hid (rdValue_inv k7)
  go_enter Try.func9, Try.ntmps9
  go_wp2_with fail
  refine (putUint_any _ 18446744073709551615 (by decide)).mono ?_
  rintro e w1 ⟨v1, rfl, ho, BB⟩
  rw [uBmax] at ho
  obtain ⟨A1, c1, rfl⟩ := own_slice ho
  obtain ⟨g1, hA, hg0, hg1, hc10⟩ : ∃ g, A1 = some ⟨g, 0, none⟩ ∧ w.heap.size ≤ g ∧ g < w1.heap.size ∧ 10 ≤ c1 := by
    rcases ho.2 with ⟨_, h1⟩ | ⟨g, cap', cur, hv, hb, hh, hn, _⟩
    · simp [most] at h1
    · injection hv with hA _ hc
      subst hA hc
      exact ⟨g, rfl, hb, (Array.getElem?_eq_some_iff.1 hh).1, by simpa [most] using hn⟩
  subst hA
  have ho9 := Lib.hid (ownsRow_pop (size := 1) (n := 9) (xs := Cd.bytesV most) (last := Cd.bytesV [1]) (by rfl) (by rw [← Cd.bytesV_append]; exact ho))
  have hc9 : (9 : Int) ≤ (c1 : Int) := by omega
  have hl10 : (most ++ [1]).length = 10 := rfl
  rw [hl10]
  clear ho hl10 hc10
  go_wp2_with fail
  have i1 := in_lit w1 [128] (by decide)
  refine (readUint_any _ _ _ _ [128] i1).mono ?_
  rintro e w2 ⟨he, B⟩
  rw [k1] at he
  obtain rfl := he
  have ho2 := Lib.hid (own_below (own_below ho9.out ((Below.refl _ w1).alloc (Nat.le_refl _) _)) B)
  replace BB := mkBelow BB B
  clear ho9 B i1
  go_wp2_with fail
  have i2 := in_lit w2 [128, 0] (by decide)
  refine (readUint_any _ _ _ _ [128, 0] i2).mono ?_
  rintro e w3 ⟨he, B⟩
  rw [k2] at he
  obtain rfl := he
  have ho3 := Lib.hid (own_below (own_below ho2.out ((Below.refl _ w2).alloc (Nat.le_refl _) _)) B)
  replace BB := mkBelow BB B
  have HBB := Lib.hid BB
  have B3 : Hid (w.heap.size ≤ (w3.alloc (.cells #[.int .u8 2] 5)).heap.size) := by have := BB.size; unfold Hid; simp; omega
  have M1 : Hid (9 + 1 ≤ maxLen) := by unfold Hid maxLen; omega
  clear ho2 B i2 BB
  go_wp2_with (at_builtin; refine wpList_append_own_at _ rfl _ _ 44 rfl w.heap.size 5 i0 (.int .u8 0) 1 1 Try.underlying44 hi hz0 hz1 hz2 rfl (by decide) _ _ _ rfl (ho3.out.alloc _) ⟨w3.heap.size, 0, none⟩ 1 1 [.int .u8 2] rfl rfl (cell_one_new _ _ _) (by simp [Value.oneCell']) M1.out (by omega) B3.out ?_; intro v4 w4 hown4 hg4 _ hat4)
  have BB4 := ((HBB.out.alloc HBB.out.size _).trans (below_grown (ho3.out.alloc _) B3.out hg4))
  have hm4 : Made w (most ++ [2]) (.returned v4) w4 := ⟨v4, rfl, by rw [Cd.bytesV_append]; exact hown4, BB4⟩
  obtain ⟨A4, c4, e4, i4, BB⟩ := hm4.bs
  injection e4 with e4
  subst e4
  clear hown4 hg4 hat4 BB4 ho3 HBB B3 M1
  refine (readUint_any _ _ _ _ (most ++ [2]) i4).mono ?_
  rintro e w5 ⟨he, B⟩
  rw [k3] at he
  obtain rfl := he
  replace BB := below_trans' BB B
  clear B i4
  go_wp2_with fail
  refine (readValue_any _ _ _ _ [5, 129, 8] (in_lit w5 [5, 129, 8] (by decide))).mono ?_
  rintro e w6 ⟨he, B⟩
  rw [k4] at he
  obtain rfl := he
  replace BB := mkBelow BB B
  clear B
  go_wp2_with fail
  refine (readValue_any _ _ _ _ [3, 128, 32] (in_lit w6 [3, 128, 32] (by decide))).mono ?_
  rintro e w7 ⟨he, B⟩
  rw [k5] at he
  obtain rfl := he
  replace BB := mkBelow BB B
  clear B
  go_wp2_with fail
  refine (readAll_any _ _ _ _ [0, 0] (in_lit w7 [0, 0] (by decide))).mono ?_
  rintro e w8 ⟨he, B⟩
  rw [k6] at he
  obtain rfl := he
  replace BB := mkBelow BB B
  clear B
  go_wp2_with fail
  have hrow := nds_row w8
  obtain ⟨sz, hI⟩ := HV.out
  refine (putValue_ok w8.heap.size 3 nds hI.valOk (fun x hx => (hI.ok x hx).2.1) _ (by simp) hrow).mono ?_
  rintro e w9 hm
  rw [flat_nds] at hm
  obtain ⟨A9, c9, rfl, i9, B⟩ := hm.bs
  replace BB := mkBelow BB B
  clear B hm hrow hI HV
  go_wp2_with fail
  refine (awake_any _).mono ?_
  rintro e w10 ⟨rfl, B⟩
  have q1 : (convert 44 9 (.slice A9 5 c9)).run Try.prog w10 = .ok (.string ⟨#[5, 2, 2, 2, 0]⟩) w10 := (i9.below B).conv
  replace BB := below_trans' BB B
  clear B i9
  go_wp2_with fail
  refine (putInt_any _ (-150) (by decide) (by decide)).mono ?_
  rintro e w11 hm
  rw [uB299] at hm
  obtain ⟨A11, c11, rfl, i11, B⟩ := hm.bs
  have q2 : (convert 44 9 (.slice A11 2 c11)).run Try.prog w11 = .ok (.string ⟨#[171, 2]⟩) w11 := i11.conv
  replace BB := below_trans' BB B
  clear B hm i11 q1
  go_wp2_with fail
  refine (putText_any _ ⟨#[97, 98]⟩ (by decide)).mono ?_
  rintro e w12 hm
  rw [show (⟨#[97, 98]⟩ : ByteArray).data.toList = [97, 98] from rfl, textAB] at hm
  obtain ⟨A12, c12, rfl, i12, B⟩ := hm.bs
  have q3 : (convert 44 9 (.slice A12 3 c12)).run Try.prog w12 = .ok (.string ⟨#[2, 97, 98]⟩) w12 := i12.conv
  replace BB := below_trans' BB B
  clear B hm i12 q2
  go_wp2_with fail
  go_ret
  exact ⟨rfl, BB⟩
end Go.Proofs.Ytgplmipdjehkmaa
