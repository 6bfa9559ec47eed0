/- CodeOnce: the walk. -/
import Derived.Test.YtgplmipdjehkmaaNodeVal
import Derived.Test.YtgplmipdjehkmaaNodeLaw
import Derived.Deep.RegionHeld3
namespace Go.Proofs.Ytgplmipdjehkmaa
open Go.RowKit

theorem row_of_own {w : World} {base cap : Nat} {A : Option Addr} {xs : List Nd} (h : w.ownsRow base 37 5 (.slice A xs.length cap) xs.length (ndsV xs)) (h0 : 0 < xs.length) :
    ∃ g, A = some ⟨g, 0, none⟩ ∧ base ≤ g ∧ g < w.heap.size ∧ RowOf w g xs := by
  rcases h.2 with ⟨_, h1⟩ | ⟨g, cap', cur, hv, hb, hh, _⟩
  · omega
  · injection hv with hA _ _
    subst hA
    exact ⟨g, rfl, hb, (Array.getElem?_eq_some_iff.1 hh).1, fun k hk j hj => (h.cellAt (k * 5 + j) (by omega)).trans (ndsV_at xs k j hk hj)⟩
theorem MadeV.bs {w w' : World} {l : List UInt8} {e : Ending} (h : MadeV w l e w') : ∃ A cap, e = .returned (.tuple #[.slice A l.length cap, .int .i64 0]) ∧ In w' A l.length cap l ∧ Below w.heap.size w w' := by
  obtain ⟨v, rfl, ho, hb⟩ := h
  obtain ⟨A, cap, e1, h1, h2⟩ := Made.bs ⟨v, rfl, ho, hb⟩
  injection e1 with e1
  subst e1
  exact ⟨A, cap, rfl, h1, h2⟩
theorem RowOf.drewN {w : World} {g : Nat} {xs : List Nd} (h : RowOf w g xs) (n : Nat) : RowOf (w.drewN n) g xs := h

theorem once_long (A : Option Addr) (len cap : Nat) (w : World) (h : 20000 < (len : Int)) :
    Calls Try.prog 8 #[.slice A len cap] w fun e w' => e = .returned (.bool true) ∧ Below w.heap.size w w' := by
  have hd : decide (20000 < (len : Int)) = true := decide_eq_true h
  have HD := Lib.hid hd
  clear hd h
  go_enter Try.func8, Try.ntmps8
  go_wp2_with fail
  refine (awake_any _).mono ?_
  rintro e w1 ⟨rfl, B1⟩
  go_wp2_with fail
  refine (long_any _ _ _ _).mono ?_
  rintro e w2 ⟨rfl, rfl⟩
  rw [HD.out]
  go_wp2_with fail
  go_ret
  exact ⟨rfl, B1⟩

set_option maxRecDepth 20000 in
set_option maxHeartbeats 1600000 in
theorem once_short (A : Option Addr) (len cap : Nat) (l : List UInt8) (w : World) (hin : In w A len cap l) (h : len ≤ 20000) :
    Calls Try.prog 8 #[.slice A len cap] w fun e w' => e = .returned (.bool true) ∧ Below w.heap.size w w' := by
  have hd : decide (20000 < (len : Int)) = false := decide_eq_false (by omega)
  have HD := Lib.hid hd
  obtain rfl := hin.bs.len
  have hlen : (l.length : Int) ≤ 20000 := by omega
  clear hd h
  rcases hr : rdValue l with ⟨p, en⟩ | ⟨xs, tn⟩
  · have he := rdValue_er hr
    have hne := rdValue_errno hr
    have HR := Lib.hid hr
    have hp := he.1
    have HE := Lib.hid he.2
    clear hr he
    rcases Nat.eq_or_lt_of_le hp with hpl | hpl
    · have h4 : en = 4 := HE.out.1 hpl
      subst h4
      subst hpl
      clear HE hne
      go_enter Try.func8, Try.ntmps8
      go_wp2_with fail
      refine (awake_any _).mono ?_
      rintro e w1 ⟨rfl, B1⟩
      have i1 := hin.below B1
      clear hin
      go_wp2_with fail
      refine (long_any _ _ _ _).mono ?_
      rintro e w1 ⟨rfl, rfl⟩
      rw [HD.out]
      go_wp2_with fail
      refine (readValue_any _ _ _ _ l i1).mono ?_
      rintro e w2 ⟨hg, B2⟩
      rw [HR.out] at hg
      obtain rfl := hg
      have BB := mono_below' B1 B2
      clear B1 B2 i1
      go_wp2_with fail
      go_ret
      exact ⟨by simp, BB⟩
    · have h4 : en ≠ 4 := fun h => by have := HE.out.2 h; omega
      have n4 : ((en : Int) == 4) = false := by rw [beq_eq_false_iff_ne]; omega
      have n0 : ((en : Int) != 0) = true := by rw [bne_iff_ne]; omega
      have np : ((p : Int) == (l.length : Int)) = false := by rw [beq_eq_false_iff_ne]; omega
      have lp : (p : Int) ≤ (l.length : Int) := by omega
      clear HE hne h4 hpl
      go_enter Try.func8, Try.ntmps8
      go_wp2_with fail
      refine (awake_any _).mono ?_
      rintro e w1 ⟨rfl, B1⟩
      have i1 := hin.below B1
      clear hin
      go_wp2_with fail
      refine (long_any _ _ _ _).mono ?_
      rintro e w1 ⟨rfl, rfl⟩
      rw [HD.out]
      go_wp2_with fail
      refine (readValue_any _ _ _ _ l i1).mono ?_
      rintro e w2 ⟨hg, B2⟩
      rw [HR.out] at hg
      obtain rfl := hg
      have BB := mono_below' B1 B2
      clear B1 B2 i1
      go_wp2_with fail
      go_ret
      exact ⟨by simp, BB⟩
  · obtain ⟨sz, hI⟩ := rdValue_inv hr
    have hV := hI.valOk
    have hi64 : ∀ x ∈ xs, I64 x.int := fun x hx => (hI.ok x hx).2.1
    have hby : flatB xs = l.take tn := by rw [hI.bytes]; simp [sub]
    have hle := hI.at_
    have HR := Lib.hid hr
    have HV := Lib.hid hV
    have HI := Lib.hid hi64
    have HB := Lib.hid hby
    have lp : (tn : Int) ≤ (l.length : Int) := by omega
    clear hr hI hV hi64 hby
    go_enter Try.func8, Try.ntmps8
    go_wp2_with fail
    refine (awake_any _).mono ?_
    rintro e w1 ⟨rfl, B1⟩
    have i1 := hin.below B1
    clear hin
    go_wp2_with fail
    refine (long_any _ _ _ _).mono ?_
    rintro e w1 ⟨rfl, rfl⟩
    rw [HD.out]
    go_wp2_with fail
    refine (readValue_any _ _ _ _ l i1).mono ?_
    rintro e w2 ⟨hg, B2⟩
    rw [HR.out] at hg
    obtain ⟨v, rfl, ho⟩ := hg
    obtain ⟨Av, cv, rfl⟩ := own_slice ho
    obtain ⟨g, rfl, _, hg2, hrow⟩ := row_of_own ho HV.out.pos
    have BB := mono_below' B1 B2
    have i2 := i1.below B2
    clear B1 B2 i1 ho
    go_wp2_with fail
    refine (putValue_ok g cv xs HV.out HI.out _ hg2 hrow).mono ?_
    rintro e w3 hm
    obtain ⟨fb, hfb⟩ : ∃ fb, flatB xs = fb := ⟨_, rfl⟩
    rw [hfb] at hm
    have HFB := Lib.hid (hfb.symm.trans HB.out)
    clear hfb HB
    obtain ⟨A3, c3, rfl, i3, B3⟩ := hm.bs
    have i2' := i2.below B3
    have hrow3 := hrow.below B3 hg2
    have hg3 : g < w3.heap.size := Nat.lt_of_lt_of_le hg2 B3.size
    replace BB := mono_below' BB B3
    have K1 := Lib.hid (fun W4 (hB : Below w3.heap.size w3 W4) => (i3.below hB).conv)
    have K2 : Hid (∀ W4, Below w3.heap.size w3 W4 → (convert 44 9 (.slice A tn cap)).run Try.prog W4 = .ok (strV (l.take tn)) W4) := fun W4 hB => by
      have hcut := (i2'.below hB).bs.cut (A' := A) 0 tn (by omega) hle (fun ad _ e => by rw [e]; rfl)
      exact run_conv_bs hcut _ _ 5 Try.underlying44 Try.underlying5 Try.underlying9 _
    have heq : (fb == List.take tn l) = true := by rw [HFB.out]; simp
    have hc1 : (tn : Int) ≤ (cap : Int) := by have := i2'.cap_le; omega
    clear i2 B3 hrow hm i2' i3
    have hD3 : Below w3.heap.size w3 w3.drew := below_drewN (Below.refl _ _) 1
    have HD3 := Lib.hid hD3
    have HBB := Lib.hid BB
    have HG := Lib.hid hg3
    have HROW := Lib.hid hrow3
    have hCk := Lib.hid (check_ok g cv xs HV.out w3.drew hg3 hrow3)
    clear hD3 BB hg3 hrow3 hg2 HG HROW HR HI HV HD hle
    unfold strV at K1 K2
    go_wp2_with fail
    go_region_held3 (fun W => (convert 44 9 (.slice A3 fb.length c3)).run Try.prog W = .ok (.string ⟨fb.toArray⟩) W ∧ (convert 44 9 (.slice A tn cap)).run Try.prog W = .ok (.string ⟨(List.take tn l).toArray⟩) W) (first | exact ⟨K1.out _ HD3.out, K2.out _ HD3.out⟩ | exact ⟨K1.out _ (HD3.out.trans B4), K2.out _ (HD3.out.trans B4)⟩)
      (first | (go_at_call 46; refine hCk.out.mono ?_; rintro e w4 ⟨rfl, B4⟩))
    go_wp2_with fail
    go_ret
    exact ⟨by simp, mono_below' HBB.out (HD3.out.trans B4)⟩
theorem once_of (a : Option Addr) (len cap : Nat) (zs : List Int) (w : World) (h : Came w a len cap zs) :
    Calls Try.prog 8 #[.slice a len cap] w fun e w' => e = .returned (.bool true) ∧ Below w.heap.size w w' := by
  by_cases hl : 20000 < (len : Int)
  · exact once_long a len cap w hl
  · obtain ⟨l, hin⟩ := came_in h
    exact once_short a len cap l w hin (by omega)
end Go.Proofs.Ytgplmipdjehkmaa
