/- CodeValueReads: the walk. -/
import Derived.Test.YtgplmipdjehkmaaNodeSame
import Derived.Test.YtgplmipdjehkmaaCodeReadsOf
namespace Go.Proofs.Ytgplmipdjehkmaa
open Go.RowKit

theorem rdAll_fine {l : List UInt8} {xs : List Nd} {tn : Nat} (h : rdAll l = .ok (xs, tn)) : (∀ x ∈ xs, x.fine) ∧ xs.length ≤ 1024 := by
  unfold rdAll at h
  cases hr : rdValue l with
  | error e => rw [hr] at h; cases h
  | ok p =>
    obtain ⟨v, t⟩ := p
    rw [hr] at h
    simp only [] at h
    split at h
    · cases h
    · injection h with h; injection h with h1 h2; subst h1; exact rdValue_fine hr

/-- what a reading of nodes gives, in one form -/
structure GotV (res : Except (Nat × Nat) (List Nd × Nat)) (xs : List Nd) (a e : Int) : Prop where
  fine : ∀ x ∈ xs, x.fine
  few : xs.length ≤ 1024
  got : ∀ {w : World} {en : Ending} {w' : World}, GetsV w res en w' → ∃ Av cv, en = .returned (.tuple #[.slice Av xs.length cv, .int .i64 a, .int .i64 e]) ∧ w'.ownsRow w.heap.size 37 5 (.slice Av xs.length cv) xs.length (ndsV xs) ∧ Below w.heap.size w w'
theorem got_of (res : Except (Nat × Nat) (List Nd × Nat)) (h : ∀ xs tn, res = .ok (xs, tn) → (∀ x ∈ xs, x.fine) ∧ xs.length ≤ 1024) : ∃ xs a e, GotV res xs a e := by
  rcases res with ⟨p, en⟩ | ⟨xs, tn⟩
  · exact ⟨[], p, en, by simp, by simp, fun hg => ⟨none, 0, hg.1, World.ownsRow_nil _ _ _ _, hg.2⟩⟩
  · refine ⟨xs, tn, 0, (h _ _ rfl).1, (h _ _ rfl).2, fun hg => ?_⟩
    obtain ⟨⟨v, rfl, ho⟩, hb⟩ := hg
    obtain ⟨Av, cv, rfl⟩ := own_slice ho
    exact ⟨Av, cv, rfl, ho, hb⟩

theorem vreads_long (A : Option Addr) (len cap : Nat) (w : World) (h : 20000 < (len : Int)) :
    Calls Try.prog 7 #[.slice A len cap] w fun e w' => e = .returned (.bool true) ∧ Below w.heap.size w w' := by
  have hd : decide (20000 < (len : Int)) = true := decide_eq_true h
  have HD := Lib.hid hd
  clear hd h
  go_enter Try.func7, Try.ntmps7
  go_wp2_with fail
  refine (awake_any _).mono ?_
  rintro e w1 ⟨rfl, B1⟩
  go_wp2_with fail
  refine (long_any _ _ _ _).mono ?_
  rintro e w2 ⟨rfl, rfl⟩
  rw [HD.out]
  go_wp2_with fail
  go_ret
  exact ⟨rfl, B1⟩

set_option maxRecDepth 20000 in
set_option maxHeartbeats 1600000 in
theorem vreads_short (A : Option Addr) (len cap : Nat) (l : List UInt8) (w : World) (hin : In w A len cap l) (h : len ≤ 20000) :
    Calls Try.prog 7 #[.slice A len cap] w fun e w' => e = .returned (.bool true) ∧ Below w.heap.size w w' := by
  have hd : decide (20000 < (len : Int)) = false := decide_eq_false (by omega)
  have HD := Lib.hid hd
  have HL := Lib.hid (show l.length ≤ 1000000 by have := hin.bs.len; omega)
  clear hd h
  obtain ⟨xs, a1, e1, G1⟩ := got_of (rdValue l) (fun xs tn h => rdValue_fine h)
  obtain ⟨ys, a2, e2, G2⟩ := got_of (rdAll l) (fun xs tn h => rdAll_fine h)
  have H1 := Lib.hid G1
  have H2 := Lib.hid G2
  clear G1 G2
  go_enter Try.func7, Try.ntmps7
  go_wp2_with fail
  refine (awake_any _).mono ?_
  rintro e w1 ⟨rfl, B1⟩
  have i1 := hin.below B1
  clear hin
  go_wp2_with fail
  refine (long_any _ _ _ _).mono ?_
  rintro e w1 ⟨rfl, rfl⟩
  rw [HD.out]
  go_wp2_with fail
  refine (readValue_any _ _ _ _ l i1).mono ?_
  rintro e w2 hg
  obtain ⟨A2, c2, rfl, o2, B2'⟩ := H1.out.got hg
  have B2 := mono_below' B1 B2'
  have i2 := i1.below B2'
  clear hg B1 B2' i1
  go_wp2_with fail
  refine (refValue_any _ _ _ _ l i2 HL.out).mono ?_
  rintro e w3 hg
  obtain ⟨A3, c3, rfl, o3, B3'⟩ := H1.out.got hg
  have o2' := own_below o2 B3'
  have B3 := mono_below' B2 B3'
  have i3 := i2.below B3'
  clear hg B2 B3' i2 o2
  go_wp2_with fail
  refine (same_nodes _ _ _ _ _ xs o2' o3 H1.out.fine H1.out.few).mono ?_
  rintro e w4 ⟨rfl, g4⟩
  have B4 := B3.grown g4 B3.size (by simp)
  have i4 := i3.below (Below.grown (Below.refl _ _) g4 (Nat.le_refl _) (by simp))
  clear g4 B3 i3 o2' o3
  go_wp2_with fail
  refine (readAll_any _ _ _ _ l i4).mono ?_
  rintro e w5 hg
  obtain ⟨A5, c5, rfl, o5, B5'⟩ := H2.out.got hg
  have B5 := mono_below' B4 B5'
  have i5 := i4.below B5'
  clear hg B4 B5' i4
  go_wp2_with fail
  refine (refAll_any _ _ _ _ l i5 HL.out).mono ?_
  rintro e w6 hg
  obtain ⟨A6, c6, rfl, o6, B6'⟩ := H2.out.got hg
  have o5' := own_below o5 B6'
  have B6 := mono_below' B5 B6'
  clear hg B5 B6' i5 o5
  go_wp2_with fail
  refine (same_nodes _ _ _ _ _ ys o5' o6 H2.out.fine H2.out.few).mono ?_
  rintro e w7 ⟨rfl, g7⟩
  have B7 := B6.grown g7 B6.size (by simp)
  clear g7 B6 o5' o6
  go_wp2_with fail
  go_ret
  exact ⟨rfl, B7⟩

theorem vreads_of (a : Option Addr) (len cap : Nat) (zs : List Int) (w : World) (h : Came w a len cap zs) :
    Calls Try.prog 7 #[.slice a len cap] w fun e w' => e = .returned (.bool true) ∧ Below w.heap.size w w' := by
  by_cases hl : 20000 < (len : Int)
  · exact vreads_long a len cap w hl
  · obtain ⟨l, hin⟩ := came_in h
    exact vreads_short a len cap l w hin (by omega)
end Go.Proofs.Ytgplmipdjehkmaa
