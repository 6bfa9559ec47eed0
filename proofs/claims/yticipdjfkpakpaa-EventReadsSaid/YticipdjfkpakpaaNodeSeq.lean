/- value.nodes: its contract as an iterator over a row of nodes. -/
import Derived.Test.YticipdjfkpakpaaNodeRight
import Derived.RangeFuncNested
import Derived.RangeFuncBound
import Derived.RangeFuncCalls
import Derived.RangeFuncLeaves
import Derived.RangeFuncBox
import Derived.Shelf.Abstract
import Derived.Shelf.RegionOpen
import Derived.WalkKit
import Derived.OwnWalkIn
import Derived.TacticsInMore
import Derived.LoopNIn
import Derived.LoopIn
namespace Go.Proofs.Yticipdjfkpakpaa
open Go.RowKit Go.Shelf
attribute [local go_sem] Oper.semAt_some
attribute [local go_sem] run_store_cx'

/-- how many values are still to come behind each node -/
def opn : Nat → List Nd → Nat
  | t, [] => t
  | t, x :: xs => opn (t - 1 + x.kids) xs
/-- what the loops' bodies are told of a node and of what is open -/
def Fit (x : Nd × Nat) : Prop := x.1.ok ∧ x.1.text.length ≤ 4096 ∧ x.2 ≤ 2000000
abbrev NF := { x : Nd × Nat // Fit x }
/-- nodes with what is open behind each -/
def withOpen (xs : List Nd) (hf : ∀ j, Fit (xs[j]?.getD (nd0 0), opn 1 (xs.take (j + 1)))) (k : Nat) : List NF := (List.range k).map fun j => ⟨(xs[j]?.getD (nd0 0), opn 1 (xs.take (j + 1))), hf j⟩
theorem withOpen_succ (xs : List Nd) (hf : ∀ j, Fit (xs[j]?.getD (nd0 0), opn 1 (xs.take (j + 1)))) (k : Nat) : withOpen xs hf (k + 1) = withOpen xs hf k ++ [⟨(xs[k]?.getD (nd0 0), opn 1 (xs.take (k + 1))), hf k⟩] := by simp [withOpen, List.range_succ]
theorem withOpen_length (xs : List Nd) (hf : ∀ j, Fit (xs[j]?.getD (nd0 0), opn 1 (xs.take (j + 1)))) (k : Nat) : (withOpen xs hf k).length = k := by simp [withOpen]
theorem opn_snoc : ∀ (xs : List Nd) (t : Nat) (x : Nd), opn t (xs ++ [x]) = opn t xs - 1 + x.kids := by
  intro xs
  induction xs with
  | nil => intro t x; rfl
  | cons y ys ih => intro t x; exact ih _ _

/-- the row that the iterator reads, as cells -/
def RowOf (W : World) (g : Nat) (xs : List Nd) : Prop := ∀ k (h : k < xs.length), ∀ j, j < 5 → W.cell? ⟨g, k * 5 + j, none⟩ = (xs[k]).cells[j]?

set_option maxRecDepth 100000 in
set_option maxHeartbeats 4000000 in
theorem seq1_in (F : Fence) (n : Nat) (h8 : F.fn 76) (hro : F.round = none) (hn : 1 ≤ n) (l Bs n₀ g cap : Nat) (xs : List Nd) (hle : xs.length ≤ 1024) (hf : ∀ j, Fit (xs[j]?.getD (nd0 0), opn 1 (xs.take (j + 1))))
    (hop : ∀ k, k < xs.length → 1 ≤ opn 1 (xs.take k)) (hop2 : ∀ k, opn 1 (xs.take k) ≤ 2000000) (hki : ∀ x ∈ xs, x.kids ≤ 1024 ∧ (x.kind ≠ 5 → x.kids = 0)) (hg : g < n₀) (J Jx : List NF → World → Prop)
    (hJa : ∀ pre W (o : Obj), J pre W → J pre (W.alloc o))
    (hY : ∀ pre x W, J pre W → pre.length < xs.length → YieldAt F (n - 1) Try.prog l #[ndV x.1.1, .int .i64 (x.1.2 : Int)] W fun e W' =>
      (e = .returned (.bool true) ∧ J (pre ++ [x]) W' ∧ Below n₀ W W') ∨ (e = .returned (.bool false) ∧ Jx (pre ++ [x]) W'))
    (W : World) (hn0 : n₀ ≤ W.heap.size) (hBs : W.cell? ⟨Bs, 0, none⟩ = some (.slice (some ⟨g, 0, none⟩) xs.length cap)) (hc : RowOf W g xs) (h0 : J [] W) :
    CallsIn F n Try.prog 76 #[.func (.yield l) #[] #[], .pointer (some ⟨Bs, 0, none⟩)] W fun e W' => (∃ v, e = .returned v) ∧
      ((∃ ys, ys = withOpen xs hf xs.length ∧ J ys W') ∨ (∃ pre, (∃ k, k ≤ xs.length ∧ pre = withOpen xs hf k) ∧ Jx pre W')) := by
  refine callsIn_of_wp Try.func76 rfl h8 ?_ hro
  simp only [Try.ntmps76, List.size_toArray, List.length_cons, List.length_nil, Nat.reduceAdd, Nat.reduceSub, Array.replicate_succ, Array.replicate_zero, List.push_toArray, List.append_toArray, List.nil_append, List.cons_append]
  gi_wp2
  gi_loopw [3, 5, 8] (fun op _ i wr => ∃ k : Nat, k ≤ xs.length ∧ i = .int .i64 k ∧ op = .int .i64 (opn 1 (xs.take k) : Int) ∧ J (withOpen xs hf k) wr ∧ Below n₀ W wr)
    (fun _ _ i _ => xs.length - (intOf i).toNat)
  case atStart => exact ⟨0, Nat.zero_le _, rfl, rfl, h0, Below.refl _ _⟩
  case round =>
    obtain ⟨k, hk, rfl, rfl, hJs, hnx⟩ := hrel
    by_cases hlt : k < xs.length
    · have hlt1 : (k : Int) < (xs.length : Int) := by omega
      have hcx : ∀ j, j < 5 → wr.cell? ⟨g, k * 5 + j, none⟩ = (xs[k]).cells[j]? := fun j hj => by
        have h1 := hc k hlt j hj
        have h2 : j < (xs[k]).cells.length := hj
        rw [List.getElem?_eq_getElem h2] at h1 ⊢
        exact (hnx.cell (p := ⟨g, k * 5 + j, none⟩) hg).trans h1
      have c0 := hcx 0 (by omega)
      have c1 := hcx 1 (by omega)
      have c2 := hcx 2 (by omega)
      have c3 := hcx 3 (by omega)
      have c4 := hcx 4 (by omega)
      rw [Nat.add_zero] at c0
      simp only [Nd.cells, List.getElem?_cons_succ, List.getElem?_cons_zero] at c0 c1 c2 c3 c4
      clear hcx
      have hsn := opn_snoc (xs.take k) 1 xs[k]
      rw [← List.take_succ_eq_append_getElem hlt] at hsn
      have hgd : xs[k]?.getD (nd0 0) = xs[k] := by rw [List.getElem?_eq_getElem hlt]; rfl
      have ho1 := hop k hlt
      have ho2 := hop2 k
      obtain ⟨hk1, hk2⟩ := hki _ (List.getElem_mem hlt)
      have hJ2 := hJa _ wr (.cells #[.int .u8 (xs[k].kind : Int), .int .i64 (xs[k].kids : Int), .int .i64 xs[k].int, strV xs[k].text, .complex .f64 xs[k].re xs[k].im] 40) hJs
      obtain ⟨fn, tmps, assign, body, hy, hR⟩ := hY _ ⟨(xs[k]?.getD (nd0 0), opn 1 (xs.take (k + 1))), hf k⟩ _ hJ2 (by rw [withOpen_length]; exact hlt)
      dsimp only at hy
      rw [hgd] at hy
      unfold ndV strV at hy
      unfold strV at hR hJ2 c3
      rw [hsn] at hy
      have hsucc := withOpen_succ xs hf k
      generalize (⟨(xs[k]?.getD (nd0 0), opn 1 (xs.take (k + 1))), hf k⟩ : NF) = el at hR hsucc
      have HO := Lib.hid hsn
      generalize opn 1 (xs.take (k + 1)) = o2 at hsn
      subst hsn
      generalize ho : opn 1 (xs.take k) = o1 at *
      have hw1 : IntKind.i64.wrap ((o1 : Int) - 1) = (o1 : Int) - 1 := wrap_i64' _ (by omega) (by omega)
      have hw2 : IntKind.i64.wrap ((o1 : Int) - 1 + (xs[k].kids : Int)) = (o1 : Int) - 1 + (xs[k].kids : Int) := wrap_i64' _ (by omega) (by omega)
      have hk3 : (xs[k].kids : Int) ≤ 1024 := by omega
      have hcast : ((o1 - 1 + xs[k].kids : Nat) : Int) = (o1 : Int) - 1 + (xs[k].kids : Int) := by omega
      rw [hcast] at hy
      have hnx' : n₀ ≤ wr.heap.size := Nat.le_trans hn0 hnx.size
      have hJk := hJs
      clear hki hc hop hop2 hgd hJa hY
      generalize xs[k] = x at *
      obtain ⟨kd, ki, nn, tt, pp, qq⟩ := x
      simp only at *
      by_cases h5 : kd = 5
      · have q5 : ((kd : Int) == 5) = true := by rw [beq_iff_eq]; omega
        clear h5 hk2
        by_cases hz : 0 < (ki : Int)
        · gi_wp2
          refine hR.mono ?_
          rintro e W3 (⟨rfl, hJ3, hk3'⟩ | ⟨rfl, hJx3⟩)
          · gi_wp2
            go_roundw
            case rel => exact ⟨k + 1, by omega, by simp, by rw [HO.out]; congr 1; omega, by rw [hsucc]; exact hJ3, (hnx.alloc hnx' _).trans hk3'⟩
            case measure => simp [intOf]; omega
          · gi_wp2
            refine bodyPost_ret (results_none rfl _ _ _) rfl ?_
            exact ⟨⟨_, rfl⟩, .inr ⟨_, ⟨k + 1, by omega, hsucc.symm⟩, hJx3⟩⟩
        · obtain rfl : ki = 0 := by omega
          simp only [show ((0 : Nat) : Int) = 0 from rfl, Int.add_zero] at hy hR c1 hJ2
          gi_wp2
          refine hR.mono ?_
          rintro e W3 (⟨rfl, hJ3, hk3'⟩ | ⟨rfl, hJx3⟩)
          · gi_wp2
            go_roundw
            case rel => exact ⟨k + 1, by omega, by simp, by rw [HO.out]; congr 1; omega, by rw [hsucc]; exact hJ3, (hnx.alloc hnx' _).trans hk3'⟩
            case measure => simp [intOf]; omega
          · gi_wp2
            refine bodyPost_ret (results_none rfl _ _ _) rfl ?_
            exact ⟨⟨_, rfl⟩, .inr ⟨_, ⟨k + 1, by omega, hsucc.symm⟩, hJx3⟩⟩
      · have q5 : ((kd : Int) == 5) = false := by rw [beq_eq_false_iff_ne]; omega
        obtain rfl := hk2 h5
        clear h5 hk2
        simp only [show ((0 : Nat) : Int) = 0 from rfl, Int.add_zero] at hy hR c1 hJ2
        gi_wp2
        refine hR.mono ?_
        rintro e W3 (⟨rfl, hJ3, hk3'⟩ | ⟨rfl, hJx3⟩)
        · gi_wp2
          go_roundw
          case rel => exact ⟨k + 1, by omega, by simp, by rw [HO.out]; congr 1; omega, by rw [hsucc]; exact hJ3, (hnx.alloc hnx' _).trans hk3'⟩
          case measure => simp [intOf]; omega
        · gi_wp2
          refine bodyPost_ret (results_none rfl _ _ _) rfl ?_
          exact ⟨⟨_, rfl⟩, .inr ⟨_, ⟨k + 1, by omega, hsucc.symm⟩, hJx3⟩⟩
    · obtain rfl : k = xs.length := by omega
      gi_wp2
      go_end0
      exact ⟨⟨_, rfl⟩, .inl ⟨_, rfl, hJs⟩⟩

set_option maxHeartbeats 1000000 in
theorem seq_in (F : Fence) (n : Nat) (h6 : F.fn 58) (hro : F.round = none) (a : Option Addr) (len cap : Nat) (w : World) :
    CallsIn F n Try.prog 58 #[.slice a len cap] w fun e w' => e = .returned (.func (.func 76) #[] #[.pointer (some ⟨w.heap.size, 0, none⟩)]) ∧ w' = w.alloc (.cells #[.slice a len cap] 25) := by
  refine callsIn_of_wp Try.func58 rfl h6 ?_ hro
  simp only [Try.ntmps58, List.size_toArray, List.length_cons, List.length_nil, Nat.reduceAdd, Nat.reduceSub, Array.replicate_succ, Array.replicate_zero, List.push_toArray, List.append_toArray, List.nil_append, List.cons_append]
  gi_wp2
  go_ret
  exact ⟨rfl, rfl⟩

theorem RowOf.below {n₀ g : Nat} {W W' : World} {xs : List Nd} (h : RowOf W g xs) (hb : Below n₀ W W') (hg : g < n₀) : RowOf W' g xs := fun k hk j hj => by
  have h1 := h k hk j hj
  exact (hb.cell (p := ⟨g, k * 5 + j, none⟩) hg).trans h1

theorem nodes_stops (F : Fence) (n : Nat) (h8 : F.fn 76) (hro : F.round = none) (hn : 1 ≤ n) (Bs n₀ g cap : Nat) (xs : List Nd) (hle : xs.length ≤ 1024) (hf : ∀ j, Fit (xs[j]?.getD (nd0 0), opn 1 (xs.take (j + 1))))
    (hop : ∀ k, k < xs.length → 1 ≤ opn 1 (xs.take k)) (hop2 : ∀ k, opn 1 (xs.take k) ≤ 2000000) (hki : ∀ x ∈ xs, x.kids ≤ 1024 ∧ (x.kind ≠ 5 → x.kids = 0)) (hg : g < n₀) (w : World) (hBs : Bs < w.heap.size) (hn₀ : n₀ ≤ w.heap.size)
    (hc : w.cell? ⟨Bs, 0, none⟩ = some (.slice (some ⟨g, 0, none⟩) xs.length cap)) (hI : RowOf w g xs) :
    SeqStopsK F n Try.prog 76 #[.pointer (some ⟨Bs, 0, none⟩)] (fun x : NF => #[ndV x.1.1, .int .i64 (x.1.2 : Int)]) (Below n₀) (fun ys => ys = withOpen xs hf xs.length)
      (fun pre => ∃ k, k ≤ xs.length ∧ pre = withOpen xs hf k) xs.length w := fun l J Jx W hW hJ _ hY h0 =>
  seq1_in F n h8 hro hn l Bs n₀ g cap xs hle hf hop hop2 hki hg J Jx (fun pre W o h => hJ pre W _ none h (World.grownBy_alloc _ _ _) (fun r e => by cases e)) hY W (Nat.le_trans hn₀ hW.size)
    ((hW.cell (p := ⟨Bs, 0, none⟩) hBs).trans hc) (hI.below (hW.mono hn₀) hg) h0
end Go.Proofs.Yticipdjfkpakpaa
