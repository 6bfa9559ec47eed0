/- slices.Values over a row of things: its contract as an iterator. -/
import Derived.Test.YteondokncalbnaaTsSort0
namespace Go.Proofs.Yteondokncalbnaa
open Go.RowKit Go.Shelf
attribute [local go_sem] Oper.semAt_some

abbrev Tri := Int × Int × Int × ByteArray × Int
/-- the row that the iterator reads, as cells -/
def TriRow (W : World) (g : Nat) (xs : List Tri) : Prop := ∀ k (h : k < xs.length), W.cell? ⟨g, k * 5, none⟩ = some (.int .i64 (xs[k]).1) ∧ W.cell? ⟨g, k * 5 + 1, none⟩ = some (.int .i64 (xs[k]).2.1) ∧ W.cell? ⟨g, k * 5 + 2, none⟩ = some (.int .i64 (xs[k]).2.2.1) ∧ W.cell? ⟨g, k * 5 + 3, none⟩ = some (.string (xs[k]).2.2.2.1) ∧ W.cell? ⟨g, k * 5 + 4, none⟩ = some (.int .i64 (xs[k]).2.2.2.2)
theorem TriRow.below {n₀ g : Nat} {W W' : World} {xs : List Tri} (h : TriRow W g xs) (hb : Below n₀ W W') (hg : g < n₀) : TriRow W' g xs := fun k hk =>
  ⟨(hb.cell (p := ⟨g, k * 5, none⟩) hg).trans (h k hk).1, (hb.cell (p := ⟨g, k * 5 + 1, none⟩) hg).trans (h k hk).2.1, (hb.cell (p := ⟨g, k * 5 + 2, none⟩) hg).trans (h k hk).2.2.1, (hb.cell (p := ⟨g, k * 5 + 3, none⟩) hg).trans (h k hk).2.2.2.1, (hb.cell (p := ⟨g, k * 5 + 4, none⟩) hg).trans (h k hk).2.2.2.2⟩

set_option maxRecDepth 100000 in
set_option maxHeartbeats 4000000 in
theorem values1_in (F : Fence) (n : Nat) (h8 : F.fn 82) (hro : F.round = none) (hn : 1 ≤ n) (l Bs n₀ g cap : Nat) (xs : List Tri) (hle : xs.length ≤ 1000000) (hg : g < n₀) (J Jx : List Tri → World → Prop)
    (hJa : ∀ pre W (o : Obj), J pre W → J pre (W.alloc o))
    (hY : ∀ pre x W, J pre W → pre.length < xs.length → YieldAt F (n - 1) Try.prog l (encT x) W fun e W' =>
      (e = .returned (.bool true) ∧ J (pre ++ [x]) W' ∧ Below n₀ W W') ∨ (e = .returned (.bool false) ∧ Jx (pre ++ [x]) W'))
    (W : World) (hn0 : n₀ ≤ W.heap.size) (hBs : W.cell? ⟨Bs, 0, none⟩ = some (.slice (some ⟨g, 0, none⟩) xs.length cap)) (hc : TriRow W g xs) (h0 : J [] W) :
    CallsIn F n Try.prog 82 #[.func (.yield l) #[] #[], .pointer (some ⟨Bs, 0, none⟩)] W fun e W' => (∃ v, e = .returned v) ∧
      ((∃ ys, ys = xs ∧ J ys W') ∨ (∃ pre, (∃ k, k ≤ xs.length ∧ pre = xs.take k) ∧ Jx pre W')) := by
  refine callsIn_of_wp Try.func82 rfl h8 ?_ hro
  simp only [Try.ntmps82, List.size_toArray, List.length_cons, List.length_nil, Nat.reduceAdd, Nat.reduceSub, Array.replicate_succ, Array.replicate_zero, List.push_toArray, List.append_toArray, List.nil_append, List.cons_append]
  gi_wp2
  gi_loopw [7] (fun i wr => ∃ k : Nat, k ≤ xs.length ∧ i = .int .i64 k ∧ J (xs.take k) wr ∧ Below n₀ W wr)
    (fun i _ => xs.length - (intOf i).toNat)
  case atStart => exact ⟨0, Nat.zero_le _, rfl, h0, Below.refl _ _⟩
  case round =>
    obtain ⟨k, hk, rfl, hJs, hnx⟩ := hrel
    by_cases hlt : k < xs.length
    · have hlt1 : (k : Int) < (xs.length : Int) := by omega
      obtain ⟨c0, c1, c2, c3, c4⟩ := hc.below hnx hg k hlt
      have hsucc : xs.take (k + 1) = xs.take k ++ [xs[k]] := List.take_succ_eq_append_getElem hlt
      have hlk : (xs.take k).length < xs.length := by rw [List.length_take]; omega
      have hnx' : n₀ ≤ wr.heap.size := Nat.le_trans hn0 hnx.size
      generalize xs[k] = x at *
      obtain ⟨x0, x1, x2, x3, x4⟩ := x
      simp only at c0 c1 c2 c3 c4
      have hJ2 := hJa _ wr (.cells #[.int .i64 x0, .int .i64 x1, .int .i64 x2, .string x3, .int .i64 x4] 92) hJs
      obtain ⟨fn, tmps, assign, body, hy, hR⟩ := hY _ ⟨x0, x1, x2, x3, x4⟩ _ hJ2 hlk
      unfold encT at hy
      have HS := Lib.hid hsucc
      have HJ := Lib.hid hJs
      clear hc hJa hY hsucc hlk hJ2 hJs
      gi_wp2
      refine hR.mono ?_
      rintro e W3 (⟨rfl, hJ3, hk3'⟩ | ⟨rfl, hJx3⟩)
      · gi_wp2
        go_roundw
        case rel => exact ⟨k + 1, by omega, by go_num, by rw [HS.out]; exact hJ3, (hnx.alloc hnx' _).trans hk3'⟩
        case measure => simp [intOf]; omega
      · gi_wp2
        refine bodyPost_ret (results_none rfl _ _ _) rfl ?_
        exact ⟨⟨_, rfl⟩, .inr ⟨_, ⟨k + 1, by omega, HS.out.symm⟩, hJx3⟩⟩
    · obtain rfl : k = xs.length := by omega
      rw [List.take_length] at hJs
      gi_wp2
      go_end0
      exact ⟨⟨_, rfl⟩, .inl ⟨_, rfl, hJs⟩⟩

theorem values_stops (F : Fence) (n : Nat) (h8 : F.fn 82) (hro : F.round = none) (hn : 1 ≤ n) (Bs n₀ g cap : Nat) (xs : List Tri) (hle : xs.length ≤ 1000000)
    (hg : g < n₀) (w : World) (hBs : Bs < w.heap.size) (hn₀ : n₀ ≤ w.heap.size)
    (hc : w.cell? ⟨Bs, 0, none⟩ = some (.slice (some ⟨g, 0, none⟩) xs.length cap)) (hI : TriRow w g xs) :
    SeqStopsK F n Try.prog 82 #[.pointer (some ⟨Bs, 0, none⟩)] encT (Below n₀) (fun ys => ys = xs)
      (fun pre => ∃ k, k ≤ xs.length ∧ pre = xs.take k) xs.length w := fun l J Jx W hW hJ _ hY h0 =>
  values1_in F n h8 hro hn l Bs n₀ g cap xs hle hg J Jx (fun pre W o h => hJ pre W _ none h (World.grownBy_alloc _ _ _) (fun r e => by cases e)) hY W (Nat.le_trans hn₀ hW.size)
    ((hW.cell (p := ⟨Bs, 0, none⟩) hBs).trans hc) (hI.below (hW.mono hn₀) hg) h0
end Go.Proofs.Yteondokncalbnaa
