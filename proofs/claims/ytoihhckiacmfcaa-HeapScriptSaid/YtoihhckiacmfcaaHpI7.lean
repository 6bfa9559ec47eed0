/- heap: Pop, find, Remove, Change at int (written by gen_heap3.py). -/
import Derived.Test.YtoihhckiacmfcaaHpI6
namespace Go.Proofs.Ytoihhckiacmfcaa
open Go.RowKit

set_option maxRecDepth 20000 in
set_option maxHeartbeats 800000 in
theorem pop0I (w : World) (p : Nat) (v : Value) (M : Nat) (nx : Nat) (h : HStI w p v M [] nx) : Calls Try.prog 12 #[.pointer (some ⟨p, 0, none⟩)] w fun e w' => e = .returned (.tuple #[.int .i64 0, .int .i64 0, .int .i64 0, .bool false]) ∧ Below w.heap.size w w' := by
  have hq := Lib.hid (peek0I w p v M nx h)
  clear h
  go_enter Try.func12, Try.ntmps12
  go_wp2_with fail
  refine hq.out.mono ?_
  rintro e w1 ⟨rfl, hb⟩
  go_wp2_with fail
  exact bodyPost_ret (v := .tuple #[.int .i64 0, .int .i64 0, .int .i64 0, .bool false]) (by simp [results, Try.results12, go_sem]) rfl ⟨rfl, hb⟩

set_option maxRecDepth 20000 in
set_option maxHeartbeats 800000 in
theorem pop1I (w : World) (p : Nat) (v : Value) (M : Nat) (xs : List Th) (nx : Nat) (h : HStI w p v M xs nx) (hn : 0 < xs.length) :
    Calls Try.prog 12 #[.pointer (some ⟨p, 0, none⟩)] w fun e w' => e = .returned (.tuple #[.int .i64 (gT xs 0).key, (gT xs 0).v 0, .int .i64 ((gT xs 0).num : Int), .bool true]) ∧ ∃ zs v', (gT xs 0 :: zs).Perm xs ∧ HStI w' p v' M zs nx ∧ v'.ownBlock = v.ownBlock ∧ Turns (HS p v M) w w' := by
  have hq := Lib.hid (peek1I w p v M xs nx h hn)
  have HH := Lib.hid h
  clear h
  have hx : gT xs 0 = gT xs 0 := rfl
  go_enter Try.func12, Try.ntmps12
  go_wp2_with fail
  refine hq.out.mono ?_
  rintro e w1 ⟨rfl, hb⟩
  go_wp2_with fail
  refine (dropI w1 p v M xs nx 0 (HH.out.bel hb) hn).mono ?_
  rintro e w2 ⟨rfl, zs, v', h1, h2, h3, h4⟩
  have h5 := Lib.hid h1
  have h6 := Lib.hid h2
  have h7 := Lib.hid h3
  have h8 := Lib.hid ((Turns.of_below (S := HS p v M) hb).then h4)
  clear h1 h2 h3 h4 hb hx
  go_wp2_with fail
  exact bodyPost_ret (v := .tuple #[.int .i64 (gT xs 0).key, (gT xs 0).v 0, .int .i64 ((gT xs 0).num : Int), .bool true]) (by simp [results, Try.results12, go_sem]) rfl ⟨rfl, zs, v', h5.out, h6.out, h7.out, h8.out⟩

set_option maxRecDepth 20000 in
theorem find0I (w : World) (p : Nat) (v : Value) (M : Nat) (xs : List Th) (nx : Nat) (h : HStI w p v M xs nx) (k : Int) (hk : ∀ t ∈ xs, (t.num : Int) ≠ k) : Calls Try.prog 29 #[.pointer (some ⟨p, 0, none⟩), .int .i64 k] w fun e w' => e = .returned (.tuple #[.int .i64 0, .bool false]) ∧ w' = w := by
  obtain ⟨m, hm, hp⟩ := h.raw
  obtain ⟨n6, hm6⟩ := hm.map
  have hm3 : m k = none := hp.no k (fun j hj => hk _ (mem_gT hj))
  have hlk : (Instr.lookup 54 (.map (some M)) (.int .i64 k) true).run Try.prog w = .ok (.tuple #[.int .i64 0, .bool false]) w := by
    have := MapIs.lookup (t := 54) (e := 3) hm6 (int_keys Try.underlying3) Try.underlying54 (zeroIntE _) k true
    rw [hm3] at this
    exact this
  have b2 := hm.blk.cell 2
  simp only [List.getElem?_cons_succ, List.getElem?_cons_zero] at b2
  clear h hm hp hm6 hm3 hk
  go_enter Try.func29, Try.ntmps29
  go_wp2_with fail
  go_ret2
  exact ⟨rfl, rfl⟩
set_option maxRecDepth 20000 in
theorem find1I (w : World) (p : Nat) (v : Value) (M : Nat) (xs : List Th) (nx : Nat) (h : HStI w p v M xs nx) (k : Int) (j : Nat) (hj : j < xs.length) (hk : ((gT xs j).num : Int) = k) : Calls Try.prog 29 #[.pointer (some ⟨p, 0, none⟩), .int .i64 k] w fun e w' => e = .returned (.tuple #[.int .i64 (j : Int), .bool true]) ∧ w' = w := by
  obtain ⟨m, hm, hp⟩ := h.raw
  obtain ⟨n6, hm6⟩ := hm.map
  have hm3 : m k = some (.int .i64 (j : Int)) := by rw [← hk]; exact hp.is j hj
  have hlk : (Instr.lookup 54 (.map (some M)) (.int .i64 k) true).run Try.prog w = .ok (.tuple #[.int .i64 (j : Int), .bool true]) w := by
    have := MapIs.lookup (t := 54) (e := 3) hm6 (int_keys Try.underlying3) Try.underlying54 (zeroIntE _) k true
    rw [hm3] at this
    exact this
  have b2 := hm.blk.cell 2
  simp only [List.getElem?_cons_succ, List.getElem?_cons_zero] at b2
  clear h hm hp hm6 hm3 hk
  go_enter Try.func29, Try.ntmps29
  go_wp2_with fail
  go_ret2
  exact ⟨rfl, rfl⟩
end Go.Proofs.Ytoihhckiacmfcaa
