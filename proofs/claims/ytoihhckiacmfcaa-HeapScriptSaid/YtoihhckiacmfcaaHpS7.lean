/- heap: Pop, find, Remove, Change at string (written by gen_heap3.py). -/
import Derived.Test.YtoihhckiacmfcaaHpS6
namespace Go.Proofs.Ytoihhckiacmfcaa
open Go.RowKit

set_option maxRecDepth 20000 in
set_option maxHeartbeats 800000 in
theorem pop0S (w : World) (p : Nat) (v : Value) (M : Nat) (nx : Nat) (h : HStS w p v M [] nx) : Calls Try.prog 27 #[.pointer (some ⟨p, 0, none⟩)] w fun e w' => e = .returned (.tuple #[.int .i64 0, .string ⟨#[]⟩, .int .i64 0, .bool false]) ∧ Below w.heap.size w w' := by
  have hq := Lib.hid (peek0S w p v M nx h)
  clear h
  go_enter Try.func27, Try.ntmps27
  go_wp2_with fail
  refine hq.out.mono ?_
  rintro e w1 ⟨rfl, hb⟩
  go_wp2_with fail
  exact bodyPost_ret (v := .tuple #[.int .i64 0, .string ⟨#[]⟩, .int .i64 0, .bool false]) (by simp [results, Try.results27, go_sem]) rfl ⟨rfl, hb⟩

set_option maxRecDepth 20000 in
set_option maxHeartbeats 800000 in
theorem pop1S (w : World) (p : Nat) (v : Value) (M : Nat) (xs : List Th) (nx : Nat) (h : HStS w p v M xs nx) (hn : 0 < xs.length) :
    Calls Try.prog 27 #[.pointer (some ⟨p, 0, none⟩)] w fun e w' => e = .returned (.tuple #[.int .i64 (gT xs 0).key, (gT xs 0).v 0, .int .i64 ((gT xs 0).num : Int), .bool true]) ∧ ∃ zs v', (gT xs 0 :: zs).Perm xs ∧ HStS w' p v' M zs nx ∧ v'.ownBlock = v.ownBlock ∧ Turns (HS p v M) w w' := by
  have hq := Lib.hid (peek1S w p v M xs nx h hn)
  have HH := Lib.hid h
  clear h
  have hx : gT xs 0 = gT xs 0 := rfl
  go_enter Try.func27, Try.ntmps27
  go_wp2_with fail
  refine hq.out.mono ?_
  rintro e w1 ⟨rfl, hb⟩
  go_wp2_with fail
  refine (dropS w1 p v M xs nx 0 (HH.out.bel hb) hn).mono ?_
  rintro e w2 ⟨rfl, zs, v', h1, h2, h3, h4⟩
  have h5 := Lib.hid h1
  have h6 := Lib.hid h2
  have h7 := Lib.hid h3
  have h8 := Lib.hid ((Turns.of_below (S := HS p v M) hb).then h4)
  clear h1 h2 h3 h4 hb hx
  go_wp2_with fail
  exact bodyPost_ret (v := .tuple #[.int .i64 (gT xs 0).key, (gT xs 0).v 0, .int .i64 ((gT xs 0).num : Int), .bool true]) (by simp [results, Try.results27, go_sem]) rfl ⟨rfl, zs, v', h5.out, h6.out, h7.out, h8.out⟩

end Go.Proofs.Ytoihhckiacmfcaa
