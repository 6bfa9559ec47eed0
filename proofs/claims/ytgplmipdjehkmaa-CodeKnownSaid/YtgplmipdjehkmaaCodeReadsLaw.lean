/- CodeReads: the walk. -/
import Derived.Test.YtgplmipdjehkmaaCodeRefNum
import Derived.Test.YtgplmipdjehkmaaCodeDoorNum
import Derived.Test.YtgplmipdjehkmaaCodeAwake
namespace Go.Proofs.Ytgplmipdjehkmaa
open Go.RowKit

theorem long_any (A : Option Addr) (n c : Nat) (w : World) : Calls Try.prog 32 #[.slice A n c] w fun e w' => e = .returned (.bool (decide (20000 < (n : Int)))) ∧ w = w' := by
  go_enter Try.func32, Try.ntmps32
  go_wp2_with fail
  go_ret
  exact ⟨rfl, rfl⟩

/-- three results of one reading and of the document's: the same -/
def Trip {α : Type} (val : α → Value) (zero : Value) (res : Except (Nat × Nat) (α × Nat)) : Value :=
  match res with
  | .ok (x, to) => .tuple #[val x, .int .i64 (to : Int), .int .i64 0]
  | .error (p, en) => .tuple #[zero, .int .i64 (p : Int), .int .i64 (en : Int)]
theorem Gets.trip {α : Type} {w : World} {val : α → Value} {zero : Value} {res : Except (Nat × Nat) (α × Nat)} {e : Ending} {w' : World} (h : Gets w val zero res e w') :
    e = .returned (Trip val zero res) ∧ Below w.heap.size w w' := by
  obtain ⟨h1, h2⟩ := h
  refine ⟨?_, h2⟩
  rcases res with ⟨p, en⟩ | ⟨x, to⟩ <;> exact h1
theorem Says.trip {α : Type} {val : α → Value} {zero : Value} {res : Except (Nat × Nat) (α × Nat)} {e : Ending} (h : Says val zero res e) : e = .returned (Trip val zero res) := by
  rcases res with ⟨p, en⟩ | ⟨x, to⟩ <;> exact h
/-- the three parts -/
theorem trip_parts {α : Type} (val : α → Value) (zero : Value) (res : Except (Nat × Nat) (α × Nat)) : ∃ (v : Value) (a e : Int), Trip val zero res = .tuple #[v, .int .i64 a, .int .i64 e] ∧ (v = zero ∨ ∃ x, v = val x) := by
  rcases res with ⟨p, en⟩ | ⟨x, to⟩
  · exact ⟨zero, p, en, rfl, .inl rfl⟩
  · exact ⟨val x, to, 0, rfl, .inr ⟨x, rfl⟩⟩
theorem trip_u64 (res : Except (Nat × Nat) (Nat × Nat)) : ∃ x a e : Int, Trip u64V (.int .u64 0) res = .tuple #[.int .u64 x, .int .i64 a, .int .i64 e] := by
  obtain ⟨v, a, e, h, rfl | ⟨x, rfl⟩⟩ := trip_parts u64V (.int .u64 0) res <;> exact ⟨_, a, e, h⟩
theorem trip_i64 (res : Except (Nat × Nat) (Int × Nat)) : ∃ x a e : Int, Trip i64V (.int .i64 0) res = .tuple #[.int .i64 x, .int .i64 a, .int .i64 e] := by
  obtain ⟨v, a, e, h, rfl | ⟨x, rfl⟩⟩ := trip_parts i64V (.int .i64 0) res <;> exact ⟨_, a, e, h⟩
theorem trip_str (res : Except (Nat × Nat) (List UInt8 × Nat)) : ∃ (x : ByteArray) (a e : Int), Trip strV (.string ⟨#[]⟩) res = .tuple #[.string x, .int .i64 a, .int .i64 e] := by
  obtain ⟨v, a, e, h, rfl | ⟨x, rfl⟩⟩ := trip_parts strV (.string ⟨#[]⟩) res <;> exact ⟨_, a, e, h⟩
theorem trip_num (res : Except (Nat × Nat) ((Nat × Nat) × Nat)) : ∃ (x y : Nat) (a e : Int), Trip numV (.complex .f64 0 0) res = .tuple #[.complex .f64 x y, .int .i64 a, .int .i64 e] := by
  obtain ⟨v, a, e, h, rfl | ⟨x, rfl⟩⟩ := trip_parts numV (.complex .f64 0 0) res <;> exact ⟨_, _, a, e, h⟩

theorem reads_long (A : Option Addr) (len cap : Nat) (w : World) (h : 20000 < (len : Int)) :
    Calls Try.prog 6 #[.slice A len cap] w fun e w' => e = .returned (.bool true) ∧ Below w.heap.size w w' := by
  have hd : decide (20000 < (len : Int)) = true := decide_eq_true h
  have HD := Lib.hid hd
  clear hd h
  go_enter Try.func6, Try.ntmps6
  go_wp2_with fail
  refine (awake_any _).mono ?_
  rintro e w1 ⟨rfl, B1⟩
  go_wp2_with fail
  refine (long_any _ _ _ _).mono ?_
  rintro e w2 ⟨rfl, rfl⟩
  rw [HD.out]
  go_wp2_with fail
  go_ret
  exact ⟨rfl, B1⟩

theorem mono_below' {w w1 w2 : World} (h : Below w.heap.size w w1) (k : Below w1.heap.size w1 w2) : Below w.heap.size w w2 := h.trans (k.mono h.size)

set_option maxRecDepth 20000 in
set_option maxHeartbeats 1600000 in
theorem reads_short (A : Option Addr) (len cap : Nat) (l : List UInt8) (w : World) (hin : In w A len cap l) (h : len ≤ 20000) :
    Calls Try.prog 6 #[.slice A len cap] w fun e w' => e = .returned (.bool true) ∧ Below w.heap.size w w' := by
  have hd : decide (20000 < (len : Int)) = false := decide_eq_false (by omega)
  have HD := Lib.hid hd
  have HL := Lib.hid (show l.length ≤ 1000000 by have := hin.bs.len; omega)
  have HC := Lib.hid (show l.length ≤ cap from hin.cap_le.1)
  clear hd h
  obtain ⟨x1, a1, e1, T1⟩ := trip_u64 (Cd.rdUint l 0)
  obtain ⟨x2, a2, e2, T2⟩ := trip_i64 (Cd.rdInt l 0)
  obtain ⟨x3, a3, e3, T3⟩ := trip_str (Cd.rdText l 0)
  obtain ⟨x4, y4, a4, e4, T4⟩ := trip_num (rdNum l 0)
  have H1 := Lib.hid T1
  have H2 := Lib.hid T2
  have H3 := Lib.hid T3
  have H4 := Lib.hid T4
  clear T1 T2 T3 T4
  go_enter Try.func6, Try.ntmps6
  go_wp2_with fail
  refine (awake_any _).mono ?_
  rintro e w1 ⟨rfl, B1⟩
  have i1 := hin.below B1
  clear hin
  go_wp2_with fail
  refine (long_any _ _ _ _).mono ?_
  rintro e w1 ⟨rfl, rfl⟩
  rw [HD.out]
  go_wp2_with fail
  refine (readUint_any _ _ _ _ l i1).mono ?_
  rintro e w2 hg
  obtain ⟨rfl, B2'⟩ := hg.trip
  rw [H1.out]
  have B2 := mono_below' B1 B2'
  have i2 := i1.below B2'
  clear hg B1 B2' i1
  go_wp2_with fail
  refine (refUint_any _ _ _ _ l 0 i2.bs (Nat.zero_le _) HL.out).mono ?_
  rintro e w2 ⟨hs, rfl⟩
  obtain rfl := hs.trip
  rw [H1.out]
  clear hs
  go_wp2_with fail
  refine (readInt_any _ _ _ _ l i2).mono ?_
  rintro e w3 hg
  obtain ⟨rfl, B3'⟩ := hg.trip
  rw [H2.out]
  have B3 := mono_below' B2 B3'
  have i3 := i2.below B3'
  clear hg B2 B3' i2
  go_wp2_with fail
  refine (refInt_any _ _ _ _ l 0 i3.bs (Nat.zero_le _) HL.out).mono ?_
  rintro e w3 ⟨hs, rfl⟩
  obtain rfl := hs.trip
  rw [H2.out]
  clear hs
  go_wp2_with fail
  refine (readText_any _ _ _ _ l i3).mono ?_
  rintro e w4 hg
  obtain ⟨rfl, B4'⟩ := hg.trip
  rw [H3.out]
  have B4 := mono_below' B3 B4'
  have i4 := i3.below B4'
  clear hg B3 B4' i3
  go_wp2_with fail
  refine (refText_any _ _ _ _ l 0 i4.bs HC.out (Nat.zero_le _) HL.out).mono ?_
  rintro e w4 ⟨hs, rfl⟩
  obtain rfl := hs.trip
  rw [H3.out]
  clear hs
  go_wp2_with fail
  refine (readNum_any _ _ _ _ l i4).mono ?_
  rintro e w5 hg
  obtain ⟨rfl, B5'⟩ := hg.trip
  rw [H4.out]
  have B5 := mono_below' B4 B5'
  have i5 := i4.below B5'
  clear hg B4 B5' i4
  go_wp2_with fail
  refine (refNum_any _ _ _ _ l 0 i5.bs (Nat.zero_le _) HL.out).mono ?_
  rintro e w5 ⟨hs, rfl⟩
  obtain rfl := hs.trip
  rw [H4.out]
  clear hs i5
  go_wp2_with fail
  refine (same_any _ _ _).mono ?_
  rintro e w5 ⟨rfl, rfl⟩
  go_wp2_with fail
  go_ret
  exact ⟨rfl, B5⟩
end Go.Proofs.Ytgplmipdjehkmaa
