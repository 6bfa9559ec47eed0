/- DiskFuse: the law's change. -/
import Derived.Test.YtoljnklceghcdaaDkFuseP
namespace Go.Proofs.Ytoljnklceghcdaa
open Go.RowKit Go.Maps Go.Sort Go.Shelf
variable {Xs : Nat → Prop}

set_option maxRecDepth 20000 in
set_option maxHeartbeats 1000000 in
theorem change0 (w : World) (d F N : Nat) (s : Dk) (h : s.Is Xs w d F N) (hxs : ∀ g, Xs g → g < w.heap.size) (k k2 : ByteArray) (A : Option Addr) (m c : Nat) (lb : List UInt8) (hs : Bs w A m lb) (hc : m ≤ c) (hL : (pl s.p k).1.length + lb.length ≤ 100000000) (num : Int) (kA : Option Addr) (kn kc : Nat) :
    Calls Try.prog 17 #[.pointer (some ⟨d, 0, none⟩), .agg #[.int .u8 0, .string k, .string k2, .slice A m c, .int .i64 num, .slice kA kn kc]] w fun e w' => e = .returned (.int .i64 (opC s 0 k)) ∧ (opS s 0 k k2 lb).Is Xs w' d F (N + 1) ∧ Turns (DSet d F) w w' := by
  have TW : Hid (Turns (fun _ => False) w (w.alloc (.cells #[.int .u8 0, .string k, .string k2, .slice A m c, .int .i64 num, .slice kA kn kc] 32))) := Lib.hid (.of_below (Below.new w (.cells #[.int .u8 0, .string k, .string k2, .slice A m c, .int .i64 num, .slice kA kn kc] 32)))
  have KW : Hid (Blk (w.alloc (.cells #[.int .u8 0, .string k, .string k2, .slice A m c, .int .i64 num, .slice kA kn kc] 32)) w.heap.size 32 [.int .u8 0, .string k, .string k2, .slice A m c, .int .i64 num, .slice kA kn kc]) := Lib.hid (Blk.new w 32 [.int .u8 0, .string k, .string k2, .slice A m c, .int .i64 num, .slice kA kn kc])
  have HD : Hid (s.Is Xs (w.alloc (.cells #[.int .u8 0, .string k, .string k2, .slice A m c, .int .i64 num, .slice kA kn kc] 32)) d F N) := Lib.hid (DS.bel h (Below.new w (.cells #[.int .u8 0, .string k, .string k2, .slice A m c, .int .i64 num, .slice kA kn kc] 32)))
  have HS : Hid (Bs (w.alloc (.cells #[.int .u8 0, .string k, .string k2, .slice A m c, .int .i64 num, .slice kA kn kc] 32)) A m lb) := Lib.hid (hs.below (Below.new w (.cells #[.int .u8 0, .string k, .string k2, .slice A m c, .int .i64 num, .slice kA kn kc] 32)))
  have HX : Hid (∀ g, Xs g → g < (w.alloc (.cells #[.int .u8 0, .string k, .string k2, .slice A m c, .int .i64 num, .slice kA kn kc] 32)).heap.size) := Lib.hid (fun g hg => by have := hxs g hg; simp; omega)
  clear h hs hxs
  go_enter Try.func17, Try.ntmps17
  go_upto_region 1 with (fail)
  generalize w.alloc (.cells #[.int .u8 0, .string k, .string k2, .slice A m c, .int .i64 num, .slice kA kn kc] 32) = W at *
  generalize w.heap.size = g at *
  have HC := Lib.hid (appendD W d F N s HD.out k A m c lb HS.out hc hL HX.out)
  have k0 := KW.out.cell 0
  have k1 := KW.out.cell 1
  have k2' := KW.out.cell 2
  have k3 := KW.out.cell 3
  simp only [List.getElem?_cons_succ, List.getElem?_cons_zero] at k0 k1 k2' k3
  go_wp2_with (go_at_call 10; refine HC.out.mono ?_; rintro e W2 ⟨rfl, h2, t2⟩; have H2 := Lib.hid h2; have T2 := Lib.hid t2; clear h2 t2)
  go_ret
  exact ⟨rfl, DS.wide H2.out (by omega), (TW.out.mono (T := DSet d F) (fun _ _ e => e.elim)).then T2.out⟩
set_option maxRecDepth 20000 in
set_option maxHeartbeats 1000000 in
theorem change1 (w : World) (d F N : Nat) (s : Dk) (h : s.Is Xs w d F N) (hxs : ∀ g, Xs g → g < w.heap.size) (k k2 : ByteArray) (A : Option Addr) (m c : Nat) (lb : List UInt8) (hs : Bs w A m lb) (hc : m ≤ c) (hL : (pl s.p k).1.length + lb.length ≤ 100000000) (num : Int) (kA : Option Addr) (kn kc : Nat) :
    Calls Try.prog 17 #[.pointer (some ⟨d, 0, none⟩), .agg #[.int .u8 1, .string k, .string k2, .slice A m c, .int .i64 num, .slice kA kn kc]] w fun e w' => e = .returned (.int .i64 (opC s 1 k)) ∧ (opS s 1 k k2 lb).Is Xs w' d F (N + 1) ∧ Turns (DSet d F) w w' := by
  have TW : Hid (Turns (fun _ => False) w (w.alloc (.cells #[.int .u8 1, .string k, .string k2, .slice A m c, .int .i64 num, .slice kA kn kc] 32))) := Lib.hid (.of_below (Below.new w (.cells #[.int .u8 1, .string k, .string k2, .slice A m c, .int .i64 num, .slice kA kn kc] 32)))
  have KW : Hid (Blk (w.alloc (.cells #[.int .u8 1, .string k, .string k2, .slice A m c, .int .i64 num, .slice kA kn kc] 32)) w.heap.size 32 [.int .u8 1, .string k, .string k2, .slice A m c, .int .i64 num, .slice kA kn kc]) := Lib.hid (Blk.new w 32 [.int .u8 1, .string k, .string k2, .slice A m c, .int .i64 num, .slice kA kn kc])
  have HD : Hid (s.Is Xs (w.alloc (.cells #[.int .u8 1, .string k, .string k2, .slice A m c, .int .i64 num, .slice kA kn kc] 32)) d F N) := Lib.hid (DS.bel h (Below.new w (.cells #[.int .u8 1, .string k, .string k2, .slice A m c, .int .i64 num, .slice kA kn kc] 32)))
  have HS : Hid (Bs (w.alloc (.cells #[.int .u8 1, .string k, .string k2, .slice A m c, .int .i64 num, .slice kA kn kc] 32)) A m lb) := Lib.hid (hs.below (Below.new w (.cells #[.int .u8 1, .string k, .string k2, .slice A m c, .int .i64 num, .slice kA kn kc] 32)))
  have HX : Hid (∀ g, Xs g → g < (w.alloc (.cells #[.int .u8 1, .string k, .string k2, .slice A m c, .int .i64 num, .slice kA kn kc] 32)).heap.size) := Lib.hid (fun g hg => by have := hxs g hg; simp; omega)
  clear h hs hxs
  go_enter Try.func17, Try.ntmps17
  go_upto_region 1 with (fail)
  generalize w.alloc (.cells #[.int .u8 1, .string k, .string k2, .slice A m c, .int .i64 num, .slice kA kn kc] 32) = W at *
  generalize w.heap.size = g at *
  have HC := Lib.hid (syncD W d F N s HD.out k)
  have k0 := KW.out.cell 0
  have k1 := KW.out.cell 1
  have k2' := KW.out.cell 2
  have k3 := KW.out.cell 3
  simp only [List.getElem?_cons_succ, List.getElem?_cons_zero] at k0 k1 k2' k3
  go_wp2_with (go_at_call 11; refine HC.out.mono ?_; rintro e W2 ⟨rfl, h2, t2⟩; have H2 := Lib.hid h2; have T2 := Lib.hid t2; clear h2 t2)
  go_ret
  exact ⟨rfl, DS.wide H2.out (by omega), (TW.out.mono (T := DSet d F) (fun _ _ e => e.elim)).then T2.out⟩
set_option maxRecDepth 20000 in
set_option maxHeartbeats 1000000 in
theorem change2 (w : World) (d F N : Nat) (s : Dk) (h : s.Is Xs w d F N) (hxs : ∀ g, Xs g → g < w.heap.size) (k k2 : ByteArray) (A : Option Addr) (m c : Nat) (lb : List UInt8) (hs : Bs w A m lb) (hc : m ≤ c) (hL : (pl s.p k).1.length + lb.length ≤ 100000000) (num : Int) (kA : Option Addr) (kn kc : Nat) :
    Calls Try.prog 17 #[.pointer (some ⟨d, 0, none⟩), .agg #[.int .u8 2, .string k, .string k2, .slice A m c, .int .i64 num, .slice kA kn kc]] w fun e w' => e = .returned (.int .i64 (opC s 2 k)) ∧ (opS s 2 k k2 lb).Is Xs w' d F (N + 1) ∧ Turns (DSet d F) w w' := by
  have TW : Hid (Turns (fun _ => False) w (w.alloc (.cells #[.int .u8 2, .string k, .string k2, .slice A m c, .int .i64 num, .slice kA kn kc] 32))) := Lib.hid (.of_below (Below.new w (.cells #[.int .u8 2, .string k, .string k2, .slice A m c, .int .i64 num, .slice kA kn kc] 32)))
  have KW : Hid (Blk (w.alloc (.cells #[.int .u8 2, .string k, .string k2, .slice A m c, .int .i64 num, .slice kA kn kc] 32)) w.heap.size 32 [.int .u8 2, .string k, .string k2, .slice A m c, .int .i64 num, .slice kA kn kc]) := Lib.hid (Blk.new w 32 [.int .u8 2, .string k, .string k2, .slice A m c, .int .i64 num, .slice kA kn kc])
  have HD : Hid (s.Is Xs (w.alloc (.cells #[.int .u8 2, .string k, .string k2, .slice A m c, .int .i64 num, .slice kA kn kc] 32)) d F N) := Lib.hid (DS.bel h (Below.new w (.cells #[.int .u8 2, .string k, .string k2, .slice A m c, .int .i64 num, .slice kA kn kc] 32)))
  have HS : Hid (Bs (w.alloc (.cells #[.int .u8 2, .string k, .string k2, .slice A m c, .int .i64 num, .slice kA kn kc] 32)) A m lb) := Lib.hid (hs.below (Below.new w (.cells #[.int .u8 2, .string k, .string k2, .slice A m c, .int .i64 num, .slice kA kn kc] 32)))
  have HX : Hid (∀ g, Xs g → g < (w.alloc (.cells #[.int .u8 2, .string k, .string k2, .slice A m c, .int .i64 num, .slice kA kn kc] 32)).heap.size) := Lib.hid (fun g hg => by have := hxs g hg; simp; omega)
  clear h hs hxs
  go_enter Try.func17, Try.ntmps17
  go_upto_region 1 with (fail)
  generalize w.alloc (.cells #[.int .u8 2, .string k, .string k2, .slice A m c, .int .i64 num, .slice kA kn kc] 32) = W at *
  generalize w.heap.size = g at *
  have HC := Lib.hid (renameD W d F N s HD.out k k2)
  have k0 := KW.out.cell 0
  have k1 := KW.out.cell 1
  have k2' := KW.out.cell 2
  have k3 := KW.out.cell 3
  simp only [List.getElem?_cons_succ, List.getElem?_cons_zero] at k0 k1 k2' k3
  go_wp2_with (go_at_call 25; refine HC.out.mono ?_; rintro e W2 ⟨rfl, h2, t2⟩; have H2 := Lib.hid h2; have T2 := Lib.hid t2; clear h2 t2)
  go_ret
  exact ⟨rfl, DS.wide H2.out (by omega), (TW.out.mono (T := DSet d F) (fun _ _ e => e.elim)).then T2.out⟩
set_option maxRecDepth 20000 in
set_option maxHeartbeats 1000000 in
theorem change3 (w : World) (d F N : Nat) (s : Dk) (h : s.Is Xs w d F N) (hxs : ∀ g, Xs g → g < w.heap.size) (k k2 : ByteArray) (A : Option Addr) (m c : Nat) (lb : List UInt8) (hs : Bs w A m lb) (hc : m ≤ c) (hL : (pl s.p k).1.length + lb.length ≤ 100000000) (num : Int) (kA : Option Addr) (kn kc : Nat) :
    Calls Try.prog 17 #[.pointer (some ⟨d, 0, none⟩), .agg #[.int .u8 3, .string k, .string k2, .slice A m c, .int .i64 num, .slice kA kn kc]] w fun e w' => e = .returned (.int .i64 (opC s 3 k)) ∧ (opS s 3 k k2 lb).Is Xs w' d F (N + 1) ∧ Turns (DSet d F) w w' := by
  have TW : Hid (Turns (fun _ => False) w (w.alloc (.cells #[.int .u8 3, .string k, .string k2, .slice A m c, .int .i64 num, .slice kA kn kc] 32))) := Lib.hid (.of_below (Below.new w (.cells #[.int .u8 3, .string k, .string k2, .slice A m c, .int .i64 num, .slice kA kn kc] 32)))
  have KW : Hid (Blk (w.alloc (.cells #[.int .u8 3, .string k, .string k2, .slice A m c, .int .i64 num, .slice kA kn kc] 32)) w.heap.size 32 [.int .u8 3, .string k, .string k2, .slice A m c, .int .i64 num, .slice kA kn kc]) := Lib.hid (Blk.new w 32 [.int .u8 3, .string k, .string k2, .slice A m c, .int .i64 num, .slice kA kn kc])
  have HD : Hid (s.Is Xs (w.alloc (.cells #[.int .u8 3, .string k, .string k2, .slice A m c, .int .i64 num, .slice kA kn kc] 32)) d F N) := Lib.hid (DS.bel h (Below.new w (.cells #[.int .u8 3, .string k, .string k2, .slice A m c, .int .i64 num, .slice kA kn kc] 32)))
  have HS : Hid (Bs (w.alloc (.cells #[.int .u8 3, .string k, .string k2, .slice A m c, .int .i64 num, .slice kA kn kc] 32)) A m lb) := Lib.hid (hs.below (Below.new w (.cells #[.int .u8 3, .string k, .string k2, .slice A m c, .int .i64 num, .slice kA kn kc] 32)))
  have HX : Hid (∀ g, Xs g → g < (w.alloc (.cells #[.int .u8 3, .string k, .string k2, .slice A m c, .int .i64 num, .slice kA kn kc] 32)).heap.size) := Lib.hid (fun g hg => by have := hxs g hg; simp; omega)
  clear h hs hxs
  go_enter Try.func17, Try.ntmps17
  go_upto_region 1 with (fail)
  generalize w.alloc (.cells #[.int .u8 3, .string k, .string k2, .slice A m c, .int .i64 num, .slice kA kn kc] 32) = W at *
  generalize w.heap.size = g at *
  have HC := Lib.hid (removeD W d F N s HD.out k)
  have k0 := KW.out.cell 0
  have k1 := KW.out.cell 1
  have k2' := KW.out.cell 2
  have k3 := KW.out.cell 3
  simp only [List.getElem?_cons_succ, List.getElem?_cons_zero] at k0 k1 k2' k3
  go_wp2_with (go_at_call 22; refine HC.out.mono ?_; rintro e W2 ⟨rfl, h2, t2⟩; have H2 := Lib.hid h2; have T2 := Lib.hid t2; clear h2 t2)
  go_ret
  exact ⟨rfl, DS.wide H2.out (by omega), (TW.out.mono (T := DSet d F) (fun _ _ e => e.elim)).then T2.out⟩
theorem changeL (w : World) (d F N : Nat) (s : Dk) (h : s.Is Xs w d F N) (hxs : ∀ g, Xs g → g < w.heap.size) (op : Nat) (hop : op ≤ 3) (k k2 : ByteArray) (A : Option Addr) (m c : Nat) (lb : List UInt8) (hs : Bs w A m lb) (hc : m ≤ c) (hL : (pl s.p k).1.length + lb.length ≤ 100000000) (num : Int) (kA : Option Addr) (kn kc : Nat) :
    Calls Try.prog 17 #[.pointer (some ⟨d, 0, none⟩), .agg #[.int .u8 (op : Int), .string k, .string k2, .slice A m c, .int .i64 num, .slice kA kn kc]] w fun e w' => e = .returned (.int .i64 (opC s op k)) ∧ (opS s op k k2 lb).Is Xs w' d F (N + 1) ∧ Turns (DSet d F) w w' := by
  have h4 : op = 0 ∨ op = 1 ∨ op = 2 ∨ op = 3 := by omega
  rcases h4 with rfl | rfl | rfl | rfl
  · exact change0 w d F N s h hxs k k2 A m c lb hs hc hL num kA kn kc
  · exact change1 w d F N s h hxs k k2 A m c lb hs hc hL num kA kn kc
  · exact change2 w d F N s h hxs k k2 A m c lb hs hc hL num kA kn kc
  · exact change3 w d F N s h hxs k k2 A m c lb hs hc hL num kA kn kc
end Go.Proofs.Ytoljnklceghcdaa
