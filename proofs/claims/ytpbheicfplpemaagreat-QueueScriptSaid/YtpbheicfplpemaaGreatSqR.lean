/- SqR: texts of queue's claims, merged (a claim may hold few texts) -/
import Derived.Test.YtpbheicfplpemaaGreatQaA
import Derived.Test.YtpbheicfplpemaaGreatRqMem
import Derived.Test.YtpbheicfplpemaaGreatBsApp
import Derived.Test.YtpbheicfplpemaaGreatQuAny
import Derived.Test.YtpbheicfplpemaaGreatQuOpenP
import Derived.Test.YtpbheicfplpemaaGreatRqApp
import Derived.Deep.RegionHeld3
import Derived.Test.YtpbheicfplpemaaGreatQuNext
namespace Go.Proofs.YtpbheicfplpemaaGreat
open Go.RowKit

theorem results_C {P : Program} {fn : Func} {p : Tmp} {ty : TypeId} (h : fn.results = #[.cell p ty]) (tmps : Array Value) (w : World) (g : Nat) (t : TypeId) (cs : Array Value) (fr : Nat × Nat) (d : TypeDesc)
    (hp : tmps.getD p undef = .pointer (some ⟨g, 0, none⟩)) (hg : w.heap[g]? = some (.cells cs t fr))
    (hu : P.underlying ty = some d) (hd : (match d with | .struct _ | .array _ _ => true | _ => false) = true) (hi : (P.info? ty).map (·.size) = some cs.size) :
    (results fn tmps).run P w = .ok (.agg cs) w := by
  have hp' : tmps[p]?.getD undef = .pointer (some ⟨g, 0, none⟩) := by simpa using hp
  simp [results, h, hp', asAddr, run_loadVar_row w g t ty cs fr d hg hu hd hi]
def wdV (b : Bool) (hi lo : Int) : Value := .agg #[.bool b, .int .u64 hi, .int .u64 lo]
def WdY (w : World) (b : Bool) (hi lo : Int) (e : Ending) (w' : World) : Prop := e = .returned (wdV b hi lo) ∧ Below w.heap.size w w'
set_option maxRecDepth 20000 in
theorem rOfP (w : World) (a : Int) (h : 0 ≤ a ∧ a ≤ 9223372036854775807) : Calls Tryz.prog 105 #[.int .i64 a] w (WdY w false 0 a) := by
  have h1 : decide (a < 0) = false := decide_eq_false (by omega)
  have h2 : ¬ a < 0 := by omega
  have h3 : IntKind.u64.wrap a = a := by rw [IntKind.wrap_u64]; omega
  go_enter Tryz.func105, Tryz.ntmps105
  go_wp2_with fail
  refine bodyPost_ret (results_C (h := rfl) (g := w.heap.size) (t := 148) (cs := ([.bool false, .int .u64 0, .int .u64 a] : List Value).toArray) (fr := (0, 0)) (hp := rfl) (hg := Blk.new w _ _) (hu := Tryz.underlying148) (hd := rfl) (hi := by kernel_rfl) _ _) rfl ?_
  exact ⟨rfl, Below.new _ _⟩
set_option maxRecDepth 20000 in
theorem rOfN (w : World) (a : Int) (h : -9223372036854775808 ≤ a ∧ a < 0) : Calls Tryz.prog 105 #[.int .i64 a] w (WdY w true 0 (-a)) := by
  have h1 : decide (a < 0) = true := decide_eq_true (by omega)
  have h2 : a < 0 := by omega
  have h3 : IntKind.i64.wrap (a + 1) = a + 1 := by rw [IntKind.wrap_i64]; omega
  have h4 : IntKind.i64.wrap (-(a + 1)) = -(a + 1) := by rw [IntKind.wrap_i64]; omega
  have h4' : IntKind.i64.wrap (0 - (a + 1)) = -(a + 1) := by rw [IntKind.wrap_i64]; omega
  have h5 : IntKind.u64.wrap (-(a + 1)) = -(a + 1) := by rw [IntKind.wrap_u64]; omega
  have h6 : IntKind.u64.wrap (-(a + 1) + 1) = -a := by rw [IntKind.wrap_u64]; omega
  go_enter Tryz.func105, Tryz.ntmps105
  go_wp2_with fail
  refine bodyPost_ret (results_C (h := rfl) (g := w.heap.size) (t := 148) (cs := ([.bool true, .int .u64 0, .int .u64 (-a)] : List Value).toArray) (fr := (0, 0)) (hp := rfl) (hg := Blk.new w _ _) (hu := Tryz.underlying148) (hd := rfl) (hi := by kernel_rfl) _ _) rfl ?_
  exact ⟨rfl, Below.new _ _⟩
set_option maxRecDepth 20000 in
theorem rHeld (w : World) (b : Bool) (hi lo : Int) (hh : hi = 0 ∨ hi = 1) (hl : 0 ≤ lo ∧ lo < 18446744073709551616) : Calls Tryz.prog 103 #[wdV b hi lo] w fun e w' => e = .returned (.int .i64 (if b then (if hi = 1 ∨ 9223372036854775808 < lo then -9223372036854775808 else -lo) else (if hi = 1 ∨ 9223372036854775808 ≤ lo then 9223372036854775807 else lo))) ∧ Below w.heap.size w w' := by
  unfold wdV
  cases b with
  | true =>
    rcases hh with rfl | rfl
    · by_cases h1 : 9223372036854775808 < lo
      · have h2 : decide ((9223372036854775808 : Int) < lo) = true := decide_eq_true h1
        go_enter Tryz.func103, Tryz.ntmps103
        go_wp2_with fail
        go_ret
        exact ⟨by simp [h1], Below.new _ _⟩
      · have h2 : decide ((9223372036854775808 : Int) < lo) = false := decide_eq_false h1
        have h3 : IntKind.i64.wrap (IntKind.u64.wrap (-lo)) = -lo := by rw [IntKind.wrap_i64, IntKind.wrap_u64]; omega
        have h3' : IntKind.i64.wrap (IntKind.u64.wrap (0 - lo)) = -lo := by rw [IntKind.wrap_i64, IntKind.wrap_u64]; omega
        go_enter Tryz.func103, Tryz.ntmps103
        go_wp2_with fail
        go_ret
        exact ⟨by simp [h1, h3], Below.new _ _⟩
    · go_enter Tryz.func103, Tryz.ntmps103
      go_wp2_with fail
      go_ret
      exact ⟨by simp, Below.new _ _⟩
  | false =>
    rcases hh with rfl | rfl
    · by_cases h1 : 9223372036854775808 ≤ lo
      · have h2 : decide ((9223372036854775808 : Int) ≤ lo) = true := decide_eq_true h1
        go_enter Tryz.func103, Tryz.ntmps103
        go_wp2_with fail
        go_ret
        exact ⟨by simp [h1], Below.new _ _⟩
      · have h2 : decide ((9223372036854775808 : Int) ≤ lo) = false := decide_eq_false h1
        have h3 : IntKind.i64.wrap lo = lo := by rw [IntKind.wrap_i64]; omega
        go_enter Tryz.func103, Tryz.ntmps103
        go_wp2_with fail
        go_ret
        exact ⟨by simp [h1], Below.new _ _⟩
    · go_enter Tryz.func103, Tryz.ntmps103
      go_wp2_with fail
      go_ret
      exact ⟨by simp, Below.new _ _⟩
set_option maxRecDepth 20000 in
theorem rSumST (w : World) (x y : Int) (hx : 0 ≤ x ∧ x ≤ 9223372036854775808) (hy : 0 ≤ y ∧ y ≤ 9223372036854775808) (h : x + y < 18446744073709551616) : Calls Tryz.prog 104 #[wdV true 0 x, wdV true 0 y] w (WdY w true 0 (x + y)) := by
  have h1 : IntKind.u64.wrap (x + y) = x + y := by rw [IntKind.wrap_u64]; omega
  have h2 : decide (x + y < x) = false := decide_eq_false (by omega)
  have h3 : ¬ (x + y < x) := by omega
  unfold wdV
  go_enter Tryz.func104, Tryz.ntmps104
  go_wp2_with fail
  refine bodyPost_ret (results_C (h := rfl) (g := w.heap.size + 1 + 1) (t := 148) (cs := ([.bool true, .int .u64 0, .int .u64 (x + y)] : List Value).toArray) (fr := (0, 0)) (hp := rfl) (hg := Blk.new3 w _ _ _ _) (hu := Tryz.underlying148) (hd := rfl) (hi := by kernel_rfl) _ _) rfl ?_
  exact ⟨rfl, Below.new3 _ _ _ _⟩
set_option maxRecDepth 20000 in
theorem rSumDT (w : World) (x y : Int) (hx : 0 ≤ x ∧ x ≤ 9223372036854775808) (hy : 0 ≤ y ∧ y ≤ 9223372036854775808) (h : y ≤ x) : Calls Tryz.prog 104 #[wdV true 0 x, wdV false 0 y] w (WdY w true 0 (x - y)) := by
  have h1 : IntKind.u64.wrap (x - y) = x - y := by rw [IntKind.wrap_u64]; omega
  have h2 : decide (y ≤ x) = true := decide_eq_true h
  unfold wdV
  go_enter Tryz.func104, Tryz.ntmps104
  go_wp2_with fail
  refine bodyPost_ret (results_C (h := rfl) (g := w.heap.size + 1 + 1) (t := 148) (cs := ([.bool true, .int .u64 0, .int .u64 (x - y)] : List Value).toArray) (fr := (0, 0)) (hp := rfl) (hg := Blk.new3 w _ _ _ _) (hu := Tryz.underlying148) (hd := rfl) (hi := by kernel_rfl) _ _) rfl ?_
  exact ⟨rfl, Below.new3 _ _ _ _⟩
set_option maxRecDepth 20000 in
theorem rSumET (w : World) (x y : Int) (hx : 0 ≤ x ∧ x ≤ 9223372036854775808) (hy : 0 ≤ y ∧ y ≤ 9223372036854775808) (h : x < y) : Calls Tryz.prog 104 #[wdV true 0 x, wdV false 0 y] w (WdY w false 0 (y - x)) := by
  have h1 : IntKind.u64.wrap (y - x) = y - x := by rw [IntKind.wrap_u64]; omega
  have h2 : decide (y ≤ x) = false := decide_eq_false (by omega)
  unfold wdV
  go_enter Tryz.func104, Tryz.ntmps104
  go_wp2_with fail
  refine bodyPost_ret (results_C (h := rfl) (g := w.heap.size + 1 + 1) (t := 148) (cs := ([.bool false, .int .u64 0, .int .u64 (y - x)] : List Value).toArray) (fr := (0, 0)) (hp := rfl) (hg := Blk.new3 w _ _ _ _) (hu := Tryz.underlying148) (hd := rfl) (hi := by kernel_rfl) _ _) rfl ?_
  exact ⟨rfl, Below.new3 _ _ _ _⟩
set_option maxRecDepth 20000 in
theorem rSumSF (w : World) (x y : Int) (hx : 0 ≤ x ∧ x ≤ 9223372036854775808) (hy : 0 ≤ y ∧ y ≤ 9223372036854775808) (h : x + y < 18446744073709551616) : Calls Tryz.prog 104 #[wdV false 0 x, wdV false 0 y] w (WdY w false 0 (x + y)) := by
  have h1 : IntKind.u64.wrap (x + y) = x + y := by rw [IntKind.wrap_u64]; omega
  have h2 : decide (x + y < x) = false := decide_eq_false (by omega)
  have h3 : ¬ (x + y < x) := by omega
  unfold wdV
  go_enter Tryz.func104, Tryz.ntmps104
  go_wp2_with fail
  refine bodyPost_ret (results_C (h := rfl) (g := w.heap.size + 1 + 1) (t := 148) (cs := ([.bool false, .int .u64 0, .int .u64 (x + y)] : List Value).toArray) (fr := (0, 0)) (hp := rfl) (hg := Blk.new3 w _ _ _ _) (hu := Tryz.underlying148) (hd := rfl) (hi := by kernel_rfl) _ _) rfl ?_
  exact ⟨rfl, Below.new3 _ _ _ _⟩
set_option maxRecDepth 20000 in
theorem rSumDF (w : World) (x y : Int) (hx : 0 ≤ x ∧ x ≤ 9223372036854775808) (hy : 0 ≤ y ∧ y ≤ 9223372036854775808) (h : y ≤ x) : Calls Tryz.prog 104 #[wdV false 0 x, wdV true 0 y] w (WdY w false 0 (x - y)) := by
  have h1 : IntKind.u64.wrap (x - y) = x - y := by rw [IntKind.wrap_u64]; omega
  have h2 : decide (y ≤ x) = true := decide_eq_true h
  unfold wdV
  go_enter Tryz.func104, Tryz.ntmps104
  go_wp2_with fail
  refine bodyPost_ret (results_C (h := rfl) (g := w.heap.size + 1 + 1) (t := 148) (cs := ([.bool false, .int .u64 0, .int .u64 (x - y)] : List Value).toArray) (fr := (0, 0)) (hp := rfl) (hg := Blk.new3 w _ _ _ _) (hu := Tryz.underlying148) (hd := rfl) (hi := by kernel_rfl) _ _) rfl ?_
  exact ⟨rfl, Below.new3 _ _ _ _⟩
set_option maxRecDepth 20000 in
theorem rSumEF (w : World) (x y : Int) (hx : 0 ≤ x ∧ x ≤ 9223372036854775808) (hy : 0 ≤ y ∧ y ≤ 9223372036854775808) (h : x < y) : Calls Tryz.prog 104 #[wdV false 0 x, wdV true 0 y] w (WdY w true 0 (y - x)) := by
  have h1 : IntKind.u64.wrap (y - x) = y - x := by rw [IntKind.wrap_u64]; omega
  have h2 : decide (y ≤ x) = false := decide_eq_false (by omega)
  unfold wdV
  go_enter Tryz.func104, Tryz.ntmps104
  go_wp2_with fail
  refine bodyPost_ret (results_C (h := rfl) (g := w.heap.size + 1 + 1) (t := 148) (cs := ([.bool true, .int .u64 0, .int .u64 (y - x)] : List Value).toArray) (fr := (0, 0)) (hp := rfl) (hg := Blk.new3 w _ _ _ _) (hu := Tryz.underlying148) (hd := rfl) (hi := by kernel_rfl) _ _) rfl ?_
  exact ⟨rfl, Below.new3 _ _ _ _⟩
set_option maxRecDepth 20000 in
theorem rSumW (w : World) (x y : Int) (hx : 0 ≤ x ∧ x ≤ 9223372036854775808) (hy : 0 ≤ y ∧ y ≤ 9223372036854775808) (h : 18446744073709551616 ≤ x + y) : Calls Tryz.prog 104 #[wdV true 0 x, wdV true 0 y] w (WdY w true 1 (0)) := by
  have h1 : IntKind.u64.wrap (x + y) = 0 := by rw [IntKind.wrap_u64]; omega
  have h2 : decide ((0 : Int) < x) = true := decide_eq_true (by omega)
  have h3 : (0 : Int) < x := by omega
  unfold wdV
  go_enter Tryz.func104, Tryz.ntmps104
  go_wp2_with fail
  refine bodyPost_ret (results_C (h := rfl) (g := w.heap.size + 1 + 1) (t := 148) (cs := ([.bool true, .int .u64 1, .int .u64 (0)] : List Value).toArray) (fr := (0, 0)) (hp := rfl) (hg := Blk.new3 w _ _ _ _) (hu := Tryz.underlying148) (hd := rfl) (hi := by kernel_rfl) _ _) rfl ?_
  exact ⟨rfl, Below.new3 _ _ _ _⟩
def HeldI (b : Bool) (hi lo : Int) : Int := if b then (if hi = 1 ∨ 9223372036854775808 < lo then -9223372036854775808 else -lo) else (if hi = 1 ∨ 9223372036854775808 ≤ lo then 9223372036854775807 else lo)
/-- the three calls of Add -/
theorem rAdd3 (w : World) (a b : Int) (ba bb bs : Bool) (la lb hs ls : Int) (hA : Calls Tryz.prog 105 #[.int .i64 a] w (WdY w ba 0 la)) (hB : ∀ X, Calls Tryz.prog 105 #[.int .i64 b] X (WdY X bb 0 lb)) (hS : ∀ X, Calls Tryz.prog 104 #[wdV ba 0 la, wdV bb 0 lb] X (WdY X bs hs ls)) (hH : ∀ X, Calls Tryz.prog 103 #[wdV bs hs ls] X fun e w' => e = .returned (.int .i64 (addI a b)) ∧ Below X.heap.size X w') :
    Calls Tryz.prog 85 #[.int .i64 a, .int .i64 b] w fun e w' => e = .returned (.int .i64 (addI a b)) ∧ Below w.heap.size w w' := by
  have HA := Lib.hid hA
  have HB := Lib.hid hB
  have HS := Lib.hid hS
  have HH := Lib.hid hH
  clear hA hB hS hH
  go_enter Tryz.func85, Tryz.ntmps85
  go_wp2_with fail
  refine HA.out.mono ?_
  rintro e w1 ⟨rfl, h1⟩
  have K1 := Lib.hid h1
  clear h1 HA
  have HBX := Lib.hid (HB.out w1)
  clear HB
  go_wp2_with fail
  refine HBX.out.mono ?_
  rintro e w2 ⟨rfl, h1⟩
  have K2 := Lib.hid (below_trans' K1.out h1)
  clear h1 HBX
  have HSX := Lib.hid (HS.out w2)
  clear HS
  unfold wdV at HSX ⊢
  go_wp2_with fail
  refine HSX.out.mono ?_
  rintro e w3 ⟨rfl, h1⟩
  have K3 := Lib.hid (below_trans' K2.out h1)
  clear h1 HSX
  have HHX := Lib.hid (HH.out w3)
  clear HH
  unfold wdV at HHX ⊢
  go_wp2_with fail
  refine HHX.out.mono ?_
  rintro e w4 ⟨rfl, h1⟩
  have K4 := Lib.hid (below_trans' K3.out h1)
  clear h1 HHX
  go_wp2_with fail
  go_ret
  exact ⟨rfl, K4.out⟩
theorem rAdd (w : World) (a b : Int) (ha : -9223372036854775808 ≤ a ∧ a ≤ 9223372036854775807) (hb : -9223372036854775808 ≤ b ∧ b ≤ 9223372036854775807) :
    Calls Tryz.prog 85 #[.int .i64 a, .int .i64 b] w fun e w' => e = .returned (.int .i64 (addI a b)) ∧ Below w.heap.size w w' := by
  by_cases a0 : a < 0
  · by_cases b0 : b < 0
    · by_cases ho : 18446744073709551616 ≤ -a + -b
      · refine rAdd3 w a b true true true (-a) (-b) 1 0 (rOfN w a (by omega)) (fun X => rOfN X b (by omega)) (fun X => rSumW X (-a) (-b) (by omega) (by omega) ho) (fun X => (rHeld X true 1 0 (.inr rfl) (by omega)).mono fun e w' ⟨he, hb⟩ => ⟨by rw [he]; simp; unfold addI; (repeat' split) <;> omega, hb⟩)
      · refine rAdd3 w a b true true true (-a) (-b) 0 (-a + -b) (rOfN w a (by omega)) (fun X => rOfN X b (by omega)) (fun X => rSumST X (-a) (-b) (by omega) (by omega) (by omega)) (fun X => (rHeld X true 0 (-a + -b) (.inl rfl) (by omega)).mono fun e w' ⟨he, hb⟩ => ⟨by rw [he]; simp; unfold addI; (repeat' split) <;> omega, hb⟩)
    · by_cases hc : b ≤ -a
      · refine rAdd3 w a b true false true (-a) b 0 (-a - b) (rOfN w a (by omega)) (fun X => rOfP X b (by omega)) (fun X => rSumDT X (-a) b (by omega) (by omega) hc) (fun X => (rHeld X true 0 (-a - b) (.inl rfl) (by omega)).mono fun e w' ⟨he, hb⟩ => ⟨by rw [he]; simp; unfold addI; (repeat' split) <;> omega, hb⟩)
      · refine rAdd3 w a b true false false (-a) b 0 (b - -a) (rOfN w a (by omega)) (fun X => rOfP X b (by omega)) (fun X => rSumET X (-a) b (by omega) (by omega) (by omega)) (fun X => (rHeld X false 0 (b - -a) (.inl rfl) (by omega)).mono fun e w' ⟨he, hb⟩ => ⟨by rw [he]; simp; unfold addI; (repeat' split) <;> omega, hb⟩)
  · by_cases b0 : b < 0
    · by_cases hc : -b ≤ a
      · refine rAdd3 w a b false true false a (-b) 0 (a - -b) (rOfP w a (by omega)) (fun X => rOfN X b (by omega)) (fun X => rSumDF X a (-b) (by omega) (by omega) hc) (fun X => (rHeld X false 0 (a - -b) (.inl rfl) (by omega)).mono fun e w' ⟨he, hb⟩ => ⟨by rw [he]; simp; unfold addI; (repeat' split) <;> omega, hb⟩)
      · refine rAdd3 w a b false true true a (-b) 0 (-b - a) (rOfP w a (by omega)) (fun X => rOfN X b (by omega)) (fun X => rSumEF X a (-b) (by omega) (by omega) (by omega)) (fun X => (rHeld X true 0 (-b - a) (.inl rfl) (by omega)).mono fun e w' ⟨he, hb⟩ => ⟨by rw [he]; simp; unfold addI; (repeat' split) <;> omega, hb⟩)
    · refine rAdd3 w a b false false false a b 0 (a + b) (rOfP w a (by omega)) (fun X => rOfP X b (by omega)) (fun X => rSumSF X a b (by omega) (by omega) (by omega)) (fun X => (rHeld X false 0 (a + b) (.inl rfl) (by omega)).mono fun e w' ⟨he, hb⟩ => ⟨by rw [he]; simp; unfold addI; (repeat' split) <;> omega, hb⟩)
end Go.Proofs.YtpbheicfplpemaaGreat

namespace Go.Proofs.YtpbheicfplpemaaGreat
open Go.RowKit

theorem otC_one : ∀ (L : List Ot), ∀ u ∈ L.flatMap otC, u.oneCell' = true := fun L u hu => by
  obtain ⟨x, _, hx⟩ := List.mem_flatMap.1 hu
  simp [otC] at hx
  rcases hx with rfl | rfl | rfl | rfl | rfl | rfl | rfl <;> rfl
/-- a row of timers that can be read, at whatever place -/
def Oms (w : World) (A : Option Addr) (L : List Ot) : Prop :=
  ∀ k (hk : k < L.length), ∃ g o, A = some ⟨g, o, none⟩ ∧ g < w.heap.size ∧ ∀ j, j < 7 → w.cell? ⟨g, o + k * 7 + j, none⟩ = (otC L[k])[j]?
theorem addr_inj {g o g' o' : Nat} (e : some (⟨g, o, none⟩ : Addr) = some ⟨g', o', none⟩) : g = g' ∧ o = o' :=
  ⟨congrArg Addr.block (Option.some.inj e), congrArg Addr.off (Option.some.inj e)⟩
theorem addr_add (g o j : Nat) : (⟨g, o, none⟩ : Addr).add j = ⟨g, o + j, none⟩ := by unfold Addr.add; split <;> simp_all
def blkOf (A : Option Addr) (i : Nat) : Prop := ∃ x, A = some x ∧ x.block = i
theorem Oms.keep {w w' : World} {S : Nat → Prop} {A : Option Addr} {L : List Ot} (h : Oms w A L) (k : Turns S w w') (hS : ∀ i, blkOf A i → ¬ S i) : Oms w' A L := fun i hi => by
  obtain ⟨g, o, rfl, hx, hc⟩ := h i hi
  refine ⟨g, o, rfl, Nat.lt_of_lt_of_le hx k.size, fun j hj => ?_⟩
  rw [← hc j hj]
  exact k.cell (p := ⟨g, o + i * 7 + j, none⟩) hx (hS _ ⟨_, rfl, rfl⟩)
theorem Oms.nil (w : World) (A : Option Addr) : Oms w A [] := fun k hk => absurd hk (Nat.not_lt_zero _)
theorem Oms.of_own {w : World} {B n c : Nat} {A : Option Addr} {L : List Ot} (h : w.ownsRow B 64 7 (.slice A n c) n (L.flatMap otC)) (hn : L.length = n) : Oms w A L := fun k hk => by
  rcases h.2 with ⟨e, e2⟩ | ⟨g, cap', cur, e, _, hh, h5, _⟩
  · omega
  · injection e with eA _ ec
    subst eA ec
    refine ⟨g, 0, rfl, (Array.getElem?_eq_some_iff.1 hh).1, fun j hj => ?_⟩
    rw [Nat.zero_add, h.cellAt _ (by omega), flat_get otC 7 otC_len L k j hj, List.getElem?_eq_getElem hk]
    rfl
theorem Oms.drop {w : World} {g o : Nat} {L : List Ot} (h : Oms w (some ⟨g, o, none⟩) L) (n : Nat) : Oms w (some ⟨g, o + n * 7, none⟩) (L.drop n) := fun k hk => by
  rw [List.length_drop] at hk
  obtain ⟨g', o', e, hy, hc⟩ := h (n + k) (by omega)
  obtain ⟨rfl, rfl⟩ := addr_inj e
  refine ⟨_, _, rfl, hy, fun j hj => ?_⟩
  have e2 : o + n * 7 + k * 7 + j = o + (n + k) * 7 + j := by omega
  rw [e2, hc j hj, List.getElem_drop]
theorem Oms.take {w : World} {A : Option Addr} {L : List Ot} (h : Oms w A L) (n : Nat) : Oms w A (L.take n) := fun k hk => by
  rw [List.length_take] at hk
  obtain ⟨g, o, e, hy, hc⟩ := h k (by omega)
  exact ⟨g, o, e, hy, fun j hj => by rw [hc j hj, List.getElem_take]⟩
theorem append_rd (w : World) (H : Nat) (v : Value) (O D : List Ot) (hH : H ≤ w.heap.size) (ho : w.ownsRow H 64 7 v O.length (O.flatMap otC)) (B : Option Addr) (c : Nat) (hd : Oms w B D) (hL : O.length + D.length ≤ 100000) (ty : TypeId) :
    ∃ A' c' w', (Builtin.append_ #[38, 38] ty #[v, .slice B D.length c]).run Tryz.prog w = .ok (.slice A' (O ++ D).length c') w' ∧ w'.ownsRow H 64 7 (.slice A' (O ++ D).length c') (O ++ D).length ((O ++ D).flatMap otC) ∧ w.grownBy w' v.ownBlock ∧
      ((Value.slice A' (O ++ D).length c').ownBlock = v.ownBlock ∨ (Value.slice A' (O ++ D).length c').ownBlock = some w.heap.size) := by
  obtain ⟨i0, hi, hz0, hz1, hz2⟩ := info_parts info_rtask
  by_cases h0 : D = []
  · subst h0
    obtain ⟨A, cap, rfl⟩ := own_slice' ho
    have hsrc : Src Tryz.prog i0.size 38 (.slice B 0 c) 0 [] w := by
      cases B with
      | none => exact Src.ofNil w Tryz.underlying38 c
      | some a => exact Src.ofSlice w Tryz.underlying38 a 0 c [] (by simp) (by simp) (by simp)
    have hle : O.length ≤ cap := by
      rcases ho.2 with ⟨e, e2⟩ | ⟨g, cap', cur, e, _, _, h5, _⟩
      · omega
      · injection e with _ _ e; omega
    have hrun := run_append_nothing w 38 38 ty 64 i0 Tryz.underlying38 hi A O.length cap hle _ hsrc
    refine ⟨A, cap, w, by rw [List.append_nil]; exact hrun, by rw [List.append_nil]; exact ho, ⟨rfl, rfl, rfl, Nat.le_refl _, fun _ _ _ => rfl⟩, .inl (by rw [List.append_nil])⟩
  · have hlen : 0 < D.length := List.length_pos_iff.2 h0
    obtain ⟨g, o, rfl, hx, _⟩ := hd 0 hlen
    obtain ⟨v', w', hrun, r1, r2, _, r4⟩ := run_append_own_at (P := Tryz.prog) w H 38 ty 64 i0 (.agg #[.string ⟨#[]⟩, .string ⟨#[]⟩, .int .i64 0, .int .i64 0, .int .i64 0, .string ⟨#[]⟩, .int .i64 0]) 7 80 Tryz.underlying38 hi hz0 hz1 hz2 rfl (by decide) _ O.length (O.flatMap otC) ho ⟨g, o, none⟩ D.length c (D.flatMap otC) (flat_len otC 7 otC_len D)
      (fun j u hu => by
        have hj : j < D.length * 7 := by
          have := (List.getElem?_eq_some_iff.1 hu).1
          rw [flat_len otC 7 otC_len] at this; exact this
        have hk : j / 7 < D.length := by omega
        obtain ⟨g', o', e, _, hc⟩ := hd (j / 7) hk
        obtain ⟨rfl, rfl⟩ := addr_inj e
        have h1 := hc (j % 7) (by omega)
        have e3 : (⟨g, o, none⟩ : Addr).add j = ⟨g, o + j / 7 * 7 + j % 7, none⟩ := by rw [addr_add, show o + j / 7 * 7 + j % 7 = o + j from by omega]
        rw [e3, h1]
        have h2 := flat_get otC 7 otC_len D (j / 7) (j % 7) (by omega)
        rw [show j / 7 * 7 + j % 7 = j from by omega, List.getElem?_eq_getElem hk] at h2
        rw [← hu, h2]
        rfl)
      (fun u hu => otC_one D u hu) (by unfold maxLen; omega) (by omega) hH
    rw [← List.flatMap_append] at r1
    obtain ⟨A', c', rfl⟩ := own_slice' r1
    have e : O.length + D.length = (O ++ D).length := by rw [List.length_append]
    rw [e] at r1 r4 hrun
    exact ⟨A', c', w', hrun, r1, r2, r4⟩
theorem append_rdm (w : World) (H : Nat) (v : Value) (O D : List Ot) (o1 m t : Nat) (h1 : O.length = o1) (hm : D.length = m) (ht : o1 + m = t) (hH : H ≤ w.heap.size) (ho : w.ownsRow H 64 7 v o1 (O.flatMap otC)) (B : Option Addr) (c : Nat) (hd : Oms w B D) (hL : t ≤ 100000) (ty : TypeId) :
    ∃ A' c' w', (Builtin.append_ #[38, 38] ty #[v, .slice B m c]).run Tryz.prog w = .ok (.slice A' t c') w' ∧ w'.ownsRow H 64 7 (.slice A' t c') t ((O ++ D).flatMap otC) ∧ w.grownBy w' v.ownBlock := by
  subst h1 hm ht
  obtain ⟨A', c', w', hrun, r1, r2, _⟩ := append_rd w H v O D hH ho B c hd (by omega) ty
  rw [List.length_append] at r1 hrun
  exact ⟨A', c', w', hrun, r1, r2⟩
theorem Oms.below {w w' : World} {A : Option Addr} {L : List Ot} (h : Oms w A L) (k : Below w.heap.size w w') : Oms w' A L := h.keep (.of_below (S := fun _ => False) k) (fun _ _ => id)
/-- the tail of a row that can be read -/
theorem Oms.tail {w : World} {A A2 : Option Addr} {c n : Nat} {L : List Ot} (h : Oms w A L) (hn : L.length ≤ c) (e : (if c = n then A else Option.map (fun y => y.add (n * 7)) A) = A2) : Oms w A2 (L.drop n) := by
  subst e
  by_cases hc : c = n
  · have : L.drop n = [] := List.drop_eq_nil_of_le (by omega)
    rw [this]
    exact Oms.nil _ _
  · rw [if_neg hc]
    cases A with
    | none =>
      cases L with
      | nil => simp; exact Oms.nil _ _
      | cons y ys => obtain ⟨_, _, e, _⟩ := h 0 (by simp); cases e
    | some x =>
      cases L with
      | nil => simp; exact Oms.nil _ _
      | cons y ys =>
        obtain ⟨g, o, e, _⟩ := h 0 (by simp)
        injection e with e
        subst e
        have := h.drop n
        rwa [← addr_add] at this


set_option maxRecDepth 20000 in
set_option maxHeartbeats 4000000 in
theorem rqWithout (w : World) (v : Value) (L : List Ot) (h : w.ownsRow 0 64 7 v L.length (L.flatMap otC)) (hfew : L.length ≤ 100000) (n : Nat) (hn : n < L.length) :
    Calls Tryz.prog 84 #[v, .int .i64 (n : Int)] w fun e w' => ∃ v', e = .returned v' ∧ w'.ownsRow w.heap.size 64 7 v' (L.length - 1) ((L.eraseIdx n).flatMap otC) ∧ Below w.heap.size w w' := by
  obtain ⟨g, c, rfl, hvb, hgl, hcap, hmx⟩ := own_at h (by omega)
  have hrow := Oms.of_own h rfl
  unfold maxLen at hmx
  obtain ⟨A1, c1, w1, hrun1, ho1, hg1⟩ := append_rdm w w.heap.size (.slice none 0 0) [] (L.take n) 0 n n rfl (by rw [List.length_take]; omega) (by omega) (Nat.le_refl _) (World.ownsRow_nil _ _ _ _) (some ⟨g, 0, none⟩) c (hrow.take n) (by omega) 38
  have B1 : Below w.heap.size w w1 := ⟨hg1.os, hg1.tape, hg1.output, hg1.size, fun i hi => hg1.block i hi (by intro e; cases e)⟩
  have hs1 := B1.size
  rw [List.nil_append] at ho1
  obtain ⟨A3, hA3⟩ : ∃ A3, (if c = n + 1 then some (⟨g, 0, none⟩ : Addr) else some ⟨g, (n + 1) * 7, none⟩) = A3 := ⟨_, rfl⟩
  have htail : Oms w1 A3 (L.drop (n + 1)) := (hrow.below B1).tail hcap (n := n + 1) (by rw [← hA3]; simp only [Option.map_some, addr_add, Nat.zero_add])
  obtain ⟨A4, c4, w4, hrun4, ho4, hg4⟩ := append_rdm w1 w.heap.size _ (L.take n) (L.drop (n + 1)) n (L.length - (n + 1)) (L.length - 1) (by rw [List.length_take]; omega) (by rw [List.length_drop]) (by omega) hs1 ho1 A3 (c - (n + 1)) htail (by omega) 38
  have B4 : Below w.heap.size w w4 := B1.grown hg4 B1.size (fun g e => (own_lt ho1 e).1)
  rw [← List.eraseIdx_eq_take_drop_succ] at ho4
  have HO := Lib.hid ho4
  have HB := Lib.hid B4
  have r1 := Lib.hid hrun1
  have r4 := Lib.hid hrun4
  have hnc : (n : Int) ≤ (c : Int) := by omega
  have hnl : (n : Int) + 1 ≤ (L.length : Int) := by omega
  have hnl2 : (n : Int) + 1 ≤ (c : Int) := by omega
  have hfe : (L.length : Int) ≤ 100000 := by omega
  clear hrun1 hrun4 ho1 ho4 hg1 hg4 B1 B4 htail h hrow hs1
  generalize L.length = m at *
  go_enter Tryz.func84, Tryz.ntmps84
  go_wp2_with (first | (at_builtin; refine wpl_append_run rfl _ _ 38 rfl _ _ rfl rfl _ _ r1.out ?_; clear r1) | (at_builtin; refine wpl_append_run rfl _ _ 38 rfl _ _ rfl rfl _ _ r4.out ?_))
  go_ret
  exact ⟨_, rfl, HO.out, HB.out⟩
end Go.Proofs.YtpbheicfplpemaaGreat

namespace Go.Proofs.YtpbheicfplpemaaGreat
open Go.RowKit

def idT (t : Tk) : Ot := ⟨t, 0, ⟨#[]⟩, 0⟩
theorem rdTk_ok {l : List UInt8} {a t1 t2 t3 t4 x4 : Nat} {x1 x2 : List UInt8} {x3 : Int} (h1 : Cd.rdText l a = .ok (x1, t1)) (h2 : Cd.rdText l t1 = .ok (x2, t2)) (h3 : Cd.rdInt l t2 = .ok (x3, t3)) (h : rdNum l t3 = .ok (x4, t4)) : rdTk l a = .ok (⟨⟨x1.toArray⟩, ⟨x2.toArray⟩, x3, (x4 : Int)⟩, t4) := by
  simp [rdTk, tk4, aft_ok h1, aft_ok h2, aft_ok h3, aft_ok h]
theorem rdOt_ok {l : List UInt8} {a t1 t2 t3 t4 t5 x2 x5 : Nat} {x1 x3 : List UInt8} {x4 : Int} (h1 : Cd.rdText l a = .ok (x1, t1)) (h2 : rdNum l t1 = .ok (x2, t2)) (h3 : Cd.rdText l t2 = .ok (x3, t3)) (h4 : Cd.rdInt l t3 = .ok (x4, t4)) (h : rdNum l t4 = .ok (x5, t5)) : rdOt l a = .ok (⟨⟨⟨x1.toArray⟩, ⟨#[]⟩, 0, (x5 : Int)⟩, (x2 : Int), ⟨x3.toArray⟩, x4⟩, t5) := by
  simp [rdOt, ot5, aft_ok h1, aft_ok h2, aft_ok h3, aft_ok h4, aft_ok h]
end Go.Proofs.YtpbheicfplpemaaGreat

namespace Go.Proofs.YtpbheicfplpemaaGreat
open Go.RowKit

/-- where a token stands -/
def findT (zs : List Ot) (k : Int) : Int := match zs.findIdx? (fun x => decide (x.token = k)) with | some i => (i : Int) | none => -1
theorem findT_at {zs : List Ot} {k : Int} {n : Nat} (hn : n < zs.length) (h1 : ∀ j (hj : j < zs.length), j < n → zs[j].token ≠ k) (h2 : zs[n].token = k) : findT zs k = (n : Int) := by
  unfold findT
  have : zs.findIdx? (fun x => decide (x.token = k)) = some n := by
    rw [List.findIdx?_eq_some_iff_getElem]
    exact ⟨hn, by simp [h2], fun j hj => by simpa using h1 j (by omega) hj⟩
  rw [this]
theorem findT_no {zs : List Ot} {k : Int} (h : ∀ j (hj : j < zs.length), zs[j].token ≠ k) : findT zs k = -1 := by
  unfold findT
  have : zs.findIdx? (fun x => decide (x.token = k)) = none := by
    rw [List.findIdx?_eq_none_iff]
    intro x hx
    obtain ⟨j, hj, rfl⟩ := List.getElem_of_mem hx
    simpa using h j hj
  rw [this]
set_option maxRecDepth 20000 in
set_option maxHeartbeats 1600000 in
theorem rqToken (w : World) (r : Nat) (most grace last : Int) (iv av : Value) (I Z : List Ot) (h : RQ w r most grace last iv av I Z) (k : Int) :
    Calls Tryz.prog 86 #[.pointer (some ⟨r, 0, none⟩), .int .i64 k] w fun e w' => e = .returned (.int .i64 (findT Z k)) ∧ w' = w := by
  have H := Lib.hid h.away
  obtain ⟨A, c, rfl⟩ := own_slice' h.away
  obtain ⟨_, _, _, _, c4⟩ := h.cells
  have hf := h.few.2
  obtain ⟨n, hn⟩ : ∃ n, Z.length = n := ⟨_, rfl⟩
  have HN := Lib.hid hn
  rw [hn] at H hf c4
  clear h hn
  go_enter Tryz.func86, Tryz.ntmps86
  go_wp2_with fail
  go_loop [5] (fun i => ∃ j : Nat, j ≤ n ∧ i = .int .i64 (j : Int) ∧ Hid (∀ x (hx : x < Z.length), x < j → Z[x].token ≠ k)) (fun i => n + 1 - (intOf i).toNat)
  case atStart => exact ⟨0, Nat.zero_le _, rfl, Lib.hid (fun x hx h0 => by omega)⟩
  case round =>
    obtain ⟨j, hj, rfl, HJ⟩ := hrel
    by_cases hlt : j < n
    · have hlt1 : (j : Int) < (n : Int) := by omega
      have hjz : j < Z.length := by rw [HN.out]; exact hlt
      obtain ⟨g, c0, he, hvb, hg, hnc, hcm⟩ := own_at H.out (by omega)
      injection he with he1 he2 he3
      subst he1 he3
      have d0 := rq_cells H.out HN.out j hjz 4 (by omega)
      simp only [otC, List.getElem?_cons_succ, List.getElem?_cons_zero] at d0
      unfold maxLen at hcm
      by_cases ho : Z[j].token = k
      · have HR : Hid (findT Z k = (j : Int)) := Lib.hid (findT_at hjz HJ.out ho)
        rw [ho] at d0
        clear ho hjz
        go_wp2_with fail
        go_ret
        exact ⟨by rw [HR.out]; rfl, rfl⟩
      · have hq : (Z[j].token == k) = false := beq_eq_false_iff_ne.2 ho
        have HJ2 : Hid (∀ x (hx : x < Z.length), x < j + 1 → Z[x].token ≠ k) := Lib.hid (fun x hx h1 => by
          by_cases e : x = j
          · subst e; exact ho
          · exact HJ.out x hx (by omega))
        clear ho HJ
        generalize Z[j] = y at *
        clear hjz
        go_wp2_with fail
        go_round
        case rel => exact ⟨j + 1, hlt, by go_num, HJ2⟩
        case measure => simp [intOf]; omega
    · obtain rfl : j = n := by omega
      have hlt1 : ¬ (j : Int) < (j : Int) := by omega
      have HR : Hid (findT Z k = -1) := Lib.hid (findT_no fun x hx => HJ.out x hx (by have := HN.out; omega))
      clear hlt
      go_wp2_with fail
      go_ret
      exact ⟨by rw [HR.out]; rfl, rfl⟩
set_option maxRecDepth 20000 in
set_option maxHeartbeats 4000000 in
theorem rqPutT (w : World) (r : Nat) (most grace last : Int) (iv av : Value) (I Z : List Ot) (h : RQ w r most grace last iv av I Z) (key sticky : ByteArray) (ready : Int) (hk : (keyO I key || keyO Z key) = true) :
    Calls Tryz.prog 51 #[.pointer (some ⟨r, 0, none⟩), .string key, .string sticky, .int .i64 ready] w fun e w' => e = .returned (.int .i64 6) ∧ Below w.heap.size w w' := by
  have HJ := Lib.hid h
  obtain ⟨AI, cI, rfl⟩ := own_slice' h.idle
  obtain ⟨AZ, cZ, rfl⟩ := own_slice' h.away
  obtain ⟨_, _, _, c3, c4⟩ := h.cells
  have HF := Lib.hid (rqFind w _ I h.idle h.few.1 key)
  have HG := Lib.hid (rqFind w _ Z h.away h.few.2 key)
  have hki := findI_key (zs := I) (k := key)
  have hkz := findI_key (zs := Z) (k := key)
  generalize I.length = iL at *
  generalize Z.length = zL at *
  generalize findI I key = fi at *
  generalize findI Z key = fz at *
  have hor : 0 ≤ fi ∨ 0 ≤ fz := by
    cases h1 : keyO I key with
    | true => exact .inl (hki.1 h1).1
    | false =>
      rw [h1] at hk
      exact .inr (hkz.1 (by simpa using hk)).1
  clear hki hkz h hk
  by_cases hfi : 0 ≤ fi
  · have hf1 : decide ((0 : Int) ≤ fi) = true := decide_eq_true hfi
    go_enter Tryz.func51, Tryz.ntmps51
    go_wp2_with fail
    refine HF.out.mono ?_
    rintro e w' ⟨rfl, hw⟩
    subst w'
    go_wp2_with fail
    go_ret
    exact ⟨rfl, Below.refl _ _⟩
  · have hf1 : decide ((0 : Int) ≤ fi) = false := decide_eq_false hfi
    have hf2 : decide ((0 : Int) ≤ fz) = true := decide_eq_true (by omega)
    go_enter Tryz.func51, Tryz.ntmps51
    go_wp2_with fail
    refine HF.out.mono ?_
    rintro e w' ⟨rfl, hw⟩
    subst w'
    go_wp2_with fail
    refine HG.out.mono ?_
    rintro e w' ⟨rfl, hw⟩
    subst w'
    go_wp2_with fail
    go_ret
    exact ⟨rfl, Below.refl _ _⟩
end Go.Proofs.YtpbheicfplpemaaGreat

namespace Go.Proofs.YtpbheicfplpemaaGreat
open Go.RowKit

set_option maxRecDepth 20000 in
set_option maxHeartbeats 4000000 in
theorem rqFor (w : World) (r : Nat) (most grace last : Int) (iv av : Value) (I Z : List Ot) (h : RQ w r most grace last iv av I Z) (hg : -9223372036854775808 ≤ grace ∧ grace ≤ 9223372036854775807) (x : Ot) (hr : -9223372036854775808 ≤ x.tk.ready ∧ x.tk.ready ≤ 9223372036854775807) (who : ByteArray) (now : Int) :
    Calls Tryz.prog 83 #[.pointer (some ⟨r, 0, none⟩), otV x, .string who, .int .i64 now] w fun e w' => e = .returned (.bool (isForI grace who now x.tk)) ∧ Below w.heap.size w w' := by
  have H := Lib.hid h
  have hrl := h.blk.lt
  have HA := Lib.hid (fun X => rAdd X x.tk.ready grace hr hg)
  unfold otV
  clear h
  by_cases h1 : now < x.tk.ready
  · have q1 : decide (now < x.tk.ready) = true := decide_eq_true h1
    have HE : Hid (isForI grace who now x.tk = false) := Lib.hid (by unfold isForI; rw [decide_eq_false (by omega)]; rfl)
    go_enter Tryz.func83, Tryz.ntmps83
    go_wp2_with fail
    go_ret
    exact ⟨by rw [HE.out]; rfl, Below.new _ _⟩
  · have q1 : decide (now < x.tk.ready) = false := decide_eq_false h1
    have hle : x.tk.ready ≤ now := by omega
    have KB := Lib.hid (Blk.new w 64 [.string x.tk.key, .string x.tk.sticky, .int .i64 x.tk.ready, .int .i64 x.tk.att, .int .i64 x.token, .string x.worker, .int .i64 x.until_])
    have hB := Lib.hid (Below.new w (.cells #[.string x.tk.key, .string x.tk.sticky, .int .i64 x.tk.ready, .int .i64 x.tk.att, .int .i64 x.token, .string x.worker, .int .i64 x.until_] 64))
    have HR := Lib.hid (H.out.blk.bel hB.out)
    go_enter Tryz.func83, Tryz.ntmps83
    go_wp2_with fail
    generalize w.alloc (.cells #[.string x.tk.key, .string x.tk.sticky, .int .i64 x.tk.ready, .int .i64 x.tk.att, .int .i64 x.token, .string x.worker, .int .i64 x.until_] 64) = X at *
    have u1 := KB.out.cell 1
    have u2 := KB.out.cell 2
    have u3 := HR.out.cell 1
    simp only [List.getElem?_cons_succ, List.getElem?_cons_zero] at u1 u2 u3
    by_cases h2 : x.tk.sticky = ⟨#[]⟩
    · have e : isForI grace who now x.tk = true := by simp [isForI, hle, h2]
      go_quiet (fail)
      go_wp2_with fail
      go_ret
      exact ⟨by first | rfl | (rw [e]; rfl), below_drewN' hB.out _⟩
    · have q2 := empty_ne h2
      by_cases h3 : x.tk.sticky = who
      · have e : isForI grace who now x.tk = true := by simp [isForI, hle, h3]
        have q3 := (Lib.bytes_beq_iff x.tk.sticky who).2 h3
        clear h3
        go_quiet (fail)
        go_wp2_with fail
        go_ret
        exact ⟨by first | rfl | (rw [e]; rfl), below_drewN' hB.out _⟩
      · have q3 := (Lib.bytes_beq_false_iff x.tk.sticky who).2 h3
        have e : Hid (isForI grace who now x.tk = decide (addI x.tk.ready grace ≤ now)) := Lib.hid (by simp [isForI, hle, h2, h3])
        have hd := below_drewN' (Below.refl X.heap.size X) 1
        have f0 : X.drew.cell? ⟨w.heap.size, 1, none⟩ = some (.string x.tk.sticky) ∧ X.drew.cell? ⟨w.heap.size, 2, none⟩ = some (.int .i64 x.tk.ready) ∧ X.drew.cell? ⟨r, 1, none⟩ = some (.int .i64 grace) := ⟨u1, u2, u3⟩
        have HAX := Lib.hid (HA.out X.drew)
        have HK := Lib.hid (KB.out.bel hd)
        have HR2 := Lib.hid (HR.out.bel hd)
        have HB2 := Lib.hid (below_trans' hB.out hd)
        clear HA hd h2 h3 u1 u2 u3
        go_region_held3 (fun w' => w'.cell? ⟨w.heap.size, 1, none⟩ = some (.string x.tk.sticky) ∧ w'.cell? ⟨w.heap.size, 2, none⟩ = some (.int .i64 x.tk.ready) ∧ w'.cell? ⟨r, 1, none⟩ = some (.int .i64 grace)) (first | exact f0 | exact f1) (first | (go_at_call 85; refine HAX.out.mono ?_; clear HAX; rintro e' X2 ⟨rfl, hb2⟩; have f1 : X2.cell? ⟨w.heap.size, 1, none⟩ = some (.string x.tk.sticky) ∧ X2.cell? ⟨w.heap.size, 2, none⟩ = some (.int .i64 x.tk.ready) ∧ X2.cell? ⟨r, 1, none⟩ = some (.int .i64 grace) := ⟨(HK.out.bel hb2).cell 1, (HK.out.bel hb2).cell 2, (HR2.out.bel hb2).cell 1⟩; have HB3 := Lib.hid (below_trans' HB2.out hb2); clear hb2))
        all_goals
          go_wp2_with fail
          go_ret
          exact ⟨by first | rfl | (rw [e.out]; rfl), HB3.out⟩
end Go.Proofs.YtpbheicfplpemaaGreat

namespace Go.Proofs.YtpbheicfplpemaaGreat
open Go.RowKit

theorem own_lower {W : World} {base base' : Nat} {e : TypeId} {size : Nat} {v : Value} {k : Nat} {xs : List Value} (h : W.ownsRow base e size v k xs) (hb : base' ≤ base) : W.ownsRow base' e size v k xs := by
  refine ⟨h.1, ?_⟩
  rcases h.2 with hn | ⟨g, cap, cur, hv, hbg, rest⟩
  · exact .inl hn
  · exact .inr ⟨g, cap, cur, hv, Nat.le_trans hb hbg, rest⟩
section
variable {w : World} {r : Nat} {most grace last : Int} {iv av v : Value} {I Z I' : List Ot}
theorem RQ.set2 (h : RQ w r most grace last iv av I Z) (l : Int) : RQ (w.setCell ⟨r, 2, none⟩ (.int .i64 l)) r most grace l iv av I Z := by
  have T2 : Turns (fun i => i = r) w (w.setCell ⟨r, 2, none⟩ (.int .i64 l)) := Turns.of_set (S := fun i => i = r) w ⟨r, 2, none⟩ _ rfl
  have hb2 := h.blk.set 2 (.int .i64 l)
  simp only [List.set_cons_succ, List.set_cons_zero] at hb2
  exact ⟨hb2, own_turns h.idle T2 (fun g hg e => own_ne_blk h.idle hg h.blk (by decide) e), own_turns h.away T2 (fun g hg e => own_ne_blk h.away hg h.blk (by decide) e), h.apart, h.few⟩
theorem RQ.set3 (h : RQ w r most grace last iv av I Z) {B n : Nat} (ho : w.ownsRow B 64 7 v n (I'.flatMap otC)) (hn : I'.length = n) (hf : n ≤ 100000) (ha : ∀ g, av.ownBlock = some g → g < B) : RQ (w.setCell ⟨r, 3, none⟩ v) r most grace last v av I' Z := by
  subst hn
  have T2 : Turns (fun i => i = r) w (w.setCell ⟨r, 3, none⟩ v) := Turns.of_set (S := fun i => i = r) w ⟨r, 3, none⟩ _ rfl
  have hb2 := h.blk.set 3 v
  simp only [List.set_cons_succ, List.set_cons_zero] at hb2
  exact ⟨hb2, own_lower (own_turns ho T2 (fun g hg e => own_ne_blk ho hg h.blk (by decide) e)) (Nat.zero_le _), own_turns h.away T2 (fun g hg e => own_ne_blk h.away hg h.blk (by decide) e), fun g hg e => by have := (own_lt ho hg).1; have := ha g e; omega, hf, h.few.2⟩
theorem RQ.set4 (h : RQ w r most grace last iv av I Z) {B n : Nat} (ho : w.ownsRow B 64 7 v n (I'.flatMap otC)) (hn : I'.length = n) (hf : n ≤ 100000) (ha : ∀ g, iv.ownBlock = some g → g < B) : RQ (w.setCell ⟨r, 4, none⟩ v) r most grace last iv v I I' := by
  subst hn
  have T2 : Turns (fun i => i = r) w (w.setCell ⟨r, 4, none⟩ v) := Turns.of_set (S := fun i => i = r) w ⟨r, 4, none⟩ _ rfl
  have hb2 := h.blk.set 4 v
  simp only [List.set_cons_succ, List.set_cons_zero] at hb2
  exact ⟨hb2, own_turns h.idle T2 (fun g hg e => own_ne_blk h.idle hg h.blk (by decide) e), own_lower (own_turns ho T2 (fun g hg e => own_ne_blk ho hg h.blk (by decide) e)) (Nat.zero_le _), fun g hg e => by have := (own_lt ho e).1; have := ha g hg; omega, h.few.1, hf⟩
theorem RQ.far (h : RQ w r most grace last iv av I Z) (p : Addr) (u : Value) (hp : ∀ i, RQSet r iv av i → i ≠ p.block) : RQ (w.setCell p u) r most grace last iv av I Z :=
  h.keep (Turns.of_set (S := fun i => i = p.block) w p u rfl) (fun i hi e => hp i hi e)
end
/-- what belongs to the document's queue behind a change: what belonged to it, or what is new -/
def RNew (w : World) (r : Nat) (iv av iv' av' : Value) : Prop := ∀ i, RQSet r iv' av' i → RQSet r iv av i ∨ w.heap.size ≤ i
/-- a task is taken away from those that are out -/
def RCutY (w : World) (r : Nat) (most grace last : Int) (iv av : Value) (I Z' : List Ot) (v : Value) (e : Ending) (w' : World) : Prop :=
  e = .returned v ∧ ∃ av', RQ w' r most grace last iv av' I Z' ∧ RNew w r iv av iv av' ∧ Turns (RQSet r iv av) w w'
set_option maxRecDepth 20000 in
set_option maxHeartbeats 4000000 in
theorem rqDone1 (w : World) (r : Nat) (most grace last : Int) (iv av : Value) (I Z : List Ot) (h : RQ w r most grace last iv av I Z) (k : Int) (n : Nat) (hn : n < Z.length) (hk : findT Z k = (n : Int)) :
    Calls Tryz.prog 55 #[.pointer (some ⟨r, 0, none⟩), .int .i64 k] w (RCutY w r most grace last iv av I (Z.eraseIdx n) (.tuple #[.string Z[n].tk.key, .int .i64 Z[n].tk.att, .int .i64 0])) := by
  have H := Lib.hid h
  have HT := Lib.hid (rqToken w r most grace last iv av I Z h k)
  rw [hk] at HT
  obtain ⟨g, c, rfl, hvb, hgl, hnc, hcm⟩ := own_at h.away (by omega)
  obtain ⟨_, _, _, _, c4⟩ := h.cells
  have n1 := World.new_ne w _ c4
  have lx1 := World.block_lt_of_cell? w _ c4
  simp only at n1 lx1
  have hx := rq_cells h.away rfl n hn
  have d0 := hx 0 (by omega)
  have d1 := hx 1 (by omega)
  have d2 := hx 2 (by omega)
  have d3 := hx 3 (by omega)
  have d4 := hx 4 (by omega)
  have d5 := hx 5 (by omega)
  have d6 := hx 6 (by omega)
  have hfew := h.few.2
  have hn1 : (n : Int) < (Z.length : Int) := by omega
  have HN := Lib.hid hn
  have HEr : Hid ((Z.eraseIdx n).length = Z.length - 1) := Lib.hid (by rw [List.length_eraseIdx, if_pos hn])
  simp only [otC, List.getElem?_cons_succ, List.getElem?_cons_zero, Nat.add_zero] at d0 d1 d2 d3 d4 d5 d6
  unfold maxLen at hcm
  generalize Z[n] = y at *
  obtain ⟨zL, hzl⟩ : ∃ z, Z.length = z := ⟨_, rfl⟩
  have HW : Hid (∀ X, Below w.heap.size w X → Calls Tryz.prog 84 #[.slice (some ⟨g, 0, none⟩) Z.length c, .int .i64 (n : Int)] X fun e w' => ∃ v', e = .returned v' ∧ w'.ownsRow X.heap.size 64 7 v' (Z.length - 1) ((Z.eraseIdx n).flatMap otC) ∧ Below X.heap.size X w') := Lib.hid (fun X hX => rqWithout X _ Z (H.out.bel hX).away hfew n HN.out)
  have KX := Lib.hid (Blk.new w 64 [.string y.tk.key, .string y.tk.sticky, .int .i64 y.tk.ready, .int .i64 y.tk.att, .int .i64 y.token, .string y.worker, .int .i64 y.until_])
  have BX := Lib.hid (Below.new w (.cells #[.string y.tk.key, .string y.tk.sticky, .int .i64 y.tk.ready, .int .i64 y.tk.att, .int .i64 y.token, .string y.worker, .int .i64 y.until_] 64))
  rw [hzl] at c4 hnc hn1 hfew HW HEr
  have HZ := Lib.hid hzl
  clear h hx hk hzl hn
  go_enter Tryz.func55, Tryz.ntmps55
  go_wp2_with fail
  refine HT.out.mono ?_
  rintro e w' ⟨rfl, hw⟩
  subst w'
  go_wp2_with fail
  have HWX := Lib.hid (HW.out _ BX.out)
  have hbr : r ≠ w.heap.size := by omega
  have hbr2 : w.heap.size ≠ r := by omega
  refine HWX.out.mono ?_
  rintro e X2 ⟨v', rfl, ho, hb⟩
  obtain ⟨A', c', rfl⟩ := own_slice' ho
  have HO := Lib.hid ho
  have HB := Lib.hid (below_trans' BX.out hb)
  have HR := Lib.hid (H.out.bel HB.out)
  have HK := Lib.hid (KX.out.bel hb)
  have hs1 := BX.out.size
  have f4 := HR.out.blk.fz 4
  have m4 := HR.out.blk.cell 4
  have k0 := HK.out.cell 0
  have k3 := HK.out.cell 3
  simp only [List.getElem?_cons_succ, List.getElem?_cons_zero] at m4 k0 k3
  clear hb ho HWX HW n1 lx1 c4 d0 d1 d2 d3 d4 d5 d6
  have hq := HR.out.set4 (I' := Z.eraseIdx n) HO.out HEr.out (by omega) (fun g' hg' => by have := (own_lt H.out.idle hg').2; omega)
  have hT : Turns (RQSet r iv (.slice (some ⟨g, 0, none⟩) Z.length c)) w (X2.setCell ⟨r, 4, none⟩ (.slice A' (zL - 1) c')) := (Turns.of_below HB.out).then (Turns.of_set (S := RQSet r iv (.slice (some ⟨g, 0, none⟩) Z.length c)) X2 ⟨r, 4, none⟩ _ (.inl rfl))
  have HQ := Lib.hid hq
  have HTT := Lib.hid hT
  have HK2 := Lib.hid (HK.out.far (p := ⟨r, 4, none⟩) hbr2 (.slice A' (zL - 1) c'))
  clear hq hT
  go_wp2_with fail
  clear k0 k3 f4 m4
  generalize X2.setCell ⟨r, 4, none⟩ (.slice A' (zL - 1) c') = V at *
  have k0 := HK2.out.cell 0
  have k3 := HK2.out.cell 3
  simp only [List.getElem?_cons_succ, List.getElem?_cons_zero] at k0 k3
  go_quiet (fail)
  go_wp2_with fail
  go_ret3
  have hd := below_drewN' (Below.refl V.heap.size V) nq
  refine ⟨rfl, _, HQ.out.bel hd, fun i hi => ?_, HTT.out.then (Turns.of_below hd)⟩
  rcases hi with e | e | e
  · exact .inl (.inl e)
  · exact .inl (.inr (.inl e))
  · exact .inr (by have := (own_lt HO.out e).1; omega)
end Go.Proofs.YtpbheicfplpemaaGreat

namespace Go.Proofs.YtpbheicfplpemaaGreat
open Go.RowKit

set_option maxRecDepth 20000 in
set_option maxHeartbeats 4000000 in
theorem rqDone0 (w : World) (r : Nat) (most grace last : Int) (iv av : Value) (I Z : List Ot) (h : RQ w r most grace last iv av I Z) (k : Int) (hk : findT Z k = -1) :
    Calls Tryz.prog 55 #[.pointer (some ⟨r, 0, none⟩), .int .i64 k] w fun e w' => e = .returned (.tuple #[.string ⟨#[]⟩, .int .i64 0, .int .i64 5]) ∧ w' = w := by
  have HT := Lib.hid (rqToken w r most grace last iv av I Z h k)
  rw [hk] at HT
  clear h hk
  go_enter Tryz.func55, Tryz.ntmps55
  go_wp2_with fail
  refine HT.out.mono ?_
  rintro e w' ⟨rfl, hw⟩
  subst w'
  go_wp2_with fail
  go_ret3
  exact ⟨rfl, rfl⟩
def RDropY (w : World) (r : Nat) (most grace last : Int) (iv av : Value) (I' Z' : List Ot) (v : Value) (e : Ending) (w' : World) : Prop :=
  e = .returned v ∧ ∃ iv' av', RQ w' r most grace last iv' av' I' Z' ∧ RNew w r iv av iv' av' ∧ Turns (RQSet r iv av) w w'
theorem RNew.refl (w : World) (r : Nat) (iv av : Value) : RNew w r iv av iv av := fun _ h => .inl h
set_option maxRecDepth 20000 in
set_option maxHeartbeats 4000000 in
theorem rqDrop0 (w : World) (r : Nat) (most grace last : Int) (iv av : Value) (I Z : List Ot) (h : RQ w r most grace last iv av I Z) (k : ByteArray) (h1 : findI I k = -1) (h2 : findI Z k = -1) :
    Calls Tryz.prog 58 #[.pointer (some ⟨r, 0, none⟩), .string k] w (RDropY w r most grace last iv av I Z (.bool false)) := by
  have H := Lib.hid h
  have HF := Lib.hid (rqFind w _ I h.idle h.few.1 k)
  have HG := Lib.hid (rqFind w _ Z h.away h.few.2 k)
  rw [h1] at HF
  rw [h2] at HG
  obtain ⟨AI, cI, rfl⟩ := own_slice' h.idle
  obtain ⟨AZ, cZ, rfl⟩ := own_slice' h.away
  obtain ⟨_, _, _, c3, c4⟩ := h.cells
  clear h h1 h2
  generalize I.length = iL at *
  generalize Z.length = zL at *
  go_enter Tryz.func58, Tryz.ntmps58
  go_wp2_with fail
  refine HF.out.mono ?_
  rintro e w' ⟨rfl, hw⟩
  subst w'
  go_wp2_with fail
  refine HG.out.mono ?_
  rintro e w' ⟨rfl, hw⟩
  subst w'
  go_wp2_with fail
  go_ret
  exact ⟨rfl, _, _, H.out, RNew.refl _ _ _ _, Turns.refl _ _⟩
set_option maxRecDepth 20000 in
set_option maxHeartbeats 4000000 in
theorem rqDropI (w : World) (r : Nat) (most grace last : Int) (iv av : Value) (I Z : List Ot) (h : RQ w r most grace last iv av I Z) (k : ByteArray) (n : Nat) (hn : n < I.length) (h1 : findI I k = (n : Int)) :
    Calls Tryz.prog 58 #[.pointer (some ⟨r, 0, none⟩), .string k] w (RDropY w r most grace last iv av (I.eraseIdx n) Z (.bool true)) := by
  have H := Lib.hid h
  have HF := Lib.hid (rqFind w _ I h.idle h.few.1 k)
  rw [h1] at HF
  have HN := Lib.hid hn
  have hfew := h.few.1
  have HEr : Hid ((I.eraseIdx n).length = I.length - 1) := Lib.hid (by rw [List.length_eraseIdx, if_pos hn])
  obtain ⟨AI, cI, rfl⟩ := own_slice' h.idle
  obtain ⟨_, _, _, c3, c4⟩ := h.cells
  have HWX := Lib.hid (rqWithout w _ I h.idle hfew n hn)
  obtain ⟨iL, hil⟩ : ∃ z, I.length = z := ⟨_, rfl⟩
  have hge : ¬ (n : Int) < 0 := by omega
  rw [hil] at c3 HF HWX HEr hfew H ⊢
  have HIL := Lib.hid hil
  clear h h1 hil hn
  go_enter Tryz.func58, Tryz.ntmps58
  go_wp2_with fail
  refine HF.out.mono ?_
  rintro e w' ⟨rfl, hw⟩
  subst w'
  go_wp2_with fail
  refine HWX.out.mono ?_
  rintro e X2 ⟨v', rfl, ho, hb⟩
  obtain ⟨A', c', rfl⟩ := own_slice' ho
  have HO := Lib.hid ho
  have HB := Lib.hid hb
  have HR := Lib.hid (H.out.bel hb)
  have f4 := HR.out.blk.fz 3
  have m4 := HR.out.blk.cell 3
  simp only [List.getElem?_cons_succ, List.getElem?_cons_zero] at m4
  clear hb ho HWX c3 c4 HF
  go_wp2_with fail
  go_ret
  have hq := HR.out.set3 (I' := I.eraseIdx n) HO.out HEr.out (by omega) (fun g' hg' => (own_lt H.out.away hg').2)
  refine ⟨rfl, _, _, hq, fun i hi => ?_, (Turns.of_below HB.out).then (Turns.of_set (S := RQSet r (.slice AI iL cI) av) X2 ⟨r, 3, none⟩ _ (.inl rfl))⟩
  rcases hi with e | e | e
  · exact .inl (.inl e)
  · exact .inr (own_lt HO.out e).1
  · exact .inl (.inr (.inr e))
set_option maxRecDepth 20000 in
set_option maxHeartbeats 4000000 in
theorem rqDropZ (w : World) (r : Nat) (most grace last : Int) (iv av : Value) (I Z : List Ot) (h : RQ w r most grace last iv av I Z) (k : ByteArray) (n : Nat) (hn : n < Z.length) (h1 : findI I k = -1) (h2 : findI Z k = (n : Int)) :
    Calls Tryz.prog 58 #[.pointer (some ⟨r, 0, none⟩), .string k] w (RDropY w r most grace last iv av I (Z.eraseIdx n) (.bool true)) := by
  have H := Lib.hid h
  have HF := Lib.hid (rqFind w _ I h.idle h.few.1 k)
  have HG := Lib.hid (rqFind w _ Z h.away h.few.2 k)
  rw [h1] at HF
  rw [h2] at HG
  have HN := Lib.hid hn
  have hfew := h.few.2
  have HEr : Hid ((Z.eraseIdx n).length = Z.length - 1) := Lib.hid (by rw [List.length_eraseIdx, if_pos hn])
  obtain ⟨AI, cI, rfl⟩ := own_slice' h.idle
  obtain ⟨AZ, cZ, rfl⟩ := own_slice' h.away
  obtain ⟨_, _, _, c3, c4⟩ := h.cells
  have HWX := Lib.hid (rqWithout w _ Z h.away hfew n hn)
  obtain ⟨zL, hil⟩ : ∃ z, Z.length = z := ⟨_, rfl⟩
  have hge : ¬ (n : Int) < 0 := by omega
  have hge2 : (0 : Int) ≤ (n : Int) := by omega
  rw [hil] at c4 HG HWX HEr hfew H ⊢
  have HIL := Lib.hid hil
  clear h h1 h2 hil hn
  generalize I.length = iL at *
  go_enter Tryz.func58, Tryz.ntmps58
  go_wp2_with fail
  refine HF.out.mono ?_
  rintro e w' ⟨rfl, hw⟩
  subst w'
  go_wp2_with fail
  refine HG.out.mono ?_
  rintro e w' ⟨rfl, hw⟩
  subst w'
  go_wp2_with fail
  refine HWX.out.mono ?_
  rintro e X2 ⟨v', rfl, ho, hb⟩
  obtain ⟨A', c', rfl⟩ := own_slice' ho
  have HO := Lib.hid ho
  have HB := Lib.hid hb
  have HR := Lib.hid (H.out.bel hb)
  have f4 := HR.out.blk.fz 4
  have m4 := HR.out.blk.cell 4
  simp only [List.getElem?_cons_succ, List.getElem?_cons_zero] at m4
  clear hb ho HWX c3 c4 HF HG
  go_wp2_with fail
  go_ret
  have hq := HR.out.set4 (I' := Z.eraseIdx n) HO.out HEr.out (by omega) (fun g' hg' => (own_lt H.out.idle hg').2)
  refine ⟨rfl, _, _, hq, fun i hi => ?_, (Turns.of_below HB.out).then (Turns.of_set (S := RQSet r (.slice AI iL cI) (.slice AZ zL cZ)) X2 ⟨r, 4, none⟩ _ (.inl rfl))⟩
  rcases hi with e | e | e
  · exact .inl (.inl e)
  · exact .inl (.inr (.inl e))
  · exact .inr (own_lt HO.out e).1
end Go.Proofs.YtpbheicfplpemaaGreat

namespace Go.Proofs.YtpbheicfplpemaaGreat
open Go.RowKit

def RAddY (w : World) (r : Nat) (most grace last : Int) (iv av : Value) (I' Z' : List Ot) (v : Value) (e : Ending) (w' : World) : Prop :=
  e = .returned v ∧ ∃ iv' av', RQ w' r most grace last iv' av' I' Z' ∧ RNew w r iv av iv' av' ∧ Turns (RQSet r iv av) w w'
theorem new_idle {w : World} {r n ag cc : Nat} {A0 : Option Addr} {c0 : Nat} {av : Value} {V : World} (hV : w.heap.size ≤ V.heap.size) (hat : (Value.slice A0 n c0).ownBlock = some ag ∨ ag = V.heap.size + 1) : RNew w r (.slice A0 n c0) av (.slice (some ⟨ag, 0, none⟩) (n + 1) cc) av := fun i hi => by
  rcases hi with e | e | e
  · exact .inl (.inl e)
  · simp [Value.ownBlock] at e
    subst e
    rcases hat with e | e
    · exact .inl (.inr (.inl e))
    · exact .inr (by omega)
  · exact .inl (.inr (.inr e))
set_option maxRecDepth 20000 in
theorem rqPutF (w : World) (r : Nat) (most grace last : Int) (iv av : Value) (I Z : List Ot) (h : RQ w r most grace last iv av I Z) (key sticky : ByteArray) (ready : Int) (h1 : findI I key = -1) (h2 : findI Z key = -1) (hm : most ≤ (I.length : Int)) :
    Calls Tryz.prog 51 #[.pointer (some ⟨r, 0, none⟩), .string key, .string sticky, .int .i64 ready] w fun e w' => e = .returned (.int .i64 7) ∧ Below w.heap.size w w' := by
  have HF := Lib.hid (rqFind w _ I h.idle h.few.1 key)
  have HG := Lib.hid (rqFind w _ Z h.away h.few.2 key)
  rw [h1] at HF
  rw [h2] at HG
  obtain ⟨AI, cI, rfl⟩ := own_slice' h.idle
  obtain ⟨AZ, cZ, rfl⟩ := own_slice' h.away
  obtain ⟨c0, _, _, c3, c4⟩ := h.cells
  have q1 : decide (most ≤ (I.length : Int)) = true := decide_eq_true hm
  clear h h1 h2
  generalize I.length = iL at *
  generalize Z.length = zL at *
  go_enter Tryz.func51, Tryz.ntmps51
  go_wp2_with fail
  refine HF.out.mono ?_
  rintro e w' ⟨rfl, hw⟩
  subst w'
  go_wp2_with fail
  refine HG.out.mono ?_
  rintro e w' ⟨rfl, hw⟩
  subst w'
  go_wp2_with fail
  go_quiet (fail)
  go_wp2_with fail
  go_ret
  exact ⟨rfl, below_drewN' (Below.refl _ _) nq⟩
set_option maxRecDepth 20000 in
set_option maxHeartbeats 8000000 in
theorem rqPut1 (w : World) (r : Nat) (most grace last : Int) (iv av : Value) (I Z : List Ot) (h : RQ w r most grace last iv av I Z) (key sticky : ByteArray) (ready : Int) (h1 : findI I key = -1) (h2 : findI Z key = -1) (hm : ¬ most ≤ (I.length : Int)) (hf : I.length < 100000) :
    Calls Tryz.prog 51 #[.pointer (some ⟨r, 0, none⟩), .string key, .string sticky, .int .i64 ready] w (RAddY w r most grace last iv av (I ++ [idT ⟨key, sticky, ready, 0⟩]) Z (.int .i64 0)) := by
  obtain ⟨i0, hi, hz0, hz1, hz2⟩ := info_parts info_rtask
  have H := Lib.hid h
  have HF := Lib.hid (rqFind w _ I h.idle h.few.1 key)
  have HG := Lib.hid (rqFind w _ Z h.away h.few.2 key)
  rw [h1] at HF
  rw [h2] at HG
  obtain ⟨AI, cI, rfl⟩ := own_slice' h.idle
  obtain ⟨AZ, cZ, rfl⟩ := own_slice' h.away
  obtain ⟨c0, _, _, c3, c4⟩ := h.cells
  have q0 : decide (most ≤ (I.length : Int)) = false := decide_eq_false hm
  obtain ⟨iL, hil⟩ : ∃ z, I.length = z := ⟨_, rfl⟩
  rw [hil] at H HF c3 q0 hf ⊢
  have HIL := Lib.hid hil
  clear h h1 h2 hil hm
  generalize hzl : Z.length = zL at *
  clear hzl
  go_enter Tryz.func51, Tryz.ntmps51
  go_wp2_with fail
  refine HF.out.mono ?_
  rintro e w' ⟨rfl, hw⟩
  subst w'
  go_wp2_with fail
  refine HG.out.mono ?_
  rintro e w' ⟨rfl, hw⟩
  subst w'
  go_wp2_with fail
  go_quiet (fail)
  have hdV := below_drewN' (Below.refl w.heap.size w) nq
  have HV := Lib.hid (H.out.bel hdV)
  have HBV := Lib.hid hdV
  clear c0 c3 c4 HF HG hdV q0
  generalize w.drewN nq = V at *
  obtain ⟨_, _, _, q1, _⟩ := HV.out.cells
  have zf := HV.out.blk.fz 3
  have n1 := World.new_ne V _ q1
  have lx1 := World.block_lt_of_cell? V _ q1
  simp only at n1 lx1
  have hnews := Lib.hid (World.news_of_block (w := V.alloc (.cells #[.string key, .string sticky, .int .i64 ready, .int .i64 0, .int .i64 0, .string ⟨#[]⟩, .int .i64 0] 64)) (B := V.heap.size) (cs := #[.string key, .string sticky, .int .i64 ready, .int .i64 0, .int .i64 0, .string ⟨#[]⟩, .int .i64 0]) (t := 64) (fr := (0, 0)) (heap_alloc_new V _))
  have hBX := Below.new V (.cells #[.string key, .string sticky, .int .i64 ready, .int .i64 0, .int .i64 0, .string ⟨#[]⟩, .int .i64 0] 64)
  have hown0 := own_turns HV.out.idle (.of_below (S := fun _ => False) hBX) (fun _ _ => id)
  rw [HIL.out] at hown0
  have hown := Lib.hid hown0
  have HBB := Lib.hid (HV.out.blk.bel hBX)
  have HBX2 := Lib.hid hBX
  have zfA : (V.alloc (.cells #[.string key, .string sticky, .int .i64 ready, .int .i64 0, .int .i64 0, .string ⟨#[]⟩, .int .i64 0] 64)).frozen? ⟨r, 3, none⟩ = false := HBB.out.fz 3
  have hnq : (Value.slice AI iL cI).ownBlock ≠ some r := fun e => own_ne_blk HV.out.idle e HV.out.blk (by decide) rfl
  have hl1 : Hid (iL + 1 ≤ maxLen) := Lib.hid (by unfold maxLen; omega)
  have hl2 : Hid ((iL + 1) * 80 ≤ 140737488355328) := Lib.hid (by omega)
  clear hBX hown0
  go_wp2_with (at_builtin; refine wpList_append_lies _ (by rfl) _ _ _ (by rfl) 0 64 i0 _ 7 80 Tryz.underlying38 hi hz0 hz1 hz2 rfl (by omega) (.slice AI iL cI) iL _ (by rfl) hown.out ⟨V.heap.size, 0, none⟩ 1 1 [.string key, .string sticky, .int .i64 ready, .int .i64 0, .int .i64 0, .string ⟨#[]⟩, .int .i64 0] (by rfl) (by rfl) hnews.out (by intro u hu; simp at hu; rcases hu with rfl | rfl | rfl | rfl | rfl | rfl | rfl <;> rfl) (by omega) hl1.out hl2.out (Nat.zero_le _) (V.heap.size + 1) (by simp) ?_; intro ag cc1 y1 hown1 hgr1 hat1 hlt1; have hb4 := Lib.hid (HBB.out.turns (.of_grown (S := fun i => (Value.slice AI iL cI).ownBlock = some i) hgr1 (fun r e => e)) (fun e => hnq e)); have c1 := hb4.out.cell 3; have y1z := hb4.out.fz 3; simp only [List.set_cons_succ, List.set_cons_zero, List.getElem?_cons_succ, List.getElem?_cons_zero] at c1; obtain ⟨hq2, ht2⟩ := rq_idle (x := idT ⟨key, sticky, ready, 0⟩) HV.out HIL.out HBX2.out hgr1 hown1 (hat1.imp id (fun e => Nat.le_of_eq e.symm)) (by omega); have HQ2 := Lib.hid hq2; have HT2 := Lib.hid ht2; have HAT := Lib.hid hat1; clear hq2 ht2 hown1 hgr1 hat1)
  go_ret
  exact ⟨rfl, _, _, HQ2.out, new_idle HBV.out.size HAT.out, (Turns.of_below HBV.out).then HT2.out⟩
set_option maxRecDepth 20000 in
theorem rqBack0 (w : World) (r : Nat) (most grace last : Int) (iv av : Value) (I Z : List Ot) (h : RQ w r most grace last iv av I Z) (k ready : Int) (hk : findT Z k = -1) :
    Calls Tryz.prog 57 #[.pointer (some ⟨r, 0, none⟩), .int .i64 k, .int .i64 ready] w fun e w' => e = .returned (.tuple #[.string ⟨#[]⟩, .int .i64 0, .int .i64 5]) ∧ Below w.heap.size w w' := by
  have HD := Lib.hid (rqDone0 w r most grace last iv av I Z h k hk)
  clear h hk
  go_enter Tryz.func57, Tryz.ntmps57
  go_wp2_with fail
  refine HD.out.mono ?_
  rintro e w' ⟨rfl, hw⟩
  subst w'
  go_wp2_with fail
  go_ret3
  exact ⟨rfl, Below.refl _ _⟩
set_option maxRecDepth 20000 in
set_option maxHeartbeats 8000000 in
theorem rqBack1 (w : World) (r : Nat) (most grace last : Int) (iv av : Value) (I Z : List Ot) (h : RQ w r most grace last iv av I Z) (k ready : Int) (n : Nat) (hn : n < Z.length) (hk : findT Z k = (n : Int)) (hf : I.length < 100000) :
    Calls Tryz.prog 57 #[.pointer (some ⟨r, 0, none⟩), .int .i64 k, .int .i64 ready] w (RAddY w r most grace last iv av (I ++ [idT ⟨Z[n].tk.key, ⟨#[]⟩, ready, Z[n].tk.att⟩]) (Z.eraseIdx n) (.tuple #[.string Z[n].tk.key, .int .i64 Z[n].tk.att, .int .i64 0])) := by
  obtain ⟨i0, hi, hz0, hz1, hz2⟩ := info_parts info_rtask
  have HD := Lib.hid (rqDone1 w r most grace last iv av I Z h k n hn hk)
  have H := Lib.hid h
  obtain ⟨AI, cI, rfl⟩ := own_slice' h.idle
  generalize Z[n].tk.key = ky at *
  generalize Z[n].tk.att = at_ at *
  obtain ⟨iL, hil⟩ : ∃ z, I.length = z := ⟨_, rfl⟩
  rw [hil] at H HD hf ⊢
  have HIL := Lib.hid hil
  clear h hk hil
  go_enter Tryz.func57, Tryz.ntmps57
  go_wp2_with fail
  refine HD.out.mono ?_
  rintro e V ⟨rfl, av', hq, hnw, ht⟩
  have HQ := Lib.hid hq
  have HNw := Lib.hid hnw
  have HTu := Lib.hid ht
  have hVs : w.heap.size ≤ V.heap.size := ht.size
  clear hq hnw ht HD
  obtain ⟨_, _, _, q1, _⟩ := HQ.out.cells
  have zf := HQ.out.blk.fz 3
  have n1 := World.new_ne V _ q1
  have lx1 := World.block_lt_of_cell? V _ q1
  simp only at n1 lx1
  have hnews := Lib.hid (World.news_of_block (w := V.alloc (.cells #[.string ky, .string ⟨#[]⟩, .int .i64 ready, .int .i64 at_, .int .i64 0, .string ⟨#[]⟩, .int .i64 0] 64)) (B := V.heap.size) (cs := #[.string ky, .string ⟨#[]⟩, .int .i64 ready, .int .i64 at_, .int .i64 0, .string ⟨#[]⟩, .int .i64 0]) (t := 64) (fr := (0, 0)) (heap_alloc_new V _))
  have hBX := Below.new V (.cells #[.string ky, .string ⟨#[]⟩, .int .i64 ready, .int .i64 at_, .int .i64 0, .string ⟨#[]⟩, .int .i64 0] 64)
  have hown0 := own_turns HQ.out.idle (.of_below (S := fun _ => False) hBX) (fun _ _ => id)
  rw [HIL.out] at hown0
  have hown := Lib.hid hown0
  have HBB := Lib.hid (HQ.out.blk.bel hBX)
  have HBX2 := Lib.hid hBX
  have zfA : (V.alloc (.cells #[.string ky, .string ⟨#[]⟩, .int .i64 ready, .int .i64 at_, .int .i64 0, .string ⟨#[]⟩, .int .i64 0] 64)).frozen? ⟨r, 3, none⟩ = false := HBB.out.fz 3
  have hnq : (Value.slice AI iL cI).ownBlock ≠ some r := fun e => own_ne_blk HQ.out.idle e HQ.out.blk (by decide) rfl
  have hl1 : Hid (iL + 1 ≤ maxLen) := Lib.hid (by unfold maxLen; omega)
  have hl2 : Hid ((iL + 1) * 80 ≤ 140737488355328) := Lib.hid (by omega)
  clear hBX hown0
  go_wp2_with (at_builtin; refine wpList_append_lies _ (by rfl) _ _ _ (by rfl) 0 64 i0 _ 7 80 Tryz.underlying38 hi hz0 hz1 hz2 rfl (by omega) (.slice AI iL cI) iL _ (by rfl) hown.out ⟨V.heap.size, 0, none⟩ 1 1 [.string ky, .string ⟨#[]⟩, .int .i64 ready, .int .i64 at_, .int .i64 0, .string ⟨#[]⟩, .int .i64 0] (by rfl) (by rfl) hnews.out (by intro u hu; simp at hu; rcases hu with rfl | rfl | rfl | rfl | rfl | rfl | rfl <;> rfl) (by omega) hl1.out hl2.out (Nat.zero_le _) (V.heap.size + 1) (by simp) ?_; intro ag cc1 y1 hown1 hgr1 hat1 hlt1; have hb4 := Lib.hid (HBB.out.turns (.of_grown (S := fun i => (Value.slice AI iL cI).ownBlock = some i) hgr1 (fun r e => e)) (fun e => hnq e)); have c1 := hb4.out.cell 3; have y1z := hb4.out.fz 3; simp only [List.set_cons_succ, List.set_cons_zero, List.getElem?_cons_succ, List.getElem?_cons_zero] at c1; obtain ⟨hq2, ht2⟩ := rq_idle (x := idT ⟨ky, ⟨#[]⟩, ready, at_⟩) HQ.out HIL.out HBX2.out hgr1 hown1 (hat1.imp id (fun e => Nat.le_of_eq e.symm)) (by omega); have HQ2 := Lib.hid hq2; have HT2 := Lib.hid ht2; have HAT := Lib.hid hat1; clear hq2 ht2 hown1 hgr1 hat1)
  go_ret3
  refine ⟨rfl, _, _, HQ2.out, fun i hi => ?_, HTu.out.trans HT2.out (fun i hi e => ?_)⟩
  · rcases new_idle hVs HAT.out i hi with e | e
    · exact HNw.out i e
    · exact .inr e
  · rcases HNw.out i e with e | e
    · exact e
    · omega
end Go.Proofs.YtpbheicfplpemaaGreat

namespace Go.Proofs.YtpbheicfplpemaaGreat
open Go.RowKit

def beatO (x : Ot) (now lease : Int) : Ot := { x with until_ := max x.until_ (addI now lease) }
theorem RQ.beat {w : World} {r g c : Nat} {most grace last : Int} {iv : Value} {I Z : List Ot} (h : RQ w r most grace last iv (.slice (some ⟨g, 0, none⟩) Z.length c) I Z) (n : Nat) (hn : n < Z.length) (u : Int) : RQ (w.setCell ⟨g, n * 7 + 6, none⟩ (.int .i64 u)) r most grace last iv (.slice (some ⟨g, 0, none⟩) Z.length c) I (Z.set n { Z[n] with until_ := u }) := by
  have hgr : g ≠ r := own_ne_blk h.away rfl h.blk (by decide)
  have T1 : Turns (fun i => i = g) w (w.setCell ⟨g, n * 7 + 6, none⟩ (.int .i64 u)) := Turns.of_set (S := fun i => i = g) w ⟨g, n * 7 + 6, none⟩ _ rfl
  have ho := (h.away.stored (n * 7 + 6) (.int .i64 u)).1
  obtain ⟨A, B, h1, h2, h3⟩ := flat_split otC 7 otC_len Z n hn
  have he : (Z.flatMap otC).set (n * 7 + 6) (.int .i64 u) = (Z.set n { Z[n] with until_ := u }).flatMap otC := by
    rw [h2, h3, set_at h1]
    rfl
  rw [he] at ho
  refine ⟨h.blk.turns T1 (Ne.symm hgr), own_turns h.idle T1 (fun g' hg' e => ?_), by rw [List.length_set]; exact ho, h.apart, by rw [List.length_set]; exact h.few⟩
  have e2 : g' = g := e
  subst e2
  exact h.apart _ hg' rfl
set_option maxRecDepth 20000 in
theorem rqBeatA (w : World) (r : Nat) (k now lease : Int) (hl : lease < 1) :
    Calls Tryz.prog 54 #[.pointer (some ⟨r, 0, none⟩), .int .i64 k, .int .i64 now, .int .i64 lease] w fun e w' => e = .returned (.int .i64 1) ∧ w' = w := by
  have q1 : decide (lease < 1) = true := decide_eq_true hl
  go_enter Tryz.func54, Tryz.ntmps54
  go_wp2_with fail
  go_ret
  exact ⟨rfl, rfl⟩
set_option maxRecDepth 20000 in
theorem rqBeat0 (w : World) (r : Nat) (most grace last : Int) (iv av : Value) (I Z : List Ot) (h : RQ w r most grace last iv av I Z) (k now lease : Int) (hl : ¬ lease < 1) (hk : findT Z k = -1) :
    Calls Tryz.prog 54 #[.pointer (some ⟨r, 0, none⟩), .int .i64 k, .int .i64 now, .int .i64 lease] w fun e w' => e = .returned (.int .i64 5) ∧ w' = w := by
  have q1 : decide (lease < 1) = false := decide_eq_false hl
  have HT := Lib.hid (rqToken w r most grace last iv av I Z h k)
  rw [hk] at HT
  clear h hk
  go_enter Tryz.func54, Tryz.ntmps54
  go_wp2_with fail
  refine HT.out.mono ?_
  rintro e w' ⟨rfl, hw⟩
  subst w'
  go_wp2_with fail
  go_ret
  exact ⟨rfl, rfl⟩
set_option maxRecDepth 20000 in
set_option maxHeartbeats 4000000 in
theorem rqBeat1 (w : World) (r : Nat) (most grace last : Int) (iv av : Value) (I Z : List Ot) (h : RQ w r most grace last iv av I Z) (k now lease : Int) (hl : ¬ lease < 1) (hle : lease ≤ 9223372036854775807) (hno : -9223372036854775808 ≤ now ∧ now ≤ 9223372036854775807) (n : Nat) (hn : n < Z.length) (hk : findT Z k = (n : Int)) :
    Calls Tryz.prog 54 #[.pointer (some ⟨r, 0, none⟩), .int .i64 k, .int .i64 now, .int .i64 lease] w fun e w' => e = .returned (.int .i64 0) ∧ RQ w' r most grace last iv av I (Z.set n (beatO Z[n] now lease)) ∧ Turns (RQSet r iv av) w w' := by
  have q1 : decide (lease < 1) = false := decide_eq_false hl
  have H := Lib.hid h
  have HT := Lib.hid (rqToken w r most grace last iv av I Z h k)
  rw [hk] at HT
  obtain ⟨g, c, rfl, hvb, hgl, hnc, hcm⟩ := own_at h.away (by omega)
  obtain ⟨_, _, _, _, c4⟩ := h.cells
  have d6 := rq_cells h.away rfl n hn 6 (by omega)
  simp only [otC, List.getElem?_cons_succ, List.getElem?_cons_zero] at d6
  have z6 := h.away.frozenAt (n * 7 + 6)
  have hn1 : (n : Int) < (Z.length : Int) := by omega
  have hA := Lib.hid (fun X => rAdd X now lease hno (by omega))
  have hge : ¬ (n : Int) < 0 := by omega
  unfold maxLen at hcm
  clear h hk
  go_enter Tryz.func54, Tryz.ntmps54
  go_wp2_with fail
  refine HT.out.mono ?_
  rintro e w' ⟨rfl, hw⟩
  subst w'
  go_wp2_with fail
  have hd := below_drewN' (Below.refl w.heap.size w) 1
  have HD := Lib.hid (H.out.bel hd)
  have HB := Lib.hid hd
  have hAX := Lib.hid (hA.out w.drew)
  have HN := Lib.hid hn
  clear hd hA HT
  go_region_law (go_simp; go_at_call 85; refine hAX.out.mono ?_; clear hAX; rintro e' X2 ⟨rfl, hb2⟩; have HR2 := Lib.hid (HD.out.bel hb2); have HB2 := Lib.hid (below_trans' HB.out hb2); have c4' : X2.cell? ⟨r, 4, none⟩ = some (.slice (some ⟨g, 0, none⟩) Z.length c) := HR2.out.cells.2.2.2.2; have d6' : X2.cell? ⟨g, n * 7 + 6, none⟩ = some (.int .i64 Z[n].until_) := rq_cells HR2.out.away rfl n HN.out 6 (by omega); have z6' := HR2.out.away.frozenAt (n * 7 + 6); clear hb2)
  all_goals
    go_wp2_with fail
    go_ret
    exact ⟨rfl, (HR2.out.beat n HN.out _), (Turns.of_below HB2.out).then (Turns.of_set (S := RQSet r iv (.slice (some ⟨g, 0, none⟩) Z.length c)) X2 ⟨g, n * 7 + 6, none⟩ _ (.inr (.inr rfl)))⟩
end Go.Proofs.YtpbheicfplpemaaGreat

namespace Go.Proofs.YtpbheicfplpemaaGreat
open Go.RowKit

def polled (x : Ot) (tok : Int) (who : ByteArray) (until_ : Int) : Ot := ⟨{ x.tk with att := x.tk.att + 1 }, tok, who, until_⟩
def RPollY (w : World) (r : Nat) (most grace last : Int) (iv av : Value) (I Z : List Ot) (who : ByteArray) (now lease : Int) (e : Ending) (w' : World) : Prop :=
  (e = .returned (.tuple #[.string ⟨#[]⟩, .int .i64 0, .int .i64 0, .int .i64 5]) ∧ (∀ j (hj : j < I.length), isForI grace who now I[j].tk = false) ∧ Below w.heap.size w w') ∨
  ∃ i, ∃ hi : i < I.length, isForI grace who now I[i].tk = true ∧ (∀ j (hj : j < I.length), j < i → isForI grace who now I[j].tk = false) ∧ e = .returned (.tuple #[.string I[i].tk.key, .int .i64 (last + 1), .int .i64 (I[i].tk.att + 1), .int .i64 0]) ∧
    ∃ iv' av', RQ w' r most grace (last + 1) iv' av' (I.eraseIdx i) (Z ++ [polled I[i] (last + 1) who (addI now lease)]) ∧ RNew w r iv av iv' av' ∧ Turns (RQSet r iv av) w w'
set_option maxRecDepth 20000 in
theorem rqPollA (w : World) (r : Nat) (who : ByteArray) (now lease : Int) (hl : lease < 1) :
    Calls Tryz.prog 52 #[.pointer (some ⟨r, 0, none⟩), .string who, .int .i64 now, .int .i64 lease] w fun e w' => e = .returned (.tuple #[.string ⟨#[]⟩, .int .i64 0, .int .i64 0, .int .i64 1]) ∧ w' = w := by
  have q1 : decide (lease < 1) = true := decide_eq_true hl
  go_enter Tryz.func52, Tryz.ntmps52
  go_wp2_with fail
  refine bodyPost_ret (results_tmp4 rfl _ _ _) rfl ?_
  exact ⟨rfl, rfl⟩
set_option maxRecDepth 20000 in
set_option maxHeartbeats 16000000 in
theorem rqPoll (w : World) (r : Nat) (most grace last : Int) (iv av : Value) (I Z : List Ot) (h : RQ w r most grace last iv av I Z) (who : ByteArray) (now lease : Int) (hl : ¬ lease < 1) (hle : lease ≤ 9223372036854775807) (hno : -9223372036854775808 ≤ now ∧ now ≤ 9223372036854775807) (hg : -9223372036854775808 ≤ grace ∧ grace ≤ 9223372036854775807) (hlast : 0 ≤ last ∧ last < 4611686018427387904) (hr : ∀ x ∈ I, (-9223372036854775808 ≤ x.tk.ready ∧ x.tk.ready ≤ 9223372036854775807) ∧ 0 ≤ x.tk.att ∧ x.tk.att ≤ 1000000000) (hZ : Z.length < 100000) :
    Calls Tryz.prog 52 #[.pointer (some ⟨r, 0, none⟩), .string who, .int .i64 now, .int .i64 lease] w (RPollY w r most grace last iv av I Z who now lease) := by
  obtain ⟨i0, hi, hz0, hz1, hz2⟩ := info_parts info_rtask
  have q1 : decide (lease < 1) = false := decide_eq_false hl
  have H := Lib.hid h
  have HLt := Lib.hid h.lts
  obtain ⟨AI, cI, rfl⟩ := own_slice' h.idle
  obtain ⟨AZ, cZ, rfl⟩ := own_slice' h.away
  have hfew := h.few.1
  have HRd := Lib.hid hr
  have hA := Lib.hid (fun X => rAdd X now lease hno (by omega))
  obtain ⟨iL, hil⟩ : ∃ z, I.length = z := ⟨_, rfl⟩
  obtain ⟨zL, hzl⟩ : ∃ z, Z.length = z := ⟨_, rfl⟩
  rw [hil, hzl] at H HLt ⊢
  rw [hil] at hfew
  rw [hzl] at hZ
  have HIL := Lib.hid hil
  have HZL := Lib.hid hzl
  clear h hr hil hzl hl
  go_enter Tryz.func52, Tryz.ntmps52
  go_wp2_with fail
  go_loopw [12] (fun iv wr => ∃ k : Nat, k ≤ iL ∧ iv = .int .i64 (k : Int) ∧ Hid (∀ j (hj : j < I.length), j < k → isForI grace who now I[j].tk = false) ∧ Hid (Below w.heap.size w wr)) (fun iv _ => iL - (intOf iv).toNat)
  case atStart => exact ⟨0, by omega, rfl, Lib.hid (fun j hj h0 => by omega), Lib.hid (Below.refl _ _)⟩
  case round =>
    obtain ⟨k, hk, rfl, HN, hB⟩ := hrel
    have HX := Lib.hid (H.out.bel hB.out)
    obtain ⟨_, _, q2, q3, q4⟩ := HX.out.cells
    by_cases hlt : k < iL
    · have hlt1 : (k : Int) < (iL : Int) := by omega
      have hkI : k < I.length := by rw [HIL.out]; exact hlt
      have HKI := Lib.hid hkI
      have hI := HX.out.idle
      rw [HIL.out] at hI
      obtain ⟨g, c0, he, hvb, hgl, hnc, hcm⟩ := own_at hI (by omega)
      injection he with he1 he2 he3
      subst he1 he3
      have hx := rq_cells hI HIL.out k hkI
      have d0 := hx 0 (by omega)
      have d1 := hx 1 (by omega)
      have d2 := hx 2 (by omega)
      have d3 := hx 3 (by omega)
      have d4 := hx 4 (by omega)
      have d5 := hx 5 (by omega)
      have d6 := hx 6 (by omega)
      have hrd := HRd.out I[k] (List.getElem_mem hkI)
      have HFX : Hid (∀ X, Below wr.heap.size wr X → Calls Tryz.prog 83 #[.pointer (some ⟨r, 0, none⟩), otV I[k], .string who, .int .i64 now] X fun e w' => e = .returned (.bool (isForI grace who now I[k].tk)) ∧ Below X.heap.size X w') := Lib.hid (fun X hX => rqFor X r most grace last _ _ I Z (HX.out.bel hX) hg I[k] hrd.1 who now)
      clear hx hI
      generalize hy : I[k] = y at *
      have HY := Lib.hid hy
      clear hy hkI
      simp only [otC, List.getElem?_cons_succ, List.getElem?_cons_zero, Nat.add_zero] at d0 d1 d2 d3 d4 d5 d6
      have KX := Lib.hid (Blk.new wr 64 [.string y.tk.key, .string y.tk.sticky, .int .i64 y.tk.ready, .int .i64 y.tk.att, .int .i64 y.token, .string y.worker, .int .i64 y.until_])
      have BX := Lib.hid (Below.new wr (.cells #[.string y.tk.key, .string y.tk.sticky, .int .i64 y.tk.ready, .int .i64 y.tk.att, .int .i64 y.token, .string y.worker, .int .i64 y.until_] 64))
      have HF2 := Lib.hid (HFX.out _ BX.out)
      unfold otV at HF2
      unfold maxLen at hcm
      generalize hbf : isForI grace who now y.tk = bf at *
      have HBF := Lib.hid hbf
      clear hbf HFX
      cases bf with
      | false =>
        go_wp2_with fail
        refine HF2.out.mono ?_
        rintro e X2 ⟨rfl, hb⟩
        have HB2 := Lib.hid (below_trans' (below_trans' hB.out BX.out) hb)
        clear hb HF2 q2 q3 q4 d0 d1 d2 d3 d4 d5 d6
        go_wp2_with fail
        go_roundw
        case measure => simp only [intOf]; omega
        case rel =>
          refine ⟨k + 1, by omega, by go_num, Lib.hid (fun j hj h1 => ?_), HB2⟩
          by_cases e : j = k
          · subst e; have h5 := HBF.out; rw [← HY.out] at h5; exact h5
          · exact HN.out j hj (by omega)
      | true =>
        go_wp2_with fail
        refine HF2.out.mono ?_
        rintro e X2 ⟨rfl, hb⟩
        have HB2 := Lib.hid (below_trans' (below_trans' hB.out BX.out) hb)
        have HK2 := Lib.hid (KX.out.bel hb)
        have HR2 := Lib.hid (H.out.bel HB2.out)
        have hbw : Hid (w.heap.size ≤ wr.heap.size) := Lib.hid hB.out.size
        have HB2s := Lib.hid HB2.out.size
        have hbx : Hid (wr.heap.size < X2.heap.size) := Lib.hid HK2.out.lt
        clear hb HF2 q2 q3 q4 d0 d1 d2 d3 d4 d5 d6 KX BX
        obtain ⟨_, _, q2, q3, q4⟩ := HR2.out.cells
        have HWX := Lib.hid (rqWithout X2 _ I HR2.out.idle (by rw [HIL.out]; exact hfew) k HKI.out)
        rw [HIL.out] at HWX
        go_wp2_with fail
        refine HWX.out.mono ?_
        rintro e X3 ⟨v', rfl, ho, hb⟩
        obtain ⟨A', c', rfl⟩ := own_slice' ho
        have HO := Lib.hid ho
        have HB3 := Lib.hid (below_trans' HB2.out hb)
        have HR3 := Lib.hid (HR2.out.bel hb)
        have HK3 := Lib.hid (HK2.out.bel hb)
        have hb3 : Hid (X2.heap.size ≤ X3.heap.size) := Lib.hid hb.size
        have hbr : wr.heap.size ≠ r := by have := HLt.out r (.inl rfl); have := hbw.out; omega
        have hrb : r ≠ wr.heap.size := Ne.symm hbr
        clear ho hb HWX q2 q3 q4
        obtain ⟨_, _, q2, q3, q4⟩ := HR3.out.cells
        have f2 := HR3.out.blk.fz 2
        have f3 := HR3.out.blk.fz 3
        have hEr : (I.eraseIdx k).length = iL - 1 := by rw [List.length_eraseIdx, if_pos HKI.out, HIL.out]
        have HQ4 := Lib.hid ((HR3.out.set3 (I' := I.eraseIdx k) HO.out hEr (by omega) (fun g' hg' => by have := HLt.out g' (.inr (.inr hg')); have := hbw.out; have := hbx.out; omega)).set2 (last + 1))
        have hTr : Turns (fun i => i = r) X3 ((X3.setCell ⟨r, 3, none⟩ (.slice A' (iL - 1) c')).setCell ⟨r, 2, none⟩ (.int .i64 (last + 1))) := (Turns.of_set (S := fun i => i = r) X3 ⟨r, 3, none⟩ _ rfl).then (Turns.of_set (S := fun i => i = r) _ ⟨r, 2, none⟩ _ rfl)
        have HK4 := Lib.hid (HK3.out.turns hTr hbr)
        have HTr := Lib.hid hTr
        have hw1 : IntKind.i64.wrap (last + 1) = last + 1 := by rw [IntKind.wrap_i64]; omega
        have k3 := HK3.out.cell 3
        have k4 := HK3.out.cell 4
        have k5 := HK3.out.cell 5
        have z3 := HK3.out.fz 3
        have z4 := HK3.out.fz 4
        have z5 := HK3.out.fz 5
        simp only [List.getElem?_cons_succ, List.getElem?_cons_zero] at k3 k4 k5
        have hw2 : IntKind.i64.wrap (y.tk.att + 1) = y.tk.att + 1 := by rw [IntKind.wrap_i64]; omega
        have hnb : ∀ i, RQSet r (.slice A' (iL - 1) c') (.slice AZ zL cZ) i → i ≠ wr.heap.size := fun i hi e => by
          rcases hi with e2 | e2 | e2
          · omega
          · have := (own_lt HO.out e2).1; have := hbx.out; omega
          · have := HLt.out i (.inr (.inr e2)); have := hbw.out; omega
        have HNb := Lib.hid hnb
        have HQ5 := Lib.hid (((HQ4.out.far ⟨wr.heap.size, 4, none⟩ (.int .i64 (last + 1)) hnb).far ⟨wr.heap.size, 3, none⟩ (.int .i64 (y.tk.att + 1)) hnb).far ⟨wr.heap.size, 5, none⟩ (.string who) hnb)
        have hK5 := ((HK4.out.set 4 (.int .i64 (last + 1))).set 3 (.int .i64 (y.tk.att + 1))).set 5 (.string who)
        simp only [List.set_cons_succ, List.set_cons_zero] at hK5
        have HK5 := Lib.hid hK5
        have ht0 := Turns.of_below (S := RQSet r (.slice (some ⟨g, 0, none⟩) iL cI) (.slice AZ zL cZ)) HB3.out
        have ht1 := ht0.set ⟨r, 3, none⟩ (.slice A' (iL - 1) c') (fun _ => .inl rfl)
        have ht2 := ht1.set ⟨r, 2, none⟩ (.int .i64 (last + 1)) (fun _ => .inl rfl)
        have hlw : ¬ wr.heap.size < w.heap.size := by have := hbw.out; omega
        have ht3 := ht2.set ⟨wr.heap.size, 4, none⟩ (.int .i64 (last + 1)) (fun e => absurd e hlw)
        have ht4 := ht3.set ⟨wr.heap.size, 3, none⟩ (.int .i64 (y.tk.att + 1)) (fun e => absurd e hlw)
        have ht5 := ht4.set ⟨wr.heap.size, 5, none⟩ (.string who) (fun e => absurd e hlw)
        have HT5 := Lib.hid ht5
        have HLW := Lib.hid hlw
        clear ht0 ht1 ht2 ht3 ht4 ht5 hlw
        clear hTr hEr hnb hK5
        go_wp2_with fail
        clear k3 k4 k5 z3 z4 z5 q2 q3 q4 f2 f3
        generalize ((((X3.setCell ⟨r, 3, none⟩ (.slice A' (iL - 1) c')).setCell ⟨r, 2, none⟩ (.int .i64 (last + 1))).setCell ⟨wr.heap.size, 4, none⟩ (.int .i64 (last + 1))).setCell ⟨wr.heap.size, 3, none⟩ (.int .i64 (y.tk.att + 1))).setCell ⟨wr.heap.size, 5, none⟩ (.string who) = X5 at *
        have HAX := Lib.hid (hA.out X5)
        refine HAX.out.mono ?_
        rintro e X6 ⟨rfl, hb⟩
        have HQ6 := Lib.hid (HQ5.out.bel hb)
        have HK6 := Lib.hid (HK5.out.bel hb)
        have HT6 := Lib.hid (HT5.out.then (Turns.of_below hb))
        have k6 := HK6.out.cell 6
        have z6 := HK6.out.fz 6
        simp only [List.getElem?_cons_succ, List.getElem?_cons_zero] at k6
        have hK7 := HK6.out.set 6 (.int .i64 (addI now lease))
        simp only [List.set_cons_succ, List.set_cons_zero] at hK7
        have KV := Lib.hid hK7
        have JV := Lib.hid (HQ6.out.far ⟨wr.heap.size, 6, none⟩ (.int .i64 (addI now lease)) HNb.out)
        have HTV := Lib.hid (HT6.out.set ⟨wr.heap.size, 6, none⟩ (.int .i64 (addI now lease)) (fun e => absurd e HLW.out))
        have hsv : Hid (X3.heap.size ≤ X3.heap.size) := Lib.hid (Nat.le_refl _)
        clear hb hK7 HAX
        go_wp2_with fail
        clear k6 z6
        generalize X6.setCell ⟨wr.heap.size, 6, none⟩ (.int .i64 (addI now lease)) = V at *
        generalize wr.heap.size = bx at *
        generalize hul : addI now lease = ul at *
        have HUL := Lib.hid hul
        clear hul
        obtain ⟨_, _, _, _, q1⟩ := JV.out.cells
        have zf := JV.out.blk.fz 4
        have u0 := KV.out.cell 0
        have u1 := KV.out.cell 1
        have u2 := KV.out.cell 2
        have u3 := KV.out.cell 3
        have u4 := KV.out.cell 4
        have u5 := KV.out.cell 5
        have u6 := KV.out.cell 6
        simp only [List.getElem?_cons_succ, List.getElem?_cons_zero] at u0 u1 u2 u3 u4 u5 u6
        have n1 := World.new_ne V _ q1
        have n2 := World.new_ne V _ u0
        have lx1 := World.block_lt_of_cell? V _ q1
        have lx2 := World.block_lt_of_cell? V _ u0
        simp only at n1 n2 lx1 lx2
        have hnews := Lib.hid (World.news_of_block (w := (V.alloc (.cells #[.string y.tk.key, .string y.tk.sticky, .int .i64 y.tk.ready, .int .i64 (y.tk.att + 1), .int .i64 (last + 1), .string who, .int .i64 ul] 64)).drew) (B := V.heap.size) (cs := #[.string y.tk.key, .string y.tk.sticky, .int .i64 y.tk.ready, .int .i64 (y.tk.att + 1), .int .i64 (last + 1), .string who, .int .i64 ul]) (t := 64) (fr := (0, 0)) (heap_alloc_new V _))
        have hBX := below_drewN' (Below.new V (.cells #[.string y.tk.key, .string y.tk.sticky, .int .i64 y.tk.ready, .int .i64 (y.tk.att + 1), .int .i64 (last + 1), .string who, .int .i64 ul] 64)) 1
        have hown0 := own_turns JV.out.away (.of_below (S := fun _ => False) hBX) (fun _ _ => id)
        rw [HZL.out] at hown0
        have hown := Lib.hid hown0
        have HBB := Lib.hid (JV.out.blk.bel hBX)
        have HBX2 := Lib.hid hBX
        have zfA : (V.alloc (.cells #[.string y.tk.key, .string y.tk.sticky, .int .i64 y.tk.ready, .int .i64 (y.tk.att + 1), .int .i64 (last + 1), .string who, .int .i64 ul] 64)).drew.frozen? ⟨r, 4, none⟩ = false := HBB.out.fz 4
        have hnq : (Value.slice AZ zL cZ).ownBlock ≠ some r := fun e => own_ne_blk JV.out.away e JV.out.blk (by decide) rfl
        have hl1 : Hid (zL + 1 ≤ maxLen) := Lib.hid (by unfold maxLen; omega)
        have hl2 : Hid ((zL + 1) * 80 ≤ 140737488355328) := Lib.hid (by omega)
        clear hBX hown0
        go_region_law ((refine step_append_lies _ (by rfl) _ _ _ (by rfl) 0 64 i0 _ 7 80 Tryz.underlying38 hi hz0 hz1 hz2 rfl (by omega) (.slice AZ zL cZ) zL _ (by rfl) hown.out ⟨V.heap.size, 0, none⟩ 1 1 [.string y.tk.key, .string y.tk.sticky, .int .i64 y.tk.ready, .int .i64 (y.tk.att + 1), .int .i64 (last + 1), .string who, .int .i64 ul] (by rfl) (by rfl) hnews.out (by intro u hu; simp at hu; rcases hu with rfl | rfl | rfl | rfl | rfl | rfl | rfl <;> rfl) (by omega) hl1.out hl2.out (Nat.zero_le _) (V.heap.size + 1) (by simp) ?_; intro ag cc1 y1 hown1 hgr1 hat1 hlt1; have hb4 := Lib.hid (HBB.out.turns (.of_grown (S := fun i => (Value.slice AZ zL cZ).ownBlock = some i) hgr1 (fun r e => e)) (fun e => hnq e)); have c1 := hb4.out.cell 4; have y1z := hb4.out.fz 4; simp only [List.set_cons_succ, List.set_cons_zero, List.getElem?_cons_succ, List.getElem?_cons_zero] at c1))
        all_goals
          obtain ⟨hq2, ht2⟩ := rq_away (x := polled y (last + 1) who ul) JV.out HZL.out HBX2.out hgr1 hown1 (hat1.imp id (fun e => Nat.le_of_eq e.symm)) (by omega)
          have HQ2 := Lib.hid hq2
          have HT2 := Lib.hid ht2
          have HAT := Lib.hid hat1
          have hkt := KV.out.turns (Turns.of_below (S := RQSet r (.slice A' (iL - 1) c') (.slice AZ zL cZ)) (Below.refl V.heap.size V)) (fun e => HNb.out _ e rfl)
          have HKE := Lib.hid (KV.out.turns HT2.out (fun e => HNb.out _ e rfl))
          clear hq2 ht2 hown1 hgr1 hat1 c1 y1z zf zfA q1 u0 u1 u2 u3 u4 u5 u6 hkt
          generalize y1.setCell ⟨r, 4, none⟩ (.slice (some ⟨ag, 0, none⟩) (zL + 1) cc1) = W2 at *
          have u0 := HKE.out.cell 0
          have u3 := HKE.out.cell 3
          have u4 := HKE.out.cell 4
          simp only [List.getElem?_cons_succ, List.getElem?_cons_zero] at u0 u3 u4
          go_wp2_with fail
          go_quiet (fail)
          go_wp2_with fail
          refine bodyPost_ret (results_tmp4 rfl _ _ _) rfl ?_
          have hd := below_drewN' (Below.refl W2.heap.size W2) nq
          have hyk : I[k]'(HKI.out) = y := HY.out
          refine .inr ⟨k, HKI.out, ?_⟩
          simp only [hyk, HUL.out]
          refine ⟨HBF.out, fun j hj hjk => HN.out j hj hjk, rfl, _, _, HQ2.out.bel hd, fun i hi => ?_, (HTV.out.trans HT2.out (fun i hi e => ?_)).then (Turns.of_below hd)⟩
          · rcases hi with e | e | e
            · exact .inl (.inl e)
            · exact .inr (by have := (own_lt HO.out e).1; have h1 := HB2s.out; omega)
            · simp [Value.ownBlock] at e
              subst e
              rcases HAT.out with e | e
              · exact .inl (.inr (.inr e))
              · exact .inr (by have h1 := HTV.out.size; omega)
          · rcases e with e | e | e
            · exact .inl e
            · have := (own_lt HO.out e).1; have h1 := HB2s.out; omega
            · exact .inr (.inr e)
    · obtain rfl : k = iL := by omega
      have hlt1 : ¬ (k : Int) < (k : Int) := by omega
      go_wp2_with fail
      refine bodyPost_ret (results_tmp4 rfl _ _ _) rfl ?_
      exact .inl ⟨rfl, fun j hj => HN.out j hj (by rw [← HIL.out]; exact hj), hB.out⟩
end Go.Proofs.YtpbheicfplpemaaGreat
