/- tree.forms: the table of what twigs may be. -/
import Derived.Test.YtmacmejpcpdnnaaCkSmall
import Derived.Test.YtmacmejpcpdnnaaBlk
namespace Go.Proofs.Ytmacmejpcpdnnaa
open Go.RowKit

theorem run_store_fn' (P : Program) (w : World) (a : Addr) (m : Mode) (fn : Fn) (f c : Array Value) : (store a (.func fn f c) m).run P w = stored P w a (.func fn f c) m := run_store P w a _ m rfl
theorem run_store_nf' (P : Program) (w : World) (a : Addr) (m : Mode) : (store a .nilFunc m).run P w = stored P w a .nilFunc m := run_store P w a _ m rfl
attribute [local go_sem] run_store_fn' run_store_nf'
def kU8 (n : Nat) : Value := .int .u8 (n : Int)
theorem u8_keys {P : Program} {kt : TypeId} (h : P.underlying kt = some (.int .u8)) : KeyLaw P kt kU8 :=
  plain_keys h (fun _ => rfl) (fun a b e => by unfold kU8 at e; injection e with _ e; omega)
def formV (f : Form) : Value := .agg #[.func (.func (txtF f.txt)) #[] #[], .int .i64 f.least, .int .i64 f.most, .func (.func (prtF f.prt)) #[] #[]]
def formZ : Value := .agg #[.nilFunc, .int .i64 0, .int .i64 0, .nilFunc]
def s0 : List Nat := [1, 2, 3, 6, 7, 23, 24, 25, 53]
def tabK (k op : Nat) : Option Value := if op < k ∨ op ∈ s0 then (formT op).map formV else none
/-- a table that answers as m -/
def Tab (w : World) (r : Nat) (m : Nat → Option Value) : Prop := ∃ n, MapIs kU8 w r m n
section
variable {K : Type} {P : Program} {kv : K → Value} {r n : Nat} {mm : K → Option Value} {kt e t : TypeId} (w : World) {ops : Array Oper} {rest : List Oper} {o : Oper} {a : Act} {Q : Exit → Act → World → Prop}
theorem wpl_insert [DecidableEq K] (hg : o.guard = none) (m x v : Operand) (t : TypeId) (hop : o.op = Op.insert t m x v) (L : KeyLaw P kt kv) (ht : P.underlying t = some (.map kt e)) (h : ∃ n, MapIs kv w r mm n)
    (k : K) (val : Value) (hm : a.eval m = .map (some r)) (hx : a.eval x = kv k) (hv : a.eval v = val)
    (hK : ∀ w', (∃ n, MapIs kv w' r (fun k' => if k' = k then some val else mm k') n) → MapTurn w w' r → wpList P ops Q rest (a.put o.dst undef) w') :
    wpList P ops Q (o :: rest) a w := by
  refine wpList_plain hg fun K' hK' => ?_
  obtain ⟨n, h⟩ := h
  obtain ⟨w', hrun, r1, r2⟩ := h.update L ht k val
  unfold Oper.wp
  simp [execOp, hop, hm, hx, hv, hrun, Result.andThen]
  exact hK' _ _ (hK w' ⟨_, r1⟩ r2)
end
theorem zeroForm (w : World) : (zeroValue 68).run Try.prog w = .ok formZ w := by kernel_rfl
theorem tab_start : ((fun k' => (if k' = 23 then some (Value.agg #[.func (.func 47) #[] #[], .int .i64 0, .int .i64 0, .func (.func 46) #[] #[]]) else (if k' = 53 then some (Value.agg #[.func (.func 47) #[] #[], .int .i64 1, .int .i64 1, .func (.func 52) #[] #[]]) else (if k' = 25 then some (Value.agg #[.func (.func 47) #[] #[], .int .i64 0, .int .i64 2048, .func (.func 51) #[] #[]]) else (if k' = 24 then some (Value.agg #[.func (.func 50) #[] #[], .int .i64 0, .int .i64 0, .func (.func 46) #[] #[]]) else (if k' = 7 then some (Value.agg #[.func (.func 47) #[] #[], .int .i64 2, .int .i64 2, .func (.func 49) #[] #[]]) else (if k' = 6 then some (Value.agg #[.func (.func 47) #[] #[], .int .i64 2, .int .i64 3, .func (.func 49) #[] #[]]) else (if k' = 3 then some (Value.agg #[.func (.func 47) #[] #[], .int .i64 0, .int .i64 2048, .func (.func 48) #[] #[]]) else (if k' = 2 then some (Value.agg #[.func (.func 44) #[] #[], .int .i64 0, .int .i64 0, .func (.func 46) #[] #[]]) else (if k' = 1 then some (Value.agg #[.func (.func 44) #[] #[], .int .i64 1, .int .i64 2048, .func (.func 45) #[] #[]]) else (none : Option Value))))))))))) : Nat → Option Value) = tabK 1 := by
  funext k'
  by_cases h23 : k' = 23
  · subst h23; rfl
  rw [if_neg h23]
  by_cases h53 : k' = 53
  · subst h53; rfl
  rw [if_neg h53]
  by_cases h25 : k' = 25
  · subst h25; rfl
  rw [if_neg h25]
  by_cases h24 : k' = 24
  · subst h24; rfl
  rw [if_neg h24]
  by_cases h7 : k' = 7
  · subst h7; rfl
  rw [if_neg h7]
  by_cases h6 : k' = 6
  · subst h6; rfl
  rw [if_neg h6]
  by_cases h3 : k' = 3
  · subst h3; rfl
  rw [if_neg h3]
  by_cases h2 : k' = 2
  · subst h2; rfl
  rw [if_neg h2]
  by_cases h1 : k' = 1
  · subst h1; rfl
  rw [if_neg h1]
  unfold tabK
  by_cases h : k' < 1 ∨ k' ∈ s0
  · rw [if_pos h]
    have : k' = 0 := by simp [s0] at h; omega
    subst this
    rfl
  · rw [if_neg h]
theorem tab_in {k : Nat} (h : k ∈ s0) : tabK (k + 1) = tabK k := by
  funext j
  unfold tabK
  by_cases e : j = k
  · subst e; rw [if_pos (.inl (Nat.lt_succ_self _)), if_pos (.inr h)]
  · by_cases h2 : j < k ∨ j ∈ s0
    · rw [if_pos h2, if_pos (by rcases h2 with h2 | h2; exact .inl (by omega); exact .inr h2)]
    · rw [if_neg h2, if_neg (fun h3 => h2 (by rcases h3 with h3 | h3; exact .inl (by omega); exact .inr h3))]
theorem tab_up {k : Nat} {f : Form} (h : formT k = some f) : (fun j => if j = k then some (formV f) else tabK k j) = tabK (k + 1) := by
  funext j
  by_cases e : j = k
  · subst e; rw [if_pos rfl]; unfold tabK; rw [if_pos (.inl (Nat.lt_succ_self _)), h]; rfl
  · rw [if_neg e]
    unfold tabK
    by_cases h2 : j < k ∨ j ∈ s0
    · rw [if_pos h2, if_pos (by rcases h2 with h2 | h2; exact .inl (by omega); exact .inr h2)]
    · rw [if_neg h2, if_neg (fun h3 => h2 (by rcases h3 with h3 | h3; exact .inl (by omega); exact .inr h3))]
theorem tab_none {k : Nat} (h : formT k = none) : tabK (k + 1) = tabK k := by
  funext j
  by_cases e : j = k
  · subst e; unfold tabK; rw [h]; simp
  · unfold tabK
    by_cases h2 : j < k ∨ j ∈ s0
    · rw [if_pos h2, if_pos (by rcases h2 with h2 | h2; exact .inl (by omega); exact .inr h2)]
    · rw [if_neg h2, if_neg (fun h3 => h2 (by rcases h3 with h3 | h3; exact .inl (by omega); exact .inr h3))]
theorem tab_all : tabK 58 = fun op => (formT op).map formV := by
  funext j
  unfold tabK
  by_cases h : j < 58 ∨ j ∈ s0
  · rw [if_pos h]
  · rw [if_neg h]
    have hj : 58 ≤ j := by omega
    have : formT j = none := by unfold formT; repeat (rw [if_neg (by omega)])
    rw [this]; rfl
set_option maxRecDepth 20000 in
set_option maxHeartbeats 4000000 in
theorem forms_any (w : World) : Calls Try.prog 32 #[] w fun e w' => ∃ M, e = .returned (.map (some M)) ∧ Tab w' M (fun op => (formT op).map formV) ∧ w.heap.size ≤ M ∧ Below w.heap.size w w' := by
  have hmm := @run_makeMap Try.prog
  have M0 : ∃ n, MapIs kU8 (w.alloc (.map #[] 0)) w.heap.size (fun _ => none) n := ⟨0, MapIs.empty kU8 w⟩
  have B0 : Below w.heap.size w (w.alloc (.map #[] 0)) := (Below.refl _ _).alloc (Nat.le_refl _) _
  go_enter Try.func32, Try.ntmps32
  have M0 := Lib.hid M0
  go_wp2_with (first | (refine wpl_insert _ rfl _ _ _ 62 rfl (u8_keys Try.underlying5) Try.underlying62 M0.out 1 (Value.agg #[.func (.func 44) #[] #[], .int .i64 1, .int .i64 2048, .func (.func 45) #[] #[]]) rfl rfl rfl ?_; intro w1 hM hT; have M1 := Lib.hid hM; have T1 := Lib.hid hT; clear hM hT) | (refine wpl_insert _ rfl _ _ _ 62 rfl (u8_keys Try.underlying5) Try.underlying62 M1.out 2 (Value.agg #[.func (.func 44) #[] #[], .int .i64 0, .int .i64 0, .func (.func 46) #[] #[]]) rfl rfl rfl ?_; intro w2 hM hT; have M2 := Lib.hid hM; have T2 := Lib.hid hT; clear hM hT) | (refine wpl_insert _ rfl _ _ _ 62 rfl (u8_keys Try.underlying5) Try.underlying62 M2.out 3 (Value.agg #[.func (.func 47) #[] #[], .int .i64 0, .int .i64 2048, .func (.func 48) #[] #[]]) rfl rfl rfl ?_; intro w3 hM hT; have M3 := Lib.hid hM; have T3 := Lib.hid hT; clear hM hT) | (refine wpl_insert _ rfl _ _ _ 62 rfl (u8_keys Try.underlying5) Try.underlying62 M3.out 6 (Value.agg #[.func (.func 47) #[] #[], .int .i64 2, .int .i64 3, .func (.func 49) #[] #[]]) rfl rfl rfl ?_; intro w4 hM hT; have M4 := Lib.hid hM; have T4 := Lib.hid hT; clear hM hT) | (refine wpl_insert _ rfl _ _ _ 62 rfl (u8_keys Try.underlying5) Try.underlying62 M4.out 7 (Value.agg #[.func (.func 47) #[] #[], .int .i64 2, .int .i64 2, .func (.func 49) #[] #[]]) rfl rfl rfl ?_; intro w5 hM hT; have M5 := Lib.hid hM; have T5 := Lib.hid hT; clear hM hT) | (refine wpl_insert _ rfl _ _ _ 62 rfl (u8_keys Try.underlying5) Try.underlying62 M5.out 24 (Value.agg #[.func (.func 50) #[] #[], .int .i64 0, .int .i64 0, .func (.func 46) #[] #[]]) rfl rfl rfl ?_; intro w6 hM hT; have M6 := Lib.hid hM; have T6 := Lib.hid hT; clear hM hT) | (refine wpl_insert _ rfl _ _ _ 62 rfl (u8_keys Try.underlying5) Try.underlying62 M6.out 25 (Value.agg #[.func (.func 47) #[] #[], .int .i64 0, .int .i64 2048, .func (.func 51) #[] #[]]) rfl rfl rfl ?_; intro w7 hM hT; have M7 := Lib.hid hM; have T7 := Lib.hid hT; clear hM hT) | (refine wpl_insert _ rfl _ _ _ 62 rfl (u8_keys Try.underlying5) Try.underlying62 M7.out 53 (Value.agg #[.func (.func 47) #[] #[], .int .i64 1, .int .i64 1, .func (.func 52) #[] #[]]) rfl rfl rfl ?_; intro w8 hM hT; have M8 := Lib.hid hM; have T8 := Lib.hid hT; clear hM hT) | (refine wpl_insert _ rfl _ _ _ 62 rfl (u8_keys Try.underlying5) Try.underlying62 M8.out 23 (Value.agg #[.func (.func 47) #[] #[], .int .i64 0, .int .i64 0, .func (.func 46) #[] #[]]) rfl rfl rfl ?_; intro w9 hM hT; have M9 := Lib.hid hM; have T9 := Lib.hid hT; clear hM hT))
  have hB : Below w.heap.size w w9 := by
    have b1 := B0.grown T1.out.grown B0.size (fun _ e => by injection e with e; omega)
    have b2 := b1.grown T2.out.grown b1.size (fun _ e => by injection e with e; omega)
    have b3 := b2.grown T3.out.grown b2.size (fun _ e => by injection e with e; omega)
    have b4 := b3.grown T4.out.grown b3.size (fun _ e => by injection e with e; omega)
    have b5 := b4.grown T5.out.grown b4.size (fun _ e => by injection e with e; omega)
    have b6 := b5.grown T6.out.grown b5.size (fun _ e => by injection e with e; omega)
    have b7 := b6.grown T7.out.grown b6.size (fun _ e => by injection e with e; omega)
    have b8 := b7.grown T8.out.grown b7.size (fun _ e => by injection e with e; omega)
    have b9 := b8.grown T9.out.grown b8.size (fun _ e => by injection e with e; omega)
    exact b9
  have HB := Lib.hid hB
  have HM : Hid (Tab w9 w.heap.size (tabK 1)) := Lib.hid (by rw [← tab_start]; exact M9.out)
  clear hB M0 M1 M2 M3 M4 M5 M6 M7 M8 M9 T1 T2 T3 T4 T5 T6 T7 T8 T9 B0
  obtain ⟨r, hr⟩ : ∃ r, r = w.heap.size := ⟨_, rfl⟩
  rw [← hr] at HM ⊢
  have HRR := Lib.hid hr
  clear hr
  go_loopw [2] (fun iv wr => ∃ k : Nat, 1 ≤ k ∧ k ≤ 58 ∧ iv = .int .u8 (k : Int) ∧ Hid (Tab wr r (tabK k)) ∧ Hid (Below w.heap.size w wr)) (fun iv _ => 58 - (intOf iv).toNat)
  case atStart => exact ⟨1, by omega, by omega, rfl, HM, HB⟩
  case round =>
    clear HM HB
    obtain ⟨k, hk1, hk2, rfl, HM, HB⟩ := hrel
    by_cases hlt : k < 58
    · obtain ⟨n, hm⟩ := HM.out
      have HMn := Lib.hid hm
      clear hm HM
      have hk : k = 1 ∨ k = 2 ∨ k = 3 ∨ k = 4 ∨ k = 5 ∨ k = 6 ∨ k = 7 ∨ k = 8 ∨ k = 9 ∨ k = 10 ∨ k = 11 ∨ k = 12 ∨ k = 13 ∨ k = 14 ∨ k = 15 ∨ k = 16 ∨ k = 17 ∨ k = 18 ∨ k = 19 ∨ k = 20 ∨ k = 21 ∨ k = 22 ∨ k = 23 ∨ k = 24 ∨ k = 25 ∨ k = 26 ∨ k = 27 ∨ k = 28 ∨ k = 29 ∨ k = 30 ∨ k = 31 ∨ k = 32 ∨ k = 33 ∨ k = 34 ∨ k = 35 ∨ k = 36 ∨ k = 37 ∨ k = 38 ∨ k = 39 ∨ k = 40 ∨ k = 41 ∨ k = 42 ∨ k = 43 ∨ k = 44 ∨ k = 45 ∨ k = 46 ∨ k = 47 ∨ k = 48 ∨ k = 49 ∨ k = 50 ∨ k = 51 ∨ k = 52 ∨ k = 53 ∨ k = 54 ∨ k = 55 ∨ k = 56 ∨ k = 57 := by omega
      clear hk1 hk2 hlt
      rcases hk with rfl | rfl | rfl | rfl | rfl | rfl | rfl | rfl | rfl | rfl | rfl | rfl | rfl | rfl | rfl | rfl | rfl | rfl | rfl | rfl | rfl | rfl | rfl | rfl | rfl | rfl | rfl | rfl | rfl | rfl | rfl | rfl | rfl | rfl | rfl | rfl | rfl | rfl | rfl | rfl | rfl | rfl | rfl | rfl | rfl | rfl | rfl | rfl | rfl | rfl | rfl | rfl | rfl | rfl | rfl | rfl | rfl
      · go_wp2_with (at_lookup; refine wpl_lookup _ rfl _ _ 62 true rfl (u8_keys Try.underlying5) Try.underlying62 HMn.out 1 (Value.agg #[.nilFunc, .int .i64 0, .int .i64 0, .nilFunc]) (zeroForm _) rfl rfl ?_; rw [show tabK 1 1 = some (Value.agg #[.func (.func 44) #[] #[], .int .i64 1, .int .i64 2048, .func (.func 45) #[] #[]]) from rfl])
        exact ⟨⟨2, by omega, by omega, rfl, Lib.hid ⟨n, by rw [tab_in (k := 1) (by decide)]; exact HMn.out.alloc _⟩, Lib.hid (HB.out.alloc HB.out.size _)⟩, by simp [intOf]⟩
      · go_wp2_with (at_lookup; refine wpl_lookup _ rfl _ _ 62 true rfl (u8_keys Try.underlying5) Try.underlying62 HMn.out 2 (Value.agg #[.nilFunc, .int .i64 0, .int .i64 0, .nilFunc]) (zeroForm _) rfl rfl ?_; rw [show tabK 2 2 = some (Value.agg #[.func (.func 44) #[] #[], .int .i64 0, .int .i64 0, .func (.func 46) #[] #[]]) from rfl])
        exact ⟨⟨3, by omega, by omega, rfl, Lib.hid ⟨n, by rw [tab_in (k := 2) (by decide)]; exact HMn.out.alloc _⟩, Lib.hid (HB.out.alloc HB.out.size _)⟩, by simp [intOf]⟩
      · go_wp2_with (at_lookup; refine wpl_lookup _ rfl _ _ 62 true rfl (u8_keys Try.underlying5) Try.underlying62 HMn.out 3 (Value.agg #[.nilFunc, .int .i64 0, .int .i64 0, .nilFunc]) (zeroForm _) rfl rfl ?_; rw [show tabK 3 3 = some (Value.agg #[.func (.func 47) #[] #[], .int .i64 0, .int .i64 2048, .func (.func 48) #[] #[]]) from rfl])
        exact ⟨⟨4, by omega, by omega, rfl, Lib.hid ⟨n, by rw [tab_in (k := 3) (by decide)]; exact HMn.out.alloc _⟩, Lib.hid (HB.out.alloc HB.out.size _)⟩, by simp [intOf]⟩
      · go_wp2_with (first | (at_lookup; refine wpl_lookup _ rfl _ _ 62 true rfl (u8_keys Try.underlying5) Try.underlying62 HMn.out 4 (Value.agg #[.nilFunc, .int .i64 0, .int .i64 0, .nilFunc]) (zeroForm _) rfl rfl ?_; rw [show tabK 4 4 = none from rfl]) | (at_mapUpdate; refine wpl_update _ rfl _ _ _ 62 rfl (u8_keys Try.underlying5) Try.underlying62 (HMn.out.alloc _) 4 (Value.agg #[.func (.func 44) #[] #[], .int .i64 1, .int .i64 1, .func (.func 51) #[] #[]]) rfl rfl rfl ?_; intro w3 hm3 ht3))
        have hs : w.heap.size ≤ (wr.alloc (.cells #[.nilFunc, .int .i64 0, .int .i64 0, .nilFunc] 68)).heap.size := by have := HB.out.size; simp; omega
        exact ⟨⟨5, by omega, by omega, rfl, Lib.hid ⟨_, by rw [← tab_up (k := 4) (f := ⟨.own, 1, 1, .expr⟩) rfl]; exact hm3⟩, Lib.hid ((HB.out.alloc HB.out.size _).grown ht3.grown hs (fun _ e => by injection e with e; rw [← e, HRR.out]; exact Nat.le_refl _))⟩, by simp [intOf]⟩
      · go_wp2_with (first | (at_lookup; refine wpl_lookup _ rfl _ _ 62 true rfl (u8_keys Try.underlying5) Try.underlying62 HMn.out 5 (Value.agg #[.nilFunc, .int .i64 0, .int .i64 0, .nilFunc]) (zeroForm _) rfl rfl ?_; rw [show tabK 5 5 = none from rfl]) | (at_mapUpdate; refine wpl_update _ rfl _ _ _ 62 rfl (u8_keys Try.underlying5) Try.underlying62 (HMn.out.alloc _) 5 (Value.agg #[.func (.func 44) #[] #[], .int .i64 1, .int .i64 1, .func (.func 51) #[] #[]]) rfl rfl rfl ?_; intro w3 hm3 ht3))
        have hs : w.heap.size ≤ (wr.alloc (.cells #[.nilFunc, .int .i64 0, .int .i64 0, .nilFunc] 68)).heap.size := by have := HB.out.size; simp; omega
        exact ⟨⟨6, by omega, by omega, rfl, Lib.hid ⟨_, by rw [← tab_up (k := 5) (f := ⟨.own, 1, 1, .expr⟩) rfl]; exact hm3⟩, Lib.hid ((HB.out.alloc HB.out.size _).grown ht3.grown hs (fun _ e => by injection e with e; rw [← e, HRR.out]; exact Nat.le_refl _))⟩, by simp [intOf]⟩
      · go_wp2_with (at_lookup; refine wpl_lookup _ rfl _ _ 62 true rfl (u8_keys Try.underlying5) Try.underlying62 HMn.out 6 (Value.agg #[.nilFunc, .int .i64 0, .int .i64 0, .nilFunc]) (zeroForm _) rfl rfl ?_; rw [show tabK 6 6 = some (Value.agg #[.func (.func 47) #[] #[], .int .i64 2, .int .i64 3, .func (.func 49) #[] #[]]) from rfl])
        exact ⟨⟨7, by omega, by omega, rfl, Lib.hid ⟨n, by rw [tab_in (k := 6) (by decide)]; exact HMn.out.alloc _⟩, Lib.hid (HB.out.alloc HB.out.size _)⟩, by simp [intOf]⟩
      · go_wp2_with (at_lookup; refine wpl_lookup _ rfl _ _ 62 true rfl (u8_keys Try.underlying5) Try.underlying62 HMn.out 7 (Value.agg #[.nilFunc, .int .i64 0, .int .i64 0, .nilFunc]) (zeroForm _) rfl rfl ?_; rw [show tabK 7 7 = some (Value.agg #[.func (.func 47) #[] #[], .int .i64 2, .int .i64 2, .func (.func 49) #[] #[]]) from rfl])
        exact ⟨⟨8, by omega, by omega, rfl, Lib.hid ⟨n, by rw [tab_in (k := 7) (by decide)]; exact HMn.out.alloc _⟩, Lib.hid (HB.out.alloc HB.out.size _)⟩, by simp [intOf]⟩
      · go_wp2_with (first | (at_lookup; refine wpl_lookup _ rfl _ _ 62 true rfl (u8_keys Try.underlying5) Try.underlying62 HMn.out 8 (Value.agg #[.nilFunc, .int .i64 0, .int .i64 0, .nilFunc]) (zeroForm _) rfl rfl ?_; rw [show tabK 8 8 = none from rfl]) | (at_mapUpdate; refine wpl_update _ rfl _ _ _ 62 rfl (u8_keys Try.underlying5) Try.underlying62 (HMn.out.alloc _) 8 (Value.agg #[.func (.func 47) #[] #[], .int .i64 1, .int .i64 1, .func (.func 51) #[] #[]]) rfl rfl rfl ?_; intro w3 hm3 ht3))
        have hs : w.heap.size ≤ (wr.alloc (.cells #[.nilFunc, .int .i64 0, .int .i64 0, .nilFunc] 68)).heap.size := by have := HB.out.size; simp; omega
        exact ⟨⟨9, by omega, by omega, rfl, Lib.hid ⟨_, by rw [← tab_up (k := 8) (f := ⟨.empty, 1, 1, .expr⟩) rfl]; exact hm3⟩, Lib.hid ((HB.out.alloc HB.out.size _).grown ht3.grown hs (fun _ e => by injection e with e; rw [← e, HRR.out]; exact Nat.le_refl _))⟩, by simp [intOf]⟩
      · go_wp2_with (first | (at_lookup; refine wpl_lookup _ rfl _ _ 62 true rfl (u8_keys Try.underlying5) Try.underlying62 HMn.out 9 (Value.agg #[.nilFunc, .int .i64 0, .int .i64 0, .nilFunc]) (zeroForm _) rfl rfl ?_; rw [show tabK 9 9 = none from rfl]) | (at_mapUpdate; refine wpl_update _ rfl _ _ _ 62 rfl (u8_keys Try.underlying5) Try.underlying62 (HMn.out.alloc _) 9 (Value.agg #[.func (.func 47) #[] #[], .int .i64 1, .int .i64 1, .func (.func 51) #[] #[]]) rfl rfl rfl ?_; intro w3 hm3 ht3))
        have hs : w.heap.size ≤ (wr.alloc (.cells #[.nilFunc, .int .i64 0, .int .i64 0, .nilFunc] 68)).heap.size := by have := HB.out.size; simp; omega
        exact ⟨⟨10, by omega, by omega, rfl, Lib.hid ⟨_, by rw [← tab_up (k := 9) (f := ⟨.empty, 1, 1, .expr⟩) rfl]; exact hm3⟩, Lib.hid ((HB.out.alloc HB.out.size _).grown ht3.grown hs (fun _ e => by injection e with e; rw [← e, HRR.out]; exact Nat.le_refl _))⟩, by simp [intOf]⟩
      · go_wp2_with (first | (at_lookup; refine wpl_lookup _ rfl _ _ 62 true rfl (u8_keys Try.underlying5) Try.underlying62 HMn.out 10 (Value.agg #[.nilFunc, .int .i64 0, .int .i64 0, .nilFunc]) (zeroForm _) rfl rfl ?_; rw [show tabK 10 10 = none from rfl]) | (at_mapUpdate; refine wpl_update _ rfl _ _ _ 62 rfl (u8_keys Try.underlying5) Try.underlying62 (HMn.out.alloc _) 10 (Value.agg #[.func (.func 47) #[] #[], .int .i64 1, .int .i64 1, .func (.func 51) #[] #[]]) rfl rfl rfl ?_; intro w3 hm3 ht3))
        have hs : w.heap.size ≤ (wr.alloc (.cells #[.nilFunc, .int .i64 0, .int .i64 0, .nilFunc] 68)).heap.size := by have := HB.out.size; simp; omega
        exact ⟨⟨11, by omega, by omega, rfl, Lib.hid ⟨_, by rw [← tab_up (k := 10) (f := ⟨.empty, 1, 1, .expr⟩) rfl]; exact hm3⟩, Lib.hid ((HB.out.alloc HB.out.size _).grown ht3.grown hs (fun _ e => by injection e with e; rw [← e, HRR.out]; exact Nat.le_refl _))⟩, by simp [intOf]⟩
      · go_wp2_with (first | (at_lookup; refine wpl_lookup _ rfl _ _ 62 true rfl (u8_keys Try.underlying5) Try.underlying62 HMn.out 11 (Value.agg #[.nilFunc, .int .i64 0, .int .i64 0, .nilFunc]) (zeroForm _) rfl rfl ?_; rw [show tabK 11 11 = none from rfl]) | (at_mapUpdate; refine wpl_update _ rfl _ _ _ 62 rfl (u8_keys Try.underlying5) Try.underlying62 (HMn.out.alloc _) 11 (Value.agg #[.func (.func 47) #[] #[], .int .i64 1, .int .i64 1, .func (.func 51) #[] #[]]) rfl rfl rfl ?_; intro w3 hm3 ht3))
        have hs : w.heap.size ≤ (wr.alloc (.cells #[.nilFunc, .int .i64 0, .int .i64 0, .nilFunc] 68)).heap.size := by have := HB.out.size; simp; omega
        exact ⟨⟨12, by omega, by omega, rfl, Lib.hid ⟨_, by rw [← tab_up (k := 11) (f := ⟨.empty, 1, 1, .expr⟩) rfl]; exact hm3⟩, Lib.hid ((HB.out.alloc HB.out.size _).grown ht3.grown hs (fun _ e => by injection e with e; rw [← e, HRR.out]; exact Nat.le_refl _))⟩, by simp [intOf]⟩
      · go_wp2_with (at_lookup; refine wpl_lookup _ rfl _ _ 62 true rfl (u8_keys Try.underlying5) Try.underlying62 HMn.out 12 (Value.agg #[.nilFunc, .int .i64 0, .int .i64 0, .nilFunc]) (zeroForm _) rfl rfl ?_; rw [show tabK 12 12 = none from rfl])
        exact ⟨⟨13, by omega, by omega, rfl, Lib.hid ⟨n, by rw [tab_none (k := 12) rfl]; exact HMn.out.alloc _⟩, Lib.hid (HB.out.alloc HB.out.size _)⟩, by simp [intOf]⟩
      · go_wp2_with (at_lookup; refine wpl_lookup _ rfl _ _ 62 true rfl (u8_keys Try.underlying5) Try.underlying62 HMn.out 13 (Value.agg #[.nilFunc, .int .i64 0, .int .i64 0, .nilFunc]) (zeroForm _) rfl rfl ?_; rw [show tabK 13 13 = none from rfl])
        exact ⟨⟨14, by omega, by omega, rfl, Lib.hid ⟨n, by rw [tab_none (k := 13) rfl]; exact HMn.out.alloc _⟩, Lib.hid (HB.out.alloc HB.out.size _)⟩, by simp [intOf]⟩
      · go_wp2_with (at_lookup; refine wpl_lookup _ rfl _ _ 62 true rfl (u8_keys Try.underlying5) Try.underlying62 HMn.out 14 (Value.agg #[.nilFunc, .int .i64 0, .int .i64 0, .nilFunc]) (zeroForm _) rfl rfl ?_; rw [show tabK 14 14 = none from rfl])
        exact ⟨⟨15, by omega, by omega, rfl, Lib.hid ⟨n, by rw [tab_none (k := 14) rfl]; exact HMn.out.alloc _⟩, Lib.hid (HB.out.alloc HB.out.size _)⟩, by simp [intOf]⟩
      · go_wp2_with (at_lookup; refine wpl_lookup _ rfl _ _ 62 true rfl (u8_keys Try.underlying5) Try.underlying62 HMn.out 15 (Value.agg #[.nilFunc, .int .i64 0, .int .i64 0, .nilFunc]) (zeroForm _) rfl rfl ?_; rw [show tabK 15 15 = none from rfl])
        exact ⟨⟨16, by omega, by omega, rfl, Lib.hid ⟨n, by rw [tab_none (k := 15) rfl]; exact HMn.out.alloc _⟩, Lib.hid (HB.out.alloc HB.out.size _)⟩, by simp [intOf]⟩
      · go_wp2_with (at_lookup; refine wpl_lookup _ rfl _ _ 62 true rfl (u8_keys Try.underlying5) Try.underlying62 HMn.out 16 (Value.agg #[.nilFunc, .int .i64 0, .int .i64 0, .nilFunc]) (zeroForm _) rfl rfl ?_; rw [show tabK 16 16 = none from rfl])
        exact ⟨⟨17, by omega, by omega, rfl, Lib.hid ⟨n, by rw [tab_none (k := 16) rfl]; exact HMn.out.alloc _⟩, Lib.hid (HB.out.alloc HB.out.size _)⟩, by simp [intOf]⟩
      · go_wp2_with (at_lookup; refine wpl_lookup _ rfl _ _ 62 true rfl (u8_keys Try.underlying5) Try.underlying62 HMn.out 17 (Value.agg #[.nilFunc, .int .i64 0, .int .i64 0, .nilFunc]) (zeroForm _) rfl rfl ?_; rw [show tabK 17 17 = none from rfl])
        exact ⟨⟨18, by omega, by omega, rfl, Lib.hid ⟨n, by rw [tab_none (k := 17) rfl]; exact HMn.out.alloc _⟩, Lib.hid (HB.out.alloc HB.out.size _)⟩, by simp [intOf]⟩
      · go_wp2_with (at_lookup; refine wpl_lookup _ rfl _ _ 62 true rfl (u8_keys Try.underlying5) Try.underlying62 HMn.out 18 (Value.agg #[.nilFunc, .int .i64 0, .int .i64 0, .nilFunc]) (zeroForm _) rfl rfl ?_; rw [show tabK 18 18 = none from rfl])
        exact ⟨⟨19, by omega, by omega, rfl, Lib.hid ⟨n, by rw [tab_none (k := 18) rfl]; exact HMn.out.alloc _⟩, Lib.hid (HB.out.alloc HB.out.size _)⟩, by simp [intOf]⟩
      · go_wp2_with (at_lookup; refine wpl_lookup _ rfl _ _ 62 true rfl (u8_keys Try.underlying5) Try.underlying62 HMn.out 19 (Value.agg #[.nilFunc, .int .i64 0, .int .i64 0, .nilFunc]) (zeroForm _) rfl rfl ?_; rw [show tabK 19 19 = none from rfl])
        exact ⟨⟨20, by omega, by omega, rfl, Lib.hid ⟨n, by rw [tab_none (k := 19) rfl]; exact HMn.out.alloc _⟩, Lib.hid (HB.out.alloc HB.out.size _)⟩, by simp [intOf]⟩
      · go_wp2_with (first | (at_lookup; refine wpl_lookup _ rfl _ _ 62 true rfl (u8_keys Try.underlying5) Try.underlying62 HMn.out 20 (Value.agg #[.nilFunc, .int .i64 0, .int .i64 0, .nilFunc]) (zeroForm _) rfl rfl ?_; rw [show tabK 20 20 = none from rfl]) | (at_mapUpdate; refine wpl_update _ rfl _ _ _ 62 rfl (u8_keys Try.underlying5) Try.underlying62 (HMn.out.alloc _) 20 (Value.agg #[.func (.func 47) #[] #[], .int .i64 0, .int .i64 0, .func (.func 46) #[] #[]]) rfl rfl rfl ?_; intro w3 hm3 ht3))
        have hs : w.heap.size ≤ (wr.alloc (.cells #[.nilFunc, .int .i64 0, .int .i64 0, .nilFunc] 68)).heap.size := by have := HB.out.size; simp; omega
        exact ⟨⟨21, by omega, by omega, rfl, Lib.hid ⟨_, by rw [← tab_up (k := 20) (f := ⟨.empty, 0, 0, .nothing⟩) rfl]; exact hm3⟩, Lib.hid ((HB.out.alloc HB.out.size _).grown ht3.grown hs (fun _ e => by injection e with e; rw [← e, HRR.out]; exact Nat.le_refl _))⟩, by simp [intOf]⟩
      · go_wp2_with (first | (at_lookup; refine wpl_lookup _ rfl _ _ 62 true rfl (u8_keys Try.underlying5) Try.underlying62 HMn.out 21 (Value.agg #[.nilFunc, .int .i64 0, .int .i64 0, .nilFunc]) (zeroForm _) rfl rfl ?_; rw [show tabK 21 21 = none from rfl]) | (at_mapUpdate; refine wpl_update _ rfl _ _ _ 62 rfl (u8_keys Try.underlying5) Try.underlying62 (HMn.out.alloc _) 21 (Value.agg #[.func (.func 47) #[] #[], .int .i64 0, .int .i64 0, .func (.func 46) #[] #[]]) rfl rfl rfl ?_; intro w3 hm3 ht3))
        have hs : w.heap.size ≤ (wr.alloc (.cells #[.nilFunc, .int .i64 0, .int .i64 0, .nilFunc] 68)).heap.size := by have := HB.out.size; simp; omega
        exact ⟨⟨22, by omega, by omega, rfl, Lib.hid ⟨_, by rw [← tab_up (k := 21) (f := ⟨.empty, 0, 0, .nothing⟩) rfl]; exact hm3⟩, Lib.hid ((HB.out.alloc HB.out.size _).grown ht3.grown hs (fun _ e => by injection e with e; rw [← e, HRR.out]; exact Nat.le_refl _))⟩, by simp [intOf]⟩
      · go_wp2_with (first | (at_lookup; refine wpl_lookup _ rfl _ _ 62 true rfl (u8_keys Try.underlying5) Try.underlying62 HMn.out 22 (Value.agg #[.nilFunc, .int .i64 0, .int .i64 0, .nilFunc]) (zeroForm _) rfl rfl ?_; rw [show tabK 22 22 = none from rfl]) | (at_mapUpdate; refine wpl_update _ rfl _ _ _ 62 rfl (u8_keys Try.underlying5) Try.underlying62 (HMn.out.alloc _) 22 (Value.agg #[.func (.func 47) #[] #[], .int .i64 0, .int .i64 0, .func (.func 46) #[] #[]]) rfl rfl rfl ?_; intro w3 hm3 ht3))
        have hs : w.heap.size ≤ (wr.alloc (.cells #[.nilFunc, .int .i64 0, .int .i64 0, .nilFunc] 68)).heap.size := by have := HB.out.size; simp; omega
        exact ⟨⟨23, by omega, by omega, rfl, Lib.hid ⟨_, by rw [← tab_up (k := 22) (f := ⟨.empty, 0, 0, .nothing⟩) rfl]; exact hm3⟩, Lib.hid ((HB.out.alloc HB.out.size _).grown ht3.grown hs (fun _ e => by injection e with e; rw [← e, HRR.out]; exact Nat.le_refl _))⟩, by simp [intOf]⟩
      · go_wp2_with (at_lookup; refine wpl_lookup _ rfl _ _ 62 true rfl (u8_keys Try.underlying5) Try.underlying62 HMn.out 23 (Value.agg #[.nilFunc, .int .i64 0, .int .i64 0, .nilFunc]) (zeroForm _) rfl rfl ?_; rw [show tabK 23 23 = some (Value.agg #[.func (.func 47) #[] #[], .int .i64 0, .int .i64 0, .func (.func 46) #[] #[]]) from rfl])
        exact ⟨⟨24, by omega, by omega, rfl, Lib.hid ⟨n, by rw [tab_in (k := 23) (by decide)]; exact HMn.out.alloc _⟩, Lib.hid (HB.out.alloc HB.out.size _)⟩, by simp [intOf]⟩
      · go_wp2_with (at_lookup; refine wpl_lookup _ rfl _ _ 62 true rfl (u8_keys Try.underlying5) Try.underlying62 HMn.out 24 (Value.agg #[.nilFunc, .int .i64 0, .int .i64 0, .nilFunc]) (zeroForm _) rfl rfl ?_; rw [show tabK 24 24 = some (Value.agg #[.func (.func 50) #[] #[], .int .i64 0, .int .i64 0, .func (.func 46) #[] #[]]) from rfl])
        exact ⟨⟨25, by omega, by omega, rfl, Lib.hid ⟨n, by rw [tab_in (k := 24) (by decide)]; exact HMn.out.alloc _⟩, Lib.hid (HB.out.alloc HB.out.size _)⟩, by simp [intOf]⟩
      · go_wp2_with (at_lookup; refine wpl_lookup _ rfl _ _ 62 true rfl (u8_keys Try.underlying5) Try.underlying62 HMn.out 25 (Value.agg #[.nilFunc, .int .i64 0, .int .i64 0, .nilFunc]) (zeroForm _) rfl rfl ?_; rw [show tabK 25 25 = some (Value.agg #[.func (.func 47) #[] #[], .int .i64 0, .int .i64 2048, .func (.func 51) #[] #[]]) from rfl])
        exact ⟨⟨26, by omega, by omega, rfl, Lib.hid ⟨n, by rw [tab_in (k := 25) (by decide)]; exact HMn.out.alloc _⟩, Lib.hid (HB.out.alloc HB.out.size _)⟩, by simp [intOf]⟩
      · go_wp2_with (first | (at_lookup; refine wpl_lookup _ rfl _ _ 62 true rfl (u8_keys Try.underlying5) Try.underlying62 HMn.out 26 (Value.agg #[.nilFunc, .int .i64 0, .int .i64 0, .nilFunc]) (zeroForm _) rfl rfl ?_; rw [show tabK 26 26 = none from rfl]) | (at_mapUpdate; refine wpl_update _ rfl _ _ _ 62 rfl (u8_keys Try.underlying5) Try.underlying62 (HMn.out.alloc _) 26 (Value.agg #[.func (.func 44) #[] #[], .int .i64 0, .int .i64 0, .func (.func 46) #[] #[]]) rfl rfl rfl ?_; intro w3 hm3 ht3))
        have hs : w.heap.size ≤ (wr.alloc (.cells #[.nilFunc, .int .i64 0, .int .i64 0, .nilFunc] 68)).heap.size := by have := HB.out.size; simp; omega
        exact ⟨⟨27, by omega, by omega, rfl, Lib.hid ⟨_, by rw [← tab_up (k := 26) (f := ⟨.own, 0, 0, .nothing⟩) rfl]; exact hm3⟩, Lib.hid ((HB.out.alloc HB.out.size _).grown ht3.grown hs (fun _ e => by injection e with e; rw [← e, HRR.out]; exact Nat.le_refl _))⟩, by simp [intOf]⟩
      · go_wp2_with (at_lookup; refine wpl_lookup _ rfl _ _ 62 true rfl (u8_keys Try.underlying5) Try.underlying62 HMn.out 27 (Value.agg #[.nilFunc, .int .i64 0, .int .i64 0, .nilFunc]) (zeroForm _) rfl rfl ?_; rw [show tabK 27 27 = none from rfl])
        exact ⟨⟨28, by omega, by omega, rfl, Lib.hid ⟨n, by rw [tab_none (k := 27) rfl]; exact HMn.out.alloc _⟩, Lib.hid (HB.out.alloc HB.out.size _)⟩, by simp [intOf]⟩
      · go_wp2_with (at_lookup; refine wpl_lookup _ rfl _ _ 62 true rfl (u8_keys Try.underlying5) Try.underlying62 HMn.out 28 (Value.agg #[.nilFunc, .int .i64 0, .int .i64 0, .nilFunc]) (zeroForm _) rfl rfl ?_; rw [show tabK 28 28 = none from rfl])
        exact ⟨⟨29, by omega, by omega, rfl, Lib.hid ⟨n, by rw [tab_none (k := 28) rfl]; exact HMn.out.alloc _⟩, Lib.hid (HB.out.alloc HB.out.size _)⟩, by simp [intOf]⟩
      · go_wp2_with (at_lookup; refine wpl_lookup _ rfl _ _ 62 true rfl (u8_keys Try.underlying5) Try.underlying62 HMn.out 29 (Value.agg #[.nilFunc, .int .i64 0, .int .i64 0, .nilFunc]) (zeroForm _) rfl rfl ?_; rw [show tabK 29 29 = none from rfl])
        exact ⟨⟨30, by omega, by omega, rfl, Lib.hid ⟨n, by rw [tab_none (k := 29) rfl]; exact HMn.out.alloc _⟩, Lib.hid (HB.out.alloc HB.out.size _)⟩, by simp [intOf]⟩
      · go_wp2_with (first | (at_lookup; refine wpl_lookup _ rfl _ _ 62 true rfl (u8_keys Try.underlying5) Try.underlying62 HMn.out 30 (Value.agg #[.nilFunc, .int .i64 0, .int .i64 0, .nilFunc]) (zeroForm _) rfl rfl ?_; rw [show tabK 30 30 = none from rfl]) | (at_mapUpdate; refine wpl_update _ rfl _ _ _ 62 rfl (u8_keys Try.underlying5) Try.underlying62 (HMn.out.alloc _) 30 (Value.agg #[.func (.func 47) #[] #[], .int .i64 2, .int .i64 2, .func (.func 51) #[] #[]]) rfl rfl rfl ?_; intro w3 hm3 ht3))
        have hs : w.heap.size ≤ (wr.alloc (.cells #[.nilFunc, .int .i64 0, .int .i64 0, .nilFunc] 68)).heap.size := by have := HB.out.size; simp; omega
        exact ⟨⟨31, by omega, by omega, rfl, Lib.hid ⟨_, by rw [← tab_up (k := 30) (f := ⟨.empty, 2, 2, .expr⟩) rfl]; exact hm3⟩, Lib.hid ((HB.out.alloc HB.out.size _).grown ht3.grown hs (fun _ e => by injection e with e; rw [← e, HRR.out]; exact Nat.le_refl _))⟩, by simp [intOf]⟩
      · go_wp2_with (first | (at_lookup; refine wpl_lookup _ rfl _ _ 62 true rfl (u8_keys Try.underlying5) Try.underlying62 HMn.out 31 (Value.agg #[.nilFunc, .int .i64 0, .int .i64 0, .nilFunc]) (zeroForm _) rfl rfl ?_; rw [show tabK 31 31 = none from rfl]) | (at_mapUpdate; refine wpl_update _ rfl _ _ _ 62 rfl (u8_keys Try.underlying5) Try.underlying62 (HMn.out.alloc _) 31 (Value.agg #[.func (.func 47) #[] #[], .int .i64 2, .int .i64 2, .func (.func 51) #[] #[]]) rfl rfl rfl ?_; intro w3 hm3 ht3))
        have hs : w.heap.size ≤ (wr.alloc (.cells #[.nilFunc, .int .i64 0, .int .i64 0, .nilFunc] 68)).heap.size := by have := HB.out.size; simp; omega
        exact ⟨⟨32, by omega, by omega, rfl, Lib.hid ⟨_, by rw [← tab_up (k := 31) (f := ⟨.empty, 2, 2, .expr⟩) rfl]; exact hm3⟩, Lib.hid ((HB.out.alloc HB.out.size _).grown ht3.grown hs (fun _ e => by injection e with e; rw [← e, HRR.out]; exact Nat.le_refl _))⟩, by simp [intOf]⟩
      · go_wp2_with (first | (at_lookup; refine wpl_lookup _ rfl _ _ 62 true rfl (u8_keys Try.underlying5) Try.underlying62 HMn.out 32 (Value.agg #[.nilFunc, .int .i64 0, .int .i64 0, .nilFunc]) (zeroForm _) rfl rfl ?_; rw [show tabK 32 32 = none from rfl]) | (at_mapUpdate; refine wpl_update _ rfl _ _ _ 62 rfl (u8_keys Try.underlying5) Try.underlying62 (HMn.out.alloc _) 32 (Value.agg #[.func (.func 47) #[] #[], .int .i64 2, .int .i64 2, .func (.func 51) #[] #[]]) rfl rfl rfl ?_; intro w3 hm3 ht3))
        have hs : w.heap.size ≤ (wr.alloc (.cells #[.nilFunc, .int .i64 0, .int .i64 0, .nilFunc] 68)).heap.size := by have := HB.out.size; simp; omega
        exact ⟨⟨33, by omega, by omega, rfl, Lib.hid ⟨_, by rw [← tab_up (k := 32) (f := ⟨.empty, 2, 2, .expr⟩) rfl]; exact hm3⟩, Lib.hid ((HB.out.alloc HB.out.size _).grown ht3.grown hs (fun _ e => by injection e with e; rw [← e, HRR.out]; exact Nat.le_refl _))⟩, by simp [intOf]⟩
      · go_wp2_with (first | (at_lookup; refine wpl_lookup _ rfl _ _ 62 true rfl (u8_keys Try.underlying5) Try.underlying62 HMn.out 33 (Value.agg #[.nilFunc, .int .i64 0, .int .i64 0, .nilFunc]) (zeroForm _) rfl rfl ?_; rw [show tabK 33 33 = none from rfl]) | (at_mapUpdate; refine wpl_update _ rfl _ _ _ 62 rfl (u8_keys Try.underlying5) Try.underlying62 (HMn.out.alloc _) 33 (Value.agg #[.func (.func 47) #[] #[], .int .i64 2, .int .i64 2, .func (.func 51) #[] #[]]) rfl rfl rfl ?_; intro w3 hm3 ht3))
        have hs : w.heap.size ≤ (wr.alloc (.cells #[.nilFunc, .int .i64 0, .int .i64 0, .nilFunc] 68)).heap.size := by have := HB.out.size; simp; omega
        exact ⟨⟨34, by omega, by omega, rfl, Lib.hid ⟨_, by rw [← tab_up (k := 33) (f := ⟨.empty, 2, 2, .expr⟩) rfl]; exact hm3⟩, Lib.hid ((HB.out.alloc HB.out.size _).grown ht3.grown hs (fun _ e => by injection e with e; rw [← e, HRR.out]; exact Nat.le_refl _))⟩, by simp [intOf]⟩
      · go_wp2_with (first | (at_lookup; refine wpl_lookup _ rfl _ _ 62 true rfl (u8_keys Try.underlying5) Try.underlying62 HMn.out 34 (Value.agg #[.nilFunc, .int .i64 0, .int .i64 0, .nilFunc]) (zeroForm _) rfl rfl ?_; rw [show tabK 34 34 = none from rfl]) | (at_mapUpdate; refine wpl_update _ rfl _ _ _ 62 rfl (u8_keys Try.underlying5) Try.underlying62 (HMn.out.alloc _) 34 (Value.agg #[.func (.func 47) #[] #[], .int .i64 2, .int .i64 2, .func (.func 51) #[] #[]]) rfl rfl rfl ?_; intro w3 hm3 ht3))
        have hs : w.heap.size ≤ (wr.alloc (.cells #[.nilFunc, .int .i64 0, .int .i64 0, .nilFunc] 68)).heap.size := by have := HB.out.size; simp; omega
        exact ⟨⟨35, by omega, by omega, rfl, Lib.hid ⟨_, by rw [← tab_up (k := 34) (f := ⟨.empty, 2, 2, .expr⟩) rfl]; exact hm3⟩, Lib.hid ((HB.out.alloc HB.out.size _).grown ht3.grown hs (fun _ e => by injection e with e; rw [← e, HRR.out]; exact Nat.le_refl _))⟩, by simp [intOf]⟩
      · go_wp2_with (first | (at_lookup; refine wpl_lookup _ rfl _ _ 62 true rfl (u8_keys Try.underlying5) Try.underlying62 HMn.out 35 (Value.agg #[.nilFunc, .int .i64 0, .int .i64 0, .nilFunc]) (zeroForm _) rfl rfl ?_; rw [show tabK 35 35 = none from rfl]) | (at_mapUpdate; refine wpl_update _ rfl _ _ _ 62 rfl (u8_keys Try.underlying5) Try.underlying62 (HMn.out.alloc _) 35 (Value.agg #[.func (.func 47) #[] #[], .int .i64 2, .int .i64 2, .func (.func 51) #[] #[]]) rfl rfl rfl ?_; intro w3 hm3 ht3))
        have hs : w.heap.size ≤ (wr.alloc (.cells #[.nilFunc, .int .i64 0, .int .i64 0, .nilFunc] 68)).heap.size := by have := HB.out.size; simp; omega
        exact ⟨⟨36, by omega, by omega, rfl, Lib.hid ⟨_, by rw [← tab_up (k := 35) (f := ⟨.empty, 2, 2, .expr⟩) rfl]; exact hm3⟩, Lib.hid ((HB.out.alloc HB.out.size _).grown ht3.grown hs (fun _ e => by injection e with e; rw [← e, HRR.out]; exact Nat.le_refl _))⟩, by simp [intOf]⟩
      · go_wp2_with (first | (at_lookup; refine wpl_lookup _ rfl _ _ 62 true rfl (u8_keys Try.underlying5) Try.underlying62 HMn.out 36 (Value.agg #[.nilFunc, .int .i64 0, .int .i64 0, .nilFunc]) (zeroForm _) rfl rfl ?_; rw [show tabK 36 36 = none from rfl]) | (at_mapUpdate; refine wpl_update _ rfl _ _ _ 62 rfl (u8_keys Try.underlying5) Try.underlying62 (HMn.out.alloc _) 36 (Value.agg #[.func (.func 47) #[] #[], .int .i64 2, .int .i64 2, .func (.func 51) #[] #[]]) rfl rfl rfl ?_; intro w3 hm3 ht3))
        have hs : w.heap.size ≤ (wr.alloc (.cells #[.nilFunc, .int .i64 0, .int .i64 0, .nilFunc] 68)).heap.size := by have := HB.out.size; simp; omega
        exact ⟨⟨37, by omega, by omega, rfl, Lib.hid ⟨_, by rw [← tab_up (k := 36) (f := ⟨.empty, 2, 2, .expr⟩) rfl]; exact hm3⟩, Lib.hid ((HB.out.alloc HB.out.size _).grown ht3.grown hs (fun _ e => by injection e with e; rw [← e, HRR.out]; exact Nat.le_refl _))⟩, by simp [intOf]⟩
      · go_wp2_with (first | (at_lookup; refine wpl_lookup _ rfl _ _ 62 true rfl (u8_keys Try.underlying5) Try.underlying62 HMn.out 37 (Value.agg #[.nilFunc, .int .i64 0, .int .i64 0, .nilFunc]) (zeroForm _) rfl rfl ?_; rw [show tabK 37 37 = none from rfl]) | (at_mapUpdate; refine wpl_update _ rfl _ _ _ 62 rfl (u8_keys Try.underlying5) Try.underlying62 (HMn.out.alloc _) 37 (Value.agg #[.func (.func 47) #[] #[], .int .i64 2, .int .i64 2, .func (.func 51) #[] #[]]) rfl rfl rfl ?_; intro w3 hm3 ht3))
        have hs : w.heap.size ≤ (wr.alloc (.cells #[.nilFunc, .int .i64 0, .int .i64 0, .nilFunc] 68)).heap.size := by have := HB.out.size; simp; omega
        exact ⟨⟨38, by omega, by omega, rfl, Lib.hid ⟨_, by rw [← tab_up (k := 37) (f := ⟨.empty, 2, 2, .expr⟩) rfl]; exact hm3⟩, Lib.hid ((HB.out.alloc HB.out.size _).grown ht3.grown hs (fun _ e => by injection e with e; rw [← e, HRR.out]; exact Nat.le_refl _))⟩, by simp [intOf]⟩
      · go_wp2_with (first | (at_lookup; refine wpl_lookup _ rfl _ _ 62 true rfl (u8_keys Try.underlying5) Try.underlying62 HMn.out 38 (Value.agg #[.nilFunc, .int .i64 0, .int .i64 0, .nilFunc]) (zeroForm _) rfl rfl ?_; rw [show tabK 38 38 = none from rfl]) | (at_mapUpdate; refine wpl_update _ rfl _ _ _ 62 rfl (u8_keys Try.underlying5) Try.underlying62 (HMn.out.alloc _) 38 (Value.agg #[.func (.func 47) #[] #[], .int .i64 2, .int .i64 2, .func (.func 51) #[] #[]]) rfl rfl rfl ?_; intro w3 hm3 ht3))
        have hs : w.heap.size ≤ (wr.alloc (.cells #[.nilFunc, .int .i64 0, .int .i64 0, .nilFunc] 68)).heap.size := by have := HB.out.size; simp; omega
        exact ⟨⟨39, by omega, by omega, rfl, Lib.hid ⟨_, by rw [← tab_up (k := 38) (f := ⟨.empty, 2, 2, .expr⟩) rfl]; exact hm3⟩, Lib.hid ((HB.out.alloc HB.out.size _).grown ht3.grown hs (fun _ e => by injection e with e; rw [← e, HRR.out]; exact Nat.le_refl _))⟩, by simp [intOf]⟩
      · go_wp2_with (first | (at_lookup; refine wpl_lookup _ rfl _ _ 62 true rfl (u8_keys Try.underlying5) Try.underlying62 HMn.out 39 (Value.agg #[.nilFunc, .int .i64 0, .int .i64 0, .nilFunc]) (zeroForm _) rfl rfl ?_; rw [show tabK 39 39 = none from rfl]) | (at_mapUpdate; refine wpl_update _ rfl _ _ _ 62 rfl (u8_keys Try.underlying5) Try.underlying62 (HMn.out.alloc _) 39 (Value.agg #[.func (.func 47) #[] #[], .int .i64 2, .int .i64 2, .func (.func 51) #[] #[]]) rfl rfl rfl ?_; intro w3 hm3 ht3))
        have hs : w.heap.size ≤ (wr.alloc (.cells #[.nilFunc, .int .i64 0, .int .i64 0, .nilFunc] 68)).heap.size := by have := HB.out.size; simp; omega
        exact ⟨⟨40, by omega, by omega, rfl, Lib.hid ⟨_, by rw [← tab_up (k := 39) (f := ⟨.empty, 2, 2, .expr⟩) rfl]; exact hm3⟩, Lib.hid ((HB.out.alloc HB.out.size _).grown ht3.grown hs (fun _ e => by injection e with e; rw [← e, HRR.out]; exact Nat.le_refl _))⟩, by simp [intOf]⟩
      · go_wp2_with (first | (at_lookup; refine wpl_lookup _ rfl _ _ 62 true rfl (u8_keys Try.underlying5) Try.underlying62 HMn.out 40 (Value.agg #[.nilFunc, .int .i64 0, .int .i64 0, .nilFunc]) (zeroForm _) rfl rfl ?_; rw [show tabK 40 40 = none from rfl]) | (at_mapUpdate; refine wpl_update _ rfl _ _ _ 62 rfl (u8_keys Try.underlying5) Try.underlying62 (HMn.out.alloc _) 40 (Value.agg #[.func (.func 47) #[] #[], .int .i64 2, .int .i64 2, .func (.func 51) #[] #[]]) rfl rfl rfl ?_; intro w3 hm3 ht3))
        have hs : w.heap.size ≤ (wr.alloc (.cells #[.nilFunc, .int .i64 0, .int .i64 0, .nilFunc] 68)).heap.size := by have := HB.out.size; simp; omega
        exact ⟨⟨41, by omega, by omega, rfl, Lib.hid ⟨_, by rw [← tab_up (k := 40) (f := ⟨.empty, 2, 2, .expr⟩) rfl]; exact hm3⟩, Lib.hid ((HB.out.alloc HB.out.size _).grown ht3.grown hs (fun _ e => by injection e with e; rw [← e, HRR.out]; exact Nat.le_refl _))⟩, by simp [intOf]⟩
      · go_wp2_with (first | (at_lookup; refine wpl_lookup _ rfl _ _ 62 true rfl (u8_keys Try.underlying5) Try.underlying62 HMn.out 41 (Value.agg #[.nilFunc, .int .i64 0, .int .i64 0, .nilFunc]) (zeroForm _) rfl rfl ?_; rw [show tabK 41 41 = none from rfl]) | (at_mapUpdate; refine wpl_update _ rfl _ _ _ 62 rfl (u8_keys Try.underlying5) Try.underlying62 (HMn.out.alloc _) 41 (Value.agg #[.func (.func 47) #[] #[], .int .i64 2, .int .i64 2, .func (.func 51) #[] #[]]) rfl rfl rfl ?_; intro w3 hm3 ht3))
        have hs : w.heap.size ≤ (wr.alloc (.cells #[.nilFunc, .int .i64 0, .int .i64 0, .nilFunc] 68)).heap.size := by have := HB.out.size; simp; omega
        exact ⟨⟨42, by omega, by omega, rfl, Lib.hid ⟨_, by rw [← tab_up (k := 41) (f := ⟨.empty, 2, 2, .expr⟩) rfl]; exact hm3⟩, Lib.hid ((HB.out.alloc HB.out.size _).grown ht3.grown hs (fun _ e => by injection e with e; rw [← e, HRR.out]; exact Nat.le_refl _))⟩, by simp [intOf]⟩
      · go_wp2_with (first | (at_lookup; refine wpl_lookup _ rfl _ _ 62 true rfl (u8_keys Try.underlying5) Try.underlying62 HMn.out 42 (Value.agg #[.nilFunc, .int .i64 0, .int .i64 0, .nilFunc]) (zeroForm _) rfl rfl ?_; rw [show tabK 42 42 = none from rfl]) | (at_mapUpdate; refine wpl_update _ rfl _ _ _ 62 rfl (u8_keys Try.underlying5) Try.underlying62 (HMn.out.alloc _) 42 (Value.agg #[.func (.func 47) #[] #[], .int .i64 2, .int .i64 2, .func (.func 51) #[] #[]]) rfl rfl rfl ?_; intro w3 hm3 ht3))
        have hs : w.heap.size ≤ (wr.alloc (.cells #[.nilFunc, .int .i64 0, .int .i64 0, .nilFunc] 68)).heap.size := by have := HB.out.size; simp; omega
        exact ⟨⟨43, by omega, by omega, rfl, Lib.hid ⟨_, by rw [← tab_up (k := 42) (f := ⟨.empty, 2, 2, .expr⟩) rfl]; exact hm3⟩, Lib.hid ((HB.out.alloc HB.out.size _).grown ht3.grown hs (fun _ e => by injection e with e; rw [← e, HRR.out]; exact Nat.le_refl _))⟩, by simp [intOf]⟩
      · go_wp2_with (first | (at_lookup; refine wpl_lookup _ rfl _ _ 62 true rfl (u8_keys Try.underlying5) Try.underlying62 HMn.out 43 (Value.agg #[.nilFunc, .int .i64 0, .int .i64 0, .nilFunc]) (zeroForm _) rfl rfl ?_; rw [show tabK 43 43 = none from rfl]) | (at_mapUpdate; refine wpl_update _ rfl _ _ _ 62 rfl (u8_keys Try.underlying5) Try.underlying62 (HMn.out.alloc _) 43 (Value.agg #[.func (.func 47) #[] #[], .int .i64 1, .int .i64 1, .func (.func 51) #[] #[]]) rfl rfl rfl ?_; intro w3 hm3 ht3))
        have hs : w.heap.size ≤ (wr.alloc (.cells #[.nilFunc, .int .i64 0, .int .i64 0, .nilFunc] 68)).heap.size := by have := HB.out.size; simp; omega
        exact ⟨⟨44, by omega, by omega, rfl, Lib.hid ⟨_, by rw [← tab_up (k := 43) (f := ⟨.empty, 1, 1, .expr⟩) rfl]; exact hm3⟩, Lib.hid ((HB.out.alloc HB.out.size _).grown ht3.grown hs (fun _ e => by injection e with e; rw [← e, HRR.out]; exact Nat.le_refl _))⟩, by simp [intOf]⟩
      · go_wp2_with (first | (at_lookup; refine wpl_lookup _ rfl _ _ 62 true rfl (u8_keys Try.underlying5) Try.underlying62 HMn.out 44 (Value.agg #[.nilFunc, .int .i64 0, .int .i64 0, .nilFunc]) (zeroForm _) rfl rfl ?_; rw [show tabK 44 44 = none from rfl]) | (at_mapUpdate; refine wpl_update _ rfl _ _ _ 62 rfl (u8_keys Try.underlying5) Try.underlying62 (HMn.out.alloc _) 44 (Value.agg #[.func (.func 47) #[] #[], .int .i64 1, .int .i64 1, .func (.func 51) #[] #[]]) rfl rfl rfl ?_; intro w3 hm3 ht3))
        have hs : w.heap.size ≤ (wr.alloc (.cells #[.nilFunc, .int .i64 0, .int .i64 0, .nilFunc] 68)).heap.size := by have := HB.out.size; simp; omega
        exact ⟨⟨45, by omega, by omega, rfl, Lib.hid ⟨_, by rw [← tab_up (k := 44) (f := ⟨.empty, 1, 1, .expr⟩) rfl]; exact hm3⟩, Lib.hid ((HB.out.alloc HB.out.size _).grown ht3.grown hs (fun _ e => by injection e with e; rw [← e, HRR.out]; exact Nat.le_refl _))⟩, by simp [intOf]⟩
      · go_wp2_with (first | (at_lookup; refine wpl_lookup _ rfl _ _ 62 true rfl (u8_keys Try.underlying5) Try.underlying62 HMn.out 45 (Value.agg #[.nilFunc, .int .i64 0, .int .i64 0, .nilFunc]) (zeroForm _) rfl rfl ?_; rw [show tabK 45 45 = none from rfl]) | (at_mapUpdate; refine wpl_update _ rfl _ _ _ 62 rfl (u8_keys Try.underlying5) Try.underlying62 (HMn.out.alloc _) 45 (Value.agg #[.func (.func 47) #[] #[], .int .i64 1, .int .i64 1, .func (.func 51) #[] #[]]) rfl rfl rfl ?_; intro w3 hm3 ht3))
        have hs : w.heap.size ≤ (wr.alloc (.cells #[.nilFunc, .int .i64 0, .int .i64 0, .nilFunc] 68)).heap.size := by have := HB.out.size; simp; omega
        exact ⟨⟨46, by omega, by omega, rfl, Lib.hid ⟨_, by rw [← tab_up (k := 45) (f := ⟨.empty, 1, 1, .expr⟩) rfl]; exact hm3⟩, Lib.hid ((HB.out.alloc HB.out.size _).grown ht3.grown hs (fun _ e => by injection e with e; rw [← e, HRR.out]; exact Nat.le_refl _))⟩, by simp [intOf]⟩
      · go_wp2_with (first | (at_lookup; refine wpl_lookup _ rfl _ _ 62 true rfl (u8_keys Try.underlying5) Try.underlying62 HMn.out 46 (Value.agg #[.nilFunc, .int .i64 0, .int .i64 0, .nilFunc]) (zeroForm _) rfl rfl ?_; rw [show tabK 46 46 = none from rfl]) | (at_mapUpdate; refine wpl_update _ rfl _ _ _ 62 rfl (u8_keys Try.underlying5) Try.underlying62 (HMn.out.alloc _) 46 (Value.agg #[.func (.func 47) #[] #[], .int .i64 1, .int .i64 1, .func (.func 51) #[] #[]]) rfl rfl rfl ?_; intro w3 hm3 ht3))
        have hs : w.heap.size ≤ (wr.alloc (.cells #[.nilFunc, .int .i64 0, .int .i64 0, .nilFunc] 68)).heap.size := by have := HB.out.size; simp; omega
        exact ⟨⟨47, by omega, by omega, rfl, Lib.hid ⟨_, by rw [← tab_up (k := 46) (f := ⟨.empty, 1, 1, .expr⟩) rfl]; exact hm3⟩, Lib.hid ((HB.out.alloc HB.out.size _).grown ht3.grown hs (fun _ e => by injection e with e; rw [← e, HRR.out]; exact Nat.le_refl _))⟩, by simp [intOf]⟩
      · go_wp2_with (first | (at_lookup; refine wpl_lookup _ rfl _ _ 62 true rfl (u8_keys Try.underlying5) Try.underlying62 HMn.out 47 (Value.agg #[.nilFunc, .int .i64 0, .int .i64 0, .nilFunc]) (zeroForm _) rfl rfl ?_; rw [show tabK 47 47 = none from rfl]) | (at_mapUpdate; refine wpl_update _ rfl _ _ _ 62 rfl (u8_keys Try.underlying5) Try.underlying62 (HMn.out.alloc _) 47 (Value.agg #[.func (.func 47) #[] #[], .int .i64 1, .int .i64 1, .func (.func 51) #[] #[]]) rfl rfl rfl ?_; intro w3 hm3 ht3))
        have hs : w.heap.size ≤ (wr.alloc (.cells #[.nilFunc, .int .i64 0, .int .i64 0, .nilFunc] 68)).heap.size := by have := HB.out.size; simp; omega
        exact ⟨⟨48, by omega, by omega, rfl, Lib.hid ⟨_, by rw [← tab_up (k := 47) (f := ⟨.empty, 1, 1, .expr⟩) rfl]; exact hm3⟩, Lib.hid ((HB.out.alloc HB.out.size _).grown ht3.grown hs (fun _ e => by injection e with e; rw [← e, HRR.out]; exact Nat.le_refl _))⟩, by simp [intOf]⟩
      · go_wp2_with (first | (at_lookup; refine wpl_lookup _ rfl _ _ 62 true rfl (u8_keys Try.underlying5) Try.underlying62 HMn.out 48 (Value.agg #[.nilFunc, .int .i64 0, .int .i64 0, .nilFunc]) (zeroForm _) rfl rfl ?_; rw [show tabK 48 48 = none from rfl]) | (at_mapUpdate; refine wpl_update _ rfl _ _ _ 62 rfl (u8_keys Try.underlying5) Try.underlying62 (HMn.out.alloc _) 48 (Value.agg #[.func (.func 47) #[] #[], .int .i64 1, .int .i64 1, .func (.func 51) #[] #[]]) rfl rfl rfl ?_; intro w3 hm3 ht3))
        have hs : w.heap.size ≤ (wr.alloc (.cells #[.nilFunc, .int .i64 0, .int .i64 0, .nilFunc] 68)).heap.size := by have := HB.out.size; simp; omega
        exact ⟨⟨49, by omega, by omega, rfl, Lib.hid ⟨_, by rw [← tab_up (k := 48) (f := ⟨.empty, 1, 1, .expr⟩) rfl]; exact hm3⟩, Lib.hid ((HB.out.alloc HB.out.size _).grown ht3.grown hs (fun _ e => by injection e with e; rw [← e, HRR.out]; exact Nat.le_refl _))⟩, by simp [intOf]⟩
      · go_wp2_with (at_lookup; refine wpl_lookup _ rfl _ _ 62 true rfl (u8_keys Try.underlying5) Try.underlying62 HMn.out 49 (Value.agg #[.nilFunc, .int .i64 0, .int .i64 0, .nilFunc]) (zeroForm _) rfl rfl ?_; rw [show tabK 49 49 = none from rfl])
        exact ⟨⟨50, by omega, by omega, rfl, Lib.hid ⟨n, by rw [tab_none (k := 49) rfl]; exact HMn.out.alloc _⟩, Lib.hid (HB.out.alloc HB.out.size _)⟩, by simp [intOf]⟩
      · go_wp2_with (first | (at_lookup; refine wpl_lookup _ rfl _ _ 62 true rfl (u8_keys Try.underlying5) Try.underlying62 HMn.out 50 (Value.agg #[.nilFunc, .int .i64 0, .int .i64 0, .nilFunc]) (zeroForm _) rfl rfl ?_; rw [show tabK 50 50 = none from rfl]) | (at_mapUpdate; refine wpl_update _ rfl _ _ _ 62 rfl (u8_keys Try.underlying5) Try.underlying62 (HMn.out.alloc _) 50 (Value.agg #[.func (.func 44) #[] #[], .int .i64 0, .int .i64 2048, .func (.func 51) #[] #[]]) rfl rfl rfl ?_; intro w3 hm3 ht3))
        have hs : w.heap.size ≤ (wr.alloc (.cells #[.nilFunc, .int .i64 0, .int .i64 0, .nilFunc] 68)).heap.size := by have := HB.out.size; simp; omega
        exact ⟨⟨51, by omega, by omega, rfl, Lib.hid ⟨_, by rw [← tab_up (k := 50) (f := ⟨.own, 0, 2048, .expr⟩) rfl]; exact hm3⟩, Lib.hid ((HB.out.alloc HB.out.size _).grown ht3.grown hs (fun _ e => by injection e with e; rw [← e, HRR.out]; exact Nat.le_refl _))⟩, by simp [intOf]⟩
      · go_wp2_with (first | (at_lookup; refine wpl_lookup _ rfl _ _ 62 true rfl (u8_keys Try.underlying5) Try.underlying62 HMn.out 51 (Value.agg #[.nilFunc, .int .i64 0, .int .i64 0, .nilFunc]) (zeroForm _) rfl rfl ?_; rw [show tabK 51 51 = none from rfl]) | (at_mapUpdate; refine wpl_update _ rfl _ _ _ 62 rfl (u8_keys Try.underlying5) Try.underlying62 (HMn.out.alloc _) 51 (Value.agg #[.func (.func 44) #[] #[], .int .i64 0, .int .i64 2048, .func (.func 51) #[] #[]]) rfl rfl rfl ?_; intro w3 hm3 ht3))
        have hs : w.heap.size ≤ (wr.alloc (.cells #[.nilFunc, .int .i64 0, .int .i64 0, .nilFunc] 68)).heap.size := by have := HB.out.size; simp; omega
        exact ⟨⟨52, by omega, by omega, rfl, Lib.hid ⟨_, by rw [← tab_up (k := 51) (f := ⟨.own, 0, 2048, .expr⟩) rfl]; exact hm3⟩, Lib.hid ((HB.out.alloc HB.out.size _).grown ht3.grown hs (fun _ e => by injection e with e; rw [← e, HRR.out]; exact Nat.le_refl _))⟩, by simp [intOf]⟩
      · go_wp2_with (first | (at_lookup; refine wpl_lookup _ rfl _ _ 62 true rfl (u8_keys Try.underlying5) Try.underlying62 HMn.out 52 (Value.agg #[.nilFunc, .int .i64 0, .int .i64 0, .nilFunc]) (zeroForm _) rfl rfl ?_; rw [show tabK 52 52 = none from rfl]) | (at_mapUpdate; refine wpl_update _ rfl _ _ _ 62 rfl (u8_keys Try.underlying5) Try.underlying62 (HMn.out.alloc _) 52 (Value.agg #[.func (.func 47) #[] #[], .int .i64 1, .int .i64 1, .func (.func 51) #[] #[]]) rfl rfl rfl ?_; intro w3 hm3 ht3))
        have hs : w.heap.size ≤ (wr.alloc (.cells #[.nilFunc, .int .i64 0, .int .i64 0, .nilFunc] 68)).heap.size := by have := HB.out.size; simp; omega
        exact ⟨⟨53, by omega, by omega, rfl, Lib.hid ⟨_, by rw [← tab_up (k := 52) (f := ⟨.empty, 1, 1, .expr⟩) rfl]; exact hm3⟩, Lib.hid ((HB.out.alloc HB.out.size _).grown ht3.grown hs (fun _ e => by injection e with e; rw [← e, HRR.out]; exact Nat.le_refl _))⟩, by simp [intOf]⟩
      · go_wp2_with (at_lookup; refine wpl_lookup _ rfl _ _ 62 true rfl (u8_keys Try.underlying5) Try.underlying62 HMn.out 53 (Value.agg #[.nilFunc, .int .i64 0, .int .i64 0, .nilFunc]) (zeroForm _) rfl rfl ?_; rw [show tabK 53 53 = some (Value.agg #[.func (.func 47) #[] #[], .int .i64 1, .int .i64 1, .func (.func 52) #[] #[]]) from rfl])
        exact ⟨⟨54, by omega, by omega, rfl, Lib.hid ⟨n, by rw [tab_in (k := 53) (by decide)]; exact HMn.out.alloc _⟩, Lib.hid (HB.out.alloc HB.out.size _)⟩, by simp [intOf]⟩
      · go_wp2_with (first | (at_lookup; refine wpl_lookup _ rfl _ _ 62 true rfl (u8_keys Try.underlying5) Try.underlying62 HMn.out 54 (Value.agg #[.nilFunc, .int .i64 0, .int .i64 0, .nilFunc]) (zeroForm _) rfl rfl ?_; rw [show tabK 54 54 = none from rfl]) | (at_mapUpdate; refine wpl_update _ rfl _ _ _ 62 rfl (u8_keys Try.underlying5) Try.underlying62 (HMn.out.alloc _) 54 (Value.agg #[.func (.func 47) #[] #[], .int .i64 1, .int .i64 1, .func (.func 51) #[] #[]]) rfl rfl rfl ?_; intro w3 hm3 ht3))
        have hs : w.heap.size ≤ (wr.alloc (.cells #[.nilFunc, .int .i64 0, .int .i64 0, .nilFunc] 68)).heap.size := by have := HB.out.size; simp; omega
        exact ⟨⟨55, by omega, by omega, rfl, Lib.hid ⟨_, by rw [← tab_up (k := 54) (f := ⟨.empty, 1, 1, .expr⟩) rfl]; exact hm3⟩, Lib.hid ((HB.out.alloc HB.out.size _).grown ht3.grown hs (fun _ e => by injection e with e; rw [← e, HRR.out]; exact Nat.le_refl _))⟩, by simp [intOf]⟩
      · go_wp2_with (first | (at_lookup; refine wpl_lookup _ rfl _ _ 62 true rfl (u8_keys Try.underlying5) Try.underlying62 HMn.out 55 (Value.agg #[.nilFunc, .int .i64 0, .int .i64 0, .nilFunc]) (zeroForm _) rfl rfl ?_; rw [show tabK 55 55 = none from rfl]) | (at_mapUpdate; refine wpl_update _ rfl _ _ _ 62 rfl (u8_keys Try.underlying5) Try.underlying62 (HMn.out.alloc _) 55 (Value.agg #[.func (.func 47) #[] #[], .int .i64 1, .int .i64 1, .func (.func 51) #[] #[]]) rfl rfl rfl ?_; intro w3 hm3 ht3))
        have hs : w.heap.size ≤ (wr.alloc (.cells #[.nilFunc, .int .i64 0, .int .i64 0, .nilFunc] 68)).heap.size := by have := HB.out.size; simp; omega
        exact ⟨⟨56, by omega, by omega, rfl, Lib.hid ⟨_, by rw [← tab_up (k := 55) (f := ⟨.empty, 1, 1, .expr⟩) rfl]; exact hm3⟩, Lib.hid ((HB.out.alloc HB.out.size _).grown ht3.grown hs (fun _ e => by injection e with e; rw [← e, HRR.out]; exact Nat.le_refl _))⟩, by simp [intOf]⟩
      · go_wp2_with (first | (at_lookup; refine wpl_lookup _ rfl _ _ 62 true rfl (u8_keys Try.underlying5) Try.underlying62 HMn.out 56 (Value.agg #[.nilFunc, .int .i64 0, .int .i64 0, .nilFunc]) (zeroForm _) rfl rfl ?_; rw [show tabK 56 56 = none from rfl]) | (at_mapUpdate; refine wpl_update _ rfl _ _ _ 62 rfl (u8_keys Try.underlying5) Try.underlying62 (HMn.out.alloc _) 56 (Value.agg #[.func (.func 44) #[] #[], .int .i64 0, .int .i64 0, .func (.func 46) #[] #[]]) rfl rfl rfl ?_; intro w3 hm3 ht3))
        have hs : w.heap.size ≤ (wr.alloc (.cells #[.nilFunc, .int .i64 0, .int .i64 0, .nilFunc] 68)).heap.size := by have := HB.out.size; simp; omega
        exact ⟨⟨57, by omega, by omega, rfl, Lib.hid ⟨_, by rw [← tab_up (k := 56) (f := ⟨.own, 0, 0, .nothing⟩) rfl]; exact hm3⟩, Lib.hid ((HB.out.alloc HB.out.size _).grown ht3.grown hs (fun _ e => by injection e with e; rw [← e, HRR.out]; exact Nat.le_refl _))⟩, by simp [intOf]⟩
      · go_wp2_with (first | (at_lookup; refine wpl_lookup _ rfl _ _ 62 true rfl (u8_keys Try.underlying5) Try.underlying62 HMn.out 57 (Value.agg #[.nilFunc, .int .i64 0, .int .i64 0, .nilFunc]) (zeroForm _) rfl rfl ?_; rw [show tabK 57 57 = none from rfl]) | (at_mapUpdate; refine wpl_update _ rfl _ _ _ 62 rfl (u8_keys Try.underlying5) Try.underlying62 (HMn.out.alloc _) 57 (Value.agg #[.func (.func 47) #[] #[], .int .i64 0, .int .i64 0, .func (.func 46) #[] #[]]) rfl rfl rfl ?_; intro w3 hm3 ht3))
        have hs : w.heap.size ≤ (wr.alloc (.cells #[.nilFunc, .int .i64 0, .int .i64 0, .nilFunc] 68)).heap.size := by have := HB.out.size; simp; omega
        exact ⟨⟨58, by omega, by omega, rfl, Lib.hid ⟨_, by rw [← tab_up (k := 57) (f := ⟨.empty, 0, 0, .nothing⟩) rfl]; exact hm3⟩, Lib.hid ((HB.out.alloc HB.out.size _).grown ht3.grown hs (fun _ e => by injection e with e; rw [← e, HRR.out]; exact Nat.le_refl _))⟩, by simp [intOf]⟩
    · obtain rfl : k = 58 := by omega
      go_wp2_with fail
      go_ret
      refine ⟨r, rfl, ?_, by rw [HRR.out]; exact Nat.le_refl _, HB.out⟩
      have := HM.out
      rwa [tab_all] at this
end Go.Proofs.Ytmacmejpcpdnnaa
