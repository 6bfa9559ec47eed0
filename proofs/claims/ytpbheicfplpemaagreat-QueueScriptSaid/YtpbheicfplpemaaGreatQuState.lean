/- queue: a queue in memory; New, made, Len. -/
import Derived.Test.YtpbheicfplpemaaGreatBlk
import Derived.Test.YtpbheicfplpemaaGreatProg
namespace Go.Proofs.YtpbheicfplpemaaGreat
open Go.RowKit

/-- a task -/
structure Tk where
  key : ByteArray
  sticky : ByteArray
  ready : Int
  att : Int
def tkC (t : Tk) : List Value := [.string t.key, .string t.sticky, .int .i64 t.ready, .int .i64 t.att]
theorem tkC_len (t : Tk) : (tkC t).length = 4 := rfl
def tkV (t : Tk) : Value := .agg #[.string t.key, .string t.sticky, .int .i64 t.ready, .int .i64 t.att]
/-- one that is out -/
structure Ot where
  tk : Tk
  token : Int
  worker : ByteArray
  until_ : Int
def otV (x : Ot) : Value := .agg #[.string x.tk.key, .string x.tk.sticky, .int .i64 x.tk.ready, .int .i64 x.tk.att, .int .i64 x.token, .string x.worker, .int .i64 x.until_]
def updI (m : Int → Option Ot) (k : Int) (x : Ot) : Int → Option Ot := fun k' => if k' = k then some x else m k'
def wipI (m : Int → Option Ot) (k : Int) : Int → Option Ot := fun k' => if k' = k then none else m k'
def updS (m : ByteArray → Option Int) (k : ByteArray) (x : Int) : ByteArray → Option Int := fun k' => if k' = k then some x else m k'
def wipS (m : ByteArray → Option Int) (k : ByteArray) : ByteArray → Option Int := fun k' => if k' = k then none else m k'
def oV (m : Int → Option Ot) : Int → Option Value := fun k => (m k).map otV
def sV (m : ByteArray → Option Int) : ByteArray → Option Value := fun k => (m k).map (Value.int .i64)
theorem oV_upd (m : Int → Option Ot) (k : Int) (x : Ot) : (fun k' => if k' = k then some (otV x) else oV m k') = oV (updI m k x) := by
  funext k'; unfold oV updI; split <;> rfl
theorem oV_wip (m : Int → Option Ot) (k : Int) : (fun k' => if k' = k then none else oV m k') = oV (wipI m k) := by
  funext k'; unfold oV wipI; split <;> rfl
theorem sV_upd (m : ByteArray → Option Int) (k : ByteArray) (x : Int) : (fun k' => if k' = k then some (Value.int .i64 x) else sV m k') = sV (updS m k x) := by
  funext k'; unfold sV updS; split <;> rfl
theorem sV_wip (m : ByteArray → Option Int) (k : ByteArray) : (fun k' => if k' = k then none else sV m k') = sV (wipS m k) := by
  funext k'; unfold sV wipS; split <;> rfl

/-- a queue -/
structure QS (w : World) (q : Nat) (most grace next : Int) (wv : Value) (ts : List Tk) (O T : Nat) (om : Int → Option Ot) (tm : ByteArray → Option Int) : Prop where
  blk : Blk w q 82 [.int .i64 most, .int .i64 grace, .int .i64 next, wv, .map (some O), .map (some T)]
  row : w.ownsRow 0 85 4 wv ts.length (ts.flatMap tkC)
  outs : ∃ n, MapIs kInt w O (oV om) n
  there : ∃ n, MapIs kStr w T (sV tm) n
  ne : O ≠ T
  few : ts.length ≤ 100000
  pos : 0 < next
  nxl : next ≤ 4611686018427387904
def QSet (q : Nat) (wv : Value) (O T : Nat) : Nat → Prop := fun i => i = q ∨ i = O ∨ i = T ∨ wv.ownBlock = some i
section
variable {w w' : World} {q : Nat} {most grace next : Int} {wv wv' : Value} {ts : List Tk} {O T : Nat} {om : Int → Option Ot} {tm : ByteArray → Option Int}
theorem own_lt {w : World} {base e size n g : Nat} {v : Value} {xs : List Value} (h : w.ownsRow base e size v n xs) (hg : v.ownBlock = some g) : base ≤ g ∧ g < w.heap.size := by
  rcases h.2 with ⟨rfl, _⟩ | ⟨g', cap, cur, rfl, h3, h4, _⟩
  · simp [Value.ownBlock] at hg
  · simp [Value.ownBlock] at hg
    subst hg
    exact ⟨h3, (Array.getElem?_eq_some_iff.1 h4).1⟩
theorem QS.keep {S : Nat → Prop} (h : QS w q most grace next wv ts O T om tm) (k : Turns S w w') (hS : ∀ i, QSet q wv O T i → ¬ S i) : QS w' q most grace next wv ts O T om tm := by
  obtain ⟨n1, h1⟩ := h.outs
  obtain ⟨n2, h2⟩ := h.there
  exact ⟨h.blk.turns k (hS q (.inl rfl)), own_turns h.row k (fun g hg => hS g (.inr (.inr (.inr hg)))), ⟨n1, h1.turns k (hS O (.inr (.inl rfl)))⟩, ⟨n2, h2.turns k (hS T (.inr (.inr (.inl rfl))))⟩, h.ne, h.few, h.pos, h.nxl⟩
theorem QS.bel (h : QS w q most grace next wv ts O T om tm) (k : Below w.heap.size w w') : QS w' q most grace next wv ts O T om tm := h.keep (.of_below (S := fun _ => False) k) (fun _ _ => id)
theorem QS.lts (h : QS w q most grace next wv ts O T om tm) : ∀ i, QSet q wv O T i → i < w.heap.size := by
  obtain ⟨n1, h1⟩ := h.outs
  obtain ⟨n2, h2⟩ := h.there
  rintro i (rfl | rfl | rfl | hi)
  · exact h.blk.lt
  · exact h1.lt
  · exact h2.lt
  · exact (own_lt h.row hi).2
theorem QS.cells (h : QS w q most grace next wv ts O T om tm) : w.cell? ⟨q, 0, none⟩ = some (.int .i64 most) ∧ w.cell? ⟨q, 1, none⟩ = some (.int .i64 grace) ∧ w.cell? ⟨q, 2, none⟩ = some (.int .i64 next) ∧ w.cell? ⟨q, 3, none⟩ = some wv ∧ w.cell? ⟨q, 4, none⟩ = some (.map (some O)) ∧ w.cell? ⟨q, 5, none⟩ = some (.map (some T)) := by
  have c0 := h.blk.cell 0
  have c1 := h.blk.cell 1
  have c2 := h.blk.cell 2
  have c3 := h.blk.cell 3
  have c4 := h.blk.cell 4
  have c5 := h.blk.cell 5
  simp only [List.getElem?_cons_succ, List.getElem?_cons_zero] at c0 c1 c2 c3 c4 c5
  exact ⟨c0, c1, c2, c3, c4, c5⟩
end
/-- a slice's row is the old one, or lies in new memory -/
def NextR (w : World) (v v' : Value) : Prop := ∀ g, v'.ownBlock = some g → v.ownBlock = some g ∨ w.heap.size ≤ g
theorem NextR.refl (w : World) (v : Value) : NextR w v v := fun _ h => .inl h
theorem NextR.lo {B q O T : Nat} {w : World} {wv wv' : Value} (n : NextR w wv wv') (h : ∀ i, QSet q wv O T i → B ≤ i) (hB : B ≤ w.heap.size) : ∀ i, QSet q wv' O T i → B ≤ i := by
  rintro i (hi | hi | hi | hi)
  · exact h i (.inl hi)
  · exact h i (.inr (.inl hi))
  · exact h i (.inr (.inr (.inl hi)))
  · rcases n i hi with e | hg
    · exact h i (.inr (.inr (.inr e)))
    · omega

set_option maxRecDepth 20000 in
theorem newQ (w : World) (most grace : Int) (h1 : 1 ≤ most) (h2 : most ≤ 4096) (h3 : 0 ≤ grace) : Calls Tryz.prog 10 #[.int .i64 most, .int .i64 grace] w fun e w' => ∃ q O T, e = .returned (.tuple #[.pointer (some ⟨q, 0, none⟩), .int .i64 0]) ∧ QS w' q most grace 1 (.slice none 0 0) [] O T (fun _ => none) (fun _ => none) ∧ (∀ i, QSet q (.slice none 0 0) O T i → w.heap.size ≤ i) ∧ Below w.heap.size w w' := by
  have hmm := @run_makeMap Tryz.prog
  have q0 : decide (most < 1) = false := decide_eq_false (by omega)
  have q1 : decide (4096 < most) = false := decide_eq_false (by omega)
  have q2 : decide (grace < 0) = false := decide_eq_false (by omega)
  go_enter Tryz.func10, Tryz.ntmps10
  go_wp2_with fail
  go_ret2
  refine ⟨_, w.heap.size, w.heap.size + 1, rfl, ⟨Blk.new3 w _ _ 82 [.int .i64 most, .int .i64 grace, .int .i64 1, .slice none 0 0, .map (some w.heap.size), .map (some (w.heap.size + 1))], World.ownsRow_nil _ _ _ _, ⟨0, ((MapIs.empty kInt w).alloc _).alloc _⟩, ⟨0, ?_⟩, by omega, by simp, by omega, by omega⟩, ?_, Below.new3 w _ _ _⟩
  · have := (MapIs.empty kStr (w.alloc (.map #[] 0))).alloc (.cells #[.int .i64 most, .int .i64 grace, .int .i64 1, .slice none 0 0, .map (some w.heap.size), .map (some (w.heap.size + 1))] 82)
    rwa [World.size_alloc] at this
  · rintro i (rfl | rfl | rfl | hi)
    · omega
    · omega
    · omega
    · simp [Value.ownBlock] at hi
set_option maxRecDepth 20000 in
theorem made1 (w : World) (q : Nat) (next : Int) (hp : 0 < next) (hc : w.cell? ⟨q, 2, none⟩ = some (.int .i64 next)) : Calls Tryz.prog 39 #[.pointer (some ⟨q, 0, none⟩)] w fun e w' => e = .returned (.bool true) ∧ w' = w := by
  have q0 : decide (0 < next) = true := decide_eq_true hp
  go_enter Tryz.func39, Tryz.ntmps39
  go_wp2_with fail
  go_ret
  exact ⟨rfl, rfl⟩
theorem made_nil (w : World) : Calls Tryz.prog 39 #[.pointer none] w fun e w' => e = .returned (.bool false) ∧ w' = w := by
  go_enter Tryz.func39, Tryz.ntmps39
  go_wp2_with fail
  go_ret
  exact ⟨rfl, rfl⟩
theorem made_zero (w : World) (q : Nat) (hc : w.cell? ⟨q, 2, none⟩ = some (.int .i64 0)) : Calls Tryz.prog 39 #[.pointer (some ⟨q, 0, none⟩)] w fun e w' => e = .returned (.bool false) ∧ w' = w := by
  go_enter Tryz.func39, Tryz.ntmps39
  go_wp2_with fail
  go_ret
  exact ⟨rfl, rfl⟩
set_option maxRecDepth 20000 in
theorem lenQ (w : World) (q : Nat) (most grace next : Int) (wv : Value) (ts : List Tk) (O T : Nat) (om : Int → Option Ot) (tm : ByteArray → Option Int) (h : QS w q most grace next wv ts O T om tm) : Calls Tryz.prog 19 #[.pointer (some ⟨q, 0, none⟩)] w fun e w' => e = .returned (.int .i64 (ts.length : Int)) ∧ w' = w := by
  obtain ⟨_, _, c2, c3, _, _⟩ := h.cells
  obtain ⟨A0, c0, rfl⟩ := own_slice' h.row
  have hm := Lib.hid (made1 w q next h.pos c2)
  clear h
  go_enter Tryz.func19, Tryz.ntmps19
  go_wp2_with (go_at_call 39; refine hm.out.mono ?_; rintro e w' ⟨rfl, rfl⟩)
  go_ret
  exact ⟨rfl, rfl⟩
end Go.Proofs.YtpbheicfplpemaaGreat
