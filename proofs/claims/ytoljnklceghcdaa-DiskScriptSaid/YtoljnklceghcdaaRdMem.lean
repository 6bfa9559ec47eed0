/- The document's disk in memory: New, fails, Find, put, out. -/
import Derived.Test.YtoljnklceghcdaaRdPlain
import Derived.Laws.Concat
namespace Go.Proofs.Ytoljnklceghcdaa
open Go.RowKit Go.Maps Go.Sort Go.Shelf

def rfC (f : RF) : List Value := [.string f.name, .string f.last, .string f.waits]
theorem rfC_len (f : RF) : (rfC f).length = 3 := rfl
instance rf_inhabited : Inhabited RF := ⟨⟨⟨#[]⟩, ⟨#[]⟩, ⟨#[]⟩⟩⟩
def gF (L : List RF) (j : Nat) : RF := L.getD j default
theorem gF_of {L : List RF} {j : Nat} (h : j < L.length) : gF L j = L[j] := by simp [gF, List.getD, h]
structure RS (H : Nat) (w : World) (r : Nat) (v : Value) (off : Bool) (left : Int) (L : List RF) : Prop where
  blk : Blk w r 66 [v, .bool off, .int .i64 left]
  row : w.ownsRow H 71 3 v L.length (L.flatMap rfC)
  few : L.length ≤ 1000
  lo : H ≤ r
  num : -1 ≤ left ∧ left ≤ 9223372036854775807
def RSet (r : Nat) (v : Value) : Nat → Prop := fun i => i = r ∨ v.ownBlock = some i
section
variable {H : Nat} {w w' : World} {r : Nat} {v : Value} {off : Bool} {left : Int} {L : List RF}
theorem RS.keep {S : Nat → Prop} (h : RS H w r v off left L) (k : Turns S w w') (hS : ∀ i, RSet r v i → ¬ S i) : RS H w' r v off left L :=
  ⟨h.blk.turns k (hS r (.inl rfl)), own_turns h.row k (fun g hg => hS g (.inr hg)), h.few, h.lo, h.num⟩
theorem RS.bel (h : RS H w r v off left L) (k : Below w.heap.size w w') : RS H w' r v off left L := h.keep (.of_below (S := fun _ => False) k) (fun _ _ => id)
theorem RS.ne (h : RS H w r v off left L) : v.ownBlock ≠ some r := fun e => own_ne_blk h.row e h.blk (by decide) rfl
theorem RS.cells (h : RS H w r v off left L) : w.cell? ⟨r, 0, none⟩ = some v ∧ w.cell? ⟨r, 1, none⟩ = some (.bool off) ∧ w.cell? ⟨r, 2, none⟩ = some (.int .i64 left) := ⟨h.blk.cell 0, h.blk.cell 1, h.blk.cell 2⟩
theorem RS.row_lt (h : RS H w r v off left L) {g : Nat} (hg : v.ownBlock = some g) : H ≤ g ∧ g < w.heap.size := by
  have hr := h.row
  refine ⟨own_ge hr hg, ?_⟩
  rcases hr.2 with ⟨rfl, _⟩ | ⟨g', cap, cur, rfl, h3, h4, _⟩
  · simp [Value.ownBlock] at hg
  · simp [Value.ownBlock] at hg
    subst hg
    exact (Array.getElem?_eq_some_iff.1 h4).1
theorem RS.set (h : RS H w r v off left L) (off2 : Bool) (left2 : Int) (hb : Blk w' r 66 [v, .bool off2, .int .i64 left2]) (k : Turns (fun i => i = r) w w') (hl : -1 ≤ left2 ∧ left2 ≤ 9223372036854775807) : RS H w' r v off2 left2 L :=
  ⟨hb, own_turns h.row k (fun g hg e => h.ne (by rw [hg, e])), h.few, h.lo, hl⟩
/-- a thing of the row -/
theorem gF_cells {A : Option Addr} {c : Nat} (ho : w.ownsRow H 71 3 (.slice A L.length c) L.length (L.flatMap rfC)) (j : Nat) (hj : j < L.length) :
    ∃ g, A = some ⟨g, 0, none⟩ ∧ g < w.heap.size ∧ L.length ≤ c ∧ c ≤ maxLen ∧ w.cell? ⟨g, j * 3, none⟩ = some (.string (gF L j).name) ∧ w.cell? ⟨g, j * 3 + 1, none⟩ = some (.string (gF L j).last) ∧ w.cell? ⟨g, j * 3 + 2, none⟩ = some (.string (gF L j).waits) := by
  obtain ⟨g, cap, e, _, hg, h1, h2⟩ := own_at ho (by omega)
  injection e with e1 _ e3
  subst e1 e3
  have hx : ∀ i, i < 3 → w.cell? ⟨g, j * 3 + i, none⟩ = (rfC (gF L j))[i]? := fun i hi => by
    rw [ho.cellAt _ (by omega), flat_get rfC 3 rfC_len L j i hi, List.getElem?_eq_getElem hj, gF_of hj]
    rfl
  have h0 := hx 0 (by omega)
  rw [Nat.add_zero] at h0
  exact ⟨g, rfl, hg, h1, h2, h0, hx 1 (by omega), hx 2 (by omega)⟩
end
theorem rnew (w : World) : Calls Try.prog 20 #[] w fun e w' => e = .returned (.pointer (some ⟨w.heap.size, 0, none⟩)) ∧ RS w.heap.size w' w.heap.size (.slice none 0 0) false (-1) [] ∧ Below w.heap.size w w' := by
  go_enter Try.func20, Try.ntmps20
  go_wp2_with fail
  go_ret
  exact ⟨rfl, ⟨Blk.new w 66 [.slice none 0 0, .bool false, .int .i64 (-1)], World.ownsRow_nil _ _ _ _, by simp, Nat.le_refl _, by omega⟩, Below.new w _⟩
/-- fails -/
def faB (left : Int) : Bool := decide (left = 0)
def faN (left : Int) : Int := if left = 0 then -1 else lessF left
def faO (off : Bool) (left : Int) : Bool := off || decide (left = 0)
theorem rfails (H : Nat) (w : World) (r : Nat) (v : Value) (off : Bool) (left : Int) (L : List RF) (h : RS H w r v off left L) :
    Calls Try.prog 48 #[.pointer (some ⟨r, 0, none⟩)] w fun e w' => e = .returned (.bool (faB left)) ∧ RS H w' r v (faO off left) (faN left) L ∧ Turns (fun i => i = r) w w' := by
  have HH := Lib.hid h
  obtain ⟨_, _, c2⟩ := h.cells
  have hbl := h.blk.lt
  have z := h.blk.fz
  have hnum := h.num
  clear h
  by_cases h0 : left = 0
  · subst h0
    go_enter Try.func48, Try.ntmps48
    go_wp2_with fail
    go_ret
    have e1 : faO off 0 = true := by simp [faO]
    rw [e1]
    exact ⟨rfl, HH.out.set true (-1) ((HH.out.blk.set 2 (.int .i64 (-1))).set 1 (.bool true)) ((Turns.of_set (S := fun i => i = r) w ⟨r, 2, none⟩ _ rfl).set ⟨r, 1, none⟩ _ (fun _ => rfl)) (by omega), (Turns.of_set (S := fun i => i = r) w ⟨r, 2, none⟩ _ rfl).set ⟨r, 1, none⟩ _ (fun _ => rfl)⟩
  · have e1 : faO off left = off := by simp [faO, h0]
    have e2 : faN left = lessF left := if_neg h0
    have e3 : faB left = false := decide_eq_false h0
    rw [e1, e2, e3]
    by_cases hp : 0 < left
    · have e4 : lessF left = left - 1 := if_pos hp
      rw [e4]
      clear e1 e2 e3 e4
      go_enter Try.func48, Try.ntmps48
      go_wp2_with fail
      go_ret
      exact ⟨rfl, HH.out.set off (left - 1) (HH.out.blk.set 2 (.int .i64 (left - 1))) (Turns.of_set (S := fun i => i = r) w ⟨r, 2, none⟩ _ rfl) (by omega), Turns.of_set (S := fun i => i = r) w ⟨r, 2, none⟩ _ rfl⟩
    · have e4 : lessF left = left := if_neg hp
      rw [e4]
      clear e1 e2 e3 e4
      go_enter Try.func48, Try.ntmps48
      go_wp2_with fail
      go_ret
      exact ⟨rfl, HH.out, Turns.refl _ _⟩
/-- Find -/
theorem str_ne {a b : ByteArray} (h : ¬ a = b) : (a.toList == b.toList) = false := by
  rw [beq_eq_false_iff_ne, Lib.toList_data, Lib.toList_data]
  exact fun e => h (key_inj e)
def FindY (w : World) (L : List RF) (k : ByteArray) (e : Ending) (w' : World) : Prop :=
  w' = w ∧ ((e = .returned (.int .i64 (-1)) ∧ ∀ f ∈ L, f.name ≠ k) ∨ ∃ i : Nat, i < L.length ∧ e = .returned (.int .i64 (i : Int)) ∧ (gF L i).name = k)
set_option maxRecDepth 20000 in
set_option maxHeartbeats 1600000 in
theorem rfind (H : Nat) (w : World) (r : Nat) (v : Value) (off : Bool) (left : Int) (L : List RF) (h : RS H w r v off left L) (k : ByteArray) :
    Calls Try.prog 49 #[.pointer (some ⟨r, 0, none⟩), .string k] w (FindY w L k) := by
  obtain ⟨c0, _, _⟩ := h.cells
  have HR := Lib.hid h.row
  have hfew := h.few
  obtain ⟨A, c, rfl⟩ := own_slice' h.row
  clear h
  go_enter Try.func49, Try.ntmps49
  go_wp2_with fail
  go_loopw [5] (fun iv wr => ∃ i : Nat, i ≤ L.length ∧ iv = .int .i64 (i : Int) ∧ wr = w ∧ Hid (∀ j, j < i → (gF L j).name ≠ k)) (fun iv _ => L.length - (intOf iv).toNat)
  case atStart => exact ⟨0, by omega, rfl, rfl, Lib.hid (fun j hj => absurd hj (Nat.not_lt_zero _))⟩
  case round =>
    obtain ⟨i, hi, rfl, rfl, hN⟩ := hrel
    by_cases hlt : i < L.length
    · have hlt1 : (i : Int) < (L.length : Int) := by omega
      obtain ⟨g, hA, hgl, hc1, hc2, n0, _, _⟩ := gF_cells HR.out i hlt
      subst hA
      unfold maxLen at hc2
      by_cases hk : (gF L i).name = k
      · have HKq := Lib.hid hk
        rw [hk] at n0
        clear hk
        go_wp2_with fail
        go_ret
        exact ⟨rfl, .inr ⟨i, hlt, rfl, HKq.out⟩⟩
      · have hN2 : Hid (∀ j, j < i + 1 → (gF L j).name ≠ k) := Lib.hid (fun j hj => by
          by_cases e : j = i
          · subst e; exact hk
          · exact hN.out j (by omega))
        generalize (gF L i).name = n at *
        have hq : (n.toList == k.toList) = false := str_ne hk
        clear hk
        go_wp2_with fail
        go_roundw
        case measure => simp only [intOf]; omega
        case rel => exact ⟨i + 1, by omega, by go_num, by first | rfl | trivial, hN2⟩
    · obtain rfl : i = L.length := by omega
      have hlt1 : ¬ (L.length : Int) < (L.length : Int) := by omega
      go_wp2_with fail
      go_ret
      refine ⟨rfl, .inl ⟨rfl, fun f hf => ?_⟩⟩
      obtain ⟨j, hj, rfl⟩ := List.mem_iff_getElem.1 hf
      have := hN.out j hj
      rwa [gF_of hj] at this
end Go.Proofs.Ytoljnklceghcdaa
