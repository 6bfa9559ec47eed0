/- (*event.reader).event: one event is read. -/
import Derived.Test.YticipdjfkpakpaaEvStp
import Derived.Laws.Rows
namespace Go.Proofs.Yticipdjfkpakpaa
open Go.RowKit
attribute [local go_sem] run_store_cx'

/-- what reading an event from outside gives -/
def EvSays (w : World) (r : Nat) (T : TypeId) (more : List Value) (A : Option Addr) (len cap : Nat) (l : List UInt8) (res : Except (Nat × Nat) (Ev × Nat)) (e : Ending) (w' : World) : Prop :=
  (match res with
  | .ok (x, n) => ∃ A2 c2, e = .returned (evV x A2 x.val.length c2) ∧ w'.ownsRow w.heap.size 40 5 (.slice A2 x.val.length c2) x.val.length (ndsV x.val) ∧ ER w' r T more A len cap l n 0
  | .error (p, en) => e = .returned (evV ev0 none 0 0) ∧ ER w' r T more A len cap l p en) ∧ w.grownBy w' (some r)

section
variable {w w' : World} {r : Nat} {T : TypeId} {more : List Value} {A : Option Addr} {len cap : Nat} {l : List UInt8} {a e : Nat}
theorem ER.far (h : ER w r T more A len cap l a e) {b o : Nat} {v : Value} (hb : r ≠ b) (hA : ∀ ad, A = some ad → 0 < l.length → ad.block ≠ b) : ER (w.setCell ⟨b, o, none⟩ v) r T more A len cap l a e :=
  ⟨(Below.heap_setCell _ _ _ _ hb).trans h.blk, in_set h.inn hA, h.apart, h.at_le⟩
end
theorem grown_far {a w : World} {r : Nat} (h : a.grownBy w (some r)) {b o : Nat} (hp : a.heap.size ≤ b) (u : Value) : a.grownBy (w.setCell ⟨b, o, none⟩ u) (some r) :=
  ⟨h.os, h.tape, h.output, by simpa [World.setCell] using h.size, fun i hi hne => (Below.heap_setCell w ⟨b, o, none⟩ u i (by simp only; omega)).trans (h.block i hi hne)⟩
theorem grown_alloc {a w : World} {row : Option Nat} (h : a.grownBy w row) (o : Obj) : a.grownBy (w.alloc o) row :=
  ⟨h.os, h.tape, h.output, Nat.le_trans h.size (by simp), fun i hi hne => (Below.heap_alloc w o i (Nat.lt_of_lt_of_le hi h.size)).trans (h.block i hi hne)⟩

/-- a block that is known whole -/
def Blk (w : World) (g : Nat) (t : TypeId) (cs : List Value) : Prop := w.heap[g]? = some (.cells cs.toArray t (0, 0))
section
variable {w w' : World} {g : Nat} {t : TypeId} {cs : List Value}
theorem Blk.lt (h : Blk w g t cs) : g < w.heap.size := (Array.getElem?_eq_some_iff.1 h).1
theorem Blk.cell (h : Blk w g t cs) (i : Nat) : w.cell? ⟨g, i, none⟩ = cs[i]? := by rw [cell_of_row w g i _ t (0, 0) h, List.getElem?_toArray]
theorem Blk.fz (h : Blk w g t cs) (i : Nat) : w.frozen? ⟨g, i, none⟩ = false := by unfold Blk at h; simp [World.frozen?, h]
theorem Blk.set (h : Blk w g t cs) (i : Nat) (u : Value) : Blk (w.setCell ⟨g, i, none⟩ u) g t (cs.set i u) := by
  unfold Blk at h ⊢
  simp [World.setCell, Array.getElem?_modify, h]
theorem Blk.far (h : Blk w g t cs) {p : Addr} (hp : g ≠ p.block) (u : Value) : Blk (w.setCell p u) g t cs := (Below.heap_setCell w p u g hp).trans h
theorem Blk.bel (h : Blk w g t cs) (hb : Below w.heap.size w w') : Blk w' g t cs := (hb.block g h.lt).trans h
theorem Blk.grown {r : Nat} (h : Blk w g t cs) (hb : w.grownBy w' (some r)) (hne : g ≠ r) : Blk w' g t cs := (hb.block g h.lt (by intro e; injection e with e; exact hne e)).trans h
theorem Blk.alloc (h : Blk w g t cs) (o : Obj) : Blk (w.alloc o) g t cs := (Below.heap_alloc w o g h.lt).trans h
end

theorem vin_own {w : World} {base cap : Nat} {A : Option Addr} {xs : List Nd} (h : w.ownsRow base 40 5 (.slice A xs.length cap) xs.length (ndsV xs)) : VIn w A xs.length xs := by
  rcases Nat.eq_zero_or_pos xs.length with h0 | h0
  · have : xs = [] := List.eq_nil_of_length_eq_zero h0
    subst this
    exact .inl ⟨rfl, rfl⟩
  · obtain ⟨g, rfl, _, h1, h2⟩ := row_of_own h h0
    exact .inr ⟨g, rfl, rfl, h1, h2⟩
/-- a row of the call's own stays where five cells of an elder block are written -/
theorem own5 {W : World} {B base cap : Nat} {A : Option Addr} {xs : List Nd} (h : W.ownsRow base 40 5 (.slice A xs.length cap) xs.length (ndsV xs)) (hb : B + 1 < base) {v0 v1 v2 v3 v4 : Value} :
    (((((W.setCell ⟨B, 0, none⟩ v0).setCell ⟨B, 1, none⟩ v1).setCell ⟨B, 2, none⟩ v2).setCell ⟨B, 3, none⟩ v3).setCell ⟨B, 4, none⟩ v4).ownsRow B 40 5 (.slice A xs.length cap) xs.length (ndsV xs) :=
  (own_far (own_far (own_far (own_far (own_far h (grown_setCell _ B 0 v0) (by omega)) (grown_setCell _ B 1 v1) (by omega)) (grown_setCell _ B 2 v2) (by omega)) (grown_setCell _ B 3 v3) (by omega)) (grown_setCell _ B 4 v4) (by omega)).mono (by omega)

set_option maxRecDepth 20000 in
set_option maxHeartbeats 4000000 in
theorem event_good (w : World) (r : Nat) (T : TypeId) (more : List Value) (A : Option Addr) (len cap : Nat) (l : List UInt8) (a : Nat) (h : ER w r T more A len cap l a 0) (hsz : l.length ≤ 1000000) (hA : ∀ ad, A = some ad → 0 < l.length → ad.block < w.heap.size)
    (ha : a < l.length) (hk : 1 ≤ l[a].toNat ∧ l[a].toNat ≤ 12) :
    Calls Try.prog 19 #[.pointer (some ⟨r, 0, none⟩)] w (EvSays w r T more A len cap l (evRes l a l[a].toNat)) := by
  have hc0 := h.c0
  have hc1 := h.c1
  have hf1 := h.fz 1
  obtain ⟨ad, rfl, hlt, hcell⟩ := h.inn.bs.cell a ha
  obtain rfl := h.inn.bs.len
  have hne : ((a : Int) == (l.length : Int)) = false := by rw [beq_eq_false_iff_ne]; omega
  have l1 : (a : Int) < (l.length : Int) := by omega
  have l2 : (l.length : Int) ≤ 1000000 := by omega
  have hadd : (ad.add a).block < w.heap.size := by rw [add_block]; exact hlt
  have hr := h.lt
  have H := Lib.hid h
  have HA := Lib.hid hA
  have HF : Hid (∀ W, Calls Try.prog 32 #[.int .u8 (l[a].toNat : Int)] W fun e w' => e = .returned (.agg #[.bool true, .bool (hasId l[a].toNat), .bool (hasName l[a].toNat), .bool (hasList l[a].toNat), .bool (hasValue l[a].toNat), .bool (hasInt l[a].toNat), .int .i64 (hLeast l[a].toNat), .int .i64 (hMost l[a].toNat)]) ∧ Below W.heap.size W w') := fun W => by
    have := fields_any l[a].toNat (by omega) W
    unfold hasC at this
    rw [decide_eq_true hk] at this
    exact this
  have HK := Lib.hid hk
  clear h hA hlt hk
  generalize l[a].toNat = k at *
  go_enter Try.func19, Try.ntmps19
  go_wp2_with fail
  refine (HF.out _).mono ?_
  rintro e w1 ⟨rfl, B1⟩
  have hB1 : Below w.heap.size w w1 := (((Below.refl w.heap.size w).alloc (Nat.le_refl _) _).alloc (by simp) _).trans (B1.mono (by simp; omega))
  have kR : Blk w1 w.heap.size 27 [.int .u8 0, .int .i64 0, .string ⟨#[]⟩, .slice none 0 0, .int .i64 0] := (B1.block w.heap.size (by simp; omega)).trans (heap_alloc2_old w _ _)
  have kE : Blk w1 (w.heap.size + 1) 27 [.int .u8 k, .int .i64 0, .string ⟨#[]⟩, .slice none 0 0, .int .i64 0] := (B1.block (w.heap.size + 1) (by simp)).trans (heap_alloc2_new w _ _)
  have h1 := H.out.below hB1
  have hc1 := h1.c1
  have hf1 := h1.fz 1
  have hr1 := h1.lt
  have HE1 := Lib.hid h1
  have HB1 := Lib.hid hB1
  have hsz1 : w.heap.size + 1 < w1.heap.size := by have := B1.size; simp at this; omega
  have KR := Lib.hid kR
  have KE := Lib.hid kE
  clear B1 hB1 kR kE h1 hc0 hcell hadd HF H
  go_wp2_with fail
  -- the reader stands behind the kind
  have h2 := ((HE1.out.set1 (a + 1) (by omega)).below ((Below.refl _ _).alloc (Nat.le_refl _) (.cells #[.bool true, .bool (hasId k), .bool (hasName k), .bool (hasList k), .bool (hasValue k), .bool (hasInt k), .int .i64 (hLeast k), .int .i64 (hMost k)] 70)))
  rw [show ((a + 1 : Nat) : Int) = (a : Int) + 1 from by omega] at h2
  have kR := (KR.out.far (p := ⟨r, 1, none⟩) (by simp only; omega) (.int .i64 ((a : Int) + 1))).alloc (.cells #[.bool true, .bool (hasId k), .bool (hasName k), .bool (hasList k), .bool (hasValue k), .bool (hasInt k), .int .i64 (hLeast k), .int .i64 (hMost k)] 70)
  have kE := (KE.out.far (p := ⟨r, 1, none⟩) (by simp only; omega) (.int .i64 ((a : Int) + 1))).alloc (.cells #[.bool true, .bool (hasId k), .bool (hasName k), .bool (hasList k), .bool (hasValue k), .bool (hasInt k), .int .i64 (hLeast k), .int .i64 (hMost k)] 70)
  have kF : Blk ((w1.setCell ⟨r, 1, none⟩ (.int .i64 ((a : Int) + 1))).alloc (.cells #[.bool true, .bool (hasId k), .bool (hasName k), .bool (hasList k), .bool (hasValue k), .bool (hasInt k), .int .i64 (hLeast k), .int .i64 (hMost k)] 70)) w1.heap.size 70 [.bool true, .bool (hasId k), .bool (hasName k), .bool (hasList k), .bool (hasValue k), .bool (hasInt k), .int .i64 (hLeast k), .int .i64 (hMost k)] := by
    have := heap_alloc_new (w1.setCell ⟨r, 1, none⟩ (.int .i64 ((a : Int) + 1))) (.cells #[.bool true, .bool (hasId k), .bool (hasName k), .bool (hasList k), .bool (hasValue k), .bool (hasInt k), .int .i64 (hLeast k), .int .i64 (hMost k)] 70)
    rwa [show (w1.setCell ⟨r, 1, none⟩ (.int .i64 ((a : Int) + 1))).heap.size = w1.heap.size from by simp [World.setCell]] at this
  have g2 : w.grownBy ((w1.setCell ⟨r, 1, none⟩ (.int .i64 ((a : Int) + 1))).alloc (.cells #[.bool true, .bool (hasId k), .bool (hasName k), .bool (hasList k), .bool (hasValue k), .bool (hasInt k), .int .i64 (hLeast k), .int .i64 (hMost k)] 70)) (some r) := grown_alloc (grown_set (grown_of_below HB1.out _) 1 _) _
  generalize ((w1.setCell ⟨r, 1, none⟩ (.int .i64 ((a : Int) + 1))).alloc (.cells #[.bool true, .bool (hasId k), .bool (hasName k), .bool (hasList k), .bool (hasValue k), .bool (hasInt k), .int .i64 (hLeast k), .int .i64 (hMost k)] 70)) = W2 at h2 kR kE kF g2 ⊢
  generalize hF : w1.heap.size = F at *
  have hFr : r < F := by omega
  clear KR KE HE1 HB1 hc1 hf1 hF hr1
  -- the Id
  refine (step_uint64 (hasId k) W2 r T more _ _ cap l (a + 1) 0 h2 hsz).mono ?_
  rintro e W3 ⟨rfl, h3, g3⟩
  generalize hs1 : stp (hasId k) 0 (fun m => Cd.rdUint m 0) l (a + 1) 0 = s1 at h3 ⊢
  have HS1 := Lib.hid hs1
  clear hs1
  replace kR := kR.grown g3 (by omega)
  replace kE := kE.grown g3 (by omega)
  replace kF := kF.grown g3 (by omega)
  replace g2 := g2.trans g3
  have f2 := kF.cell 2
  simp only [List.getElem?_cons_succ, List.getElem?_cons_zero] at f2
  clear h2 g3
  unfold u64V
  go_wp2_with fail
  -- the name
  clear f2
  refine (step_string (hasName k) W3 r T more _ _ cap l s1.2.1 s1.2.2 h3 hsz).mono ?_
  rintro e W4 ⟨rfl, h4, g4⟩
  generalize hs2 : stp (hasName k) [] (fun m => Cd.rdText m 0) l s1.2.1 s1.2.2 = s2 at h4 ⊢
  have HS2 := Lib.hid hs2
  clear hs2
  replace kR := kR.grown g4 (by omega)
  replace kE := kE.grown g4 (by omega)
  replace kF := kF.grown g4 (by omega)
  replace g2 := g2.trans g4
  have f4 := kF.cell 4
  have e2 := kE.cell 2
  have z2 := kE.fz 2
  simp only [List.getElem?_cons_succ, List.getElem?_cons_zero] at f4 e2
  clear h3 g4
  unfold strV
  go_wp2_with fail
  -- the value
  have h5 := h4.far (b := w.heap.size + 1) (o := 2) (v := .string ⟨s2.1.toArray⟩) (by omega) (fun ad e h0 => by have := HA.out ad e h0; omega)
  replace kR := kR.far (p := ⟨w.heap.size + 1, 2, none⟩) (by simp only; omega) (.string ⟨s2.1.toArray⟩)
  replace kF := kF.far (p := ⟨w.heap.size + 1, 2, none⟩) (by simp only; omega) (.string ⟨s2.1.toArray⟩)
  replace kE : Blk (W4.setCell ⟨w.heap.size + 1, 2, none⟩ (.string ⟨s2.1.toArray⟩)) (w.heap.size + 1) 27 [.int .u8 k, .int .i64 0, .string ⟨s2.1.toArray⟩, .slice none 0 0, .int .i64 0] := kE.set 2 _
  replace g2 := grown_far g2 (b := w.heap.size + 1) (o := 2) (by omega) (.string ⟨s2.1.toArray⟩)
  generalize (W4.setCell ⟨w.heap.size + 1, 2, none⟩ (.string ⟨s2.1.toArray⟩)) = W5 at h5 kR kE kF g2 ⊢
  clear h4 f4 e2 z2
  refine (step_nodes (hasValue k) W5 r T more _ _ cap l s2.2.1 s2.2.2 h5 hsz).mono ?_
  rintro e W6 ⟨⟨A2, c2, rfl, ho⟩, h6, g6⟩
  generalize hs3 : stp (hasValue k) [] rdValue l s2.2.1 s2.2.2 = s3 at h6 ho ⊢
  have HS3 := Lib.hid hs3
  have hw5 : w.heap.size + 1 < W5.heap.size := kE.lt
  replace kR := kR.grown g6 (by omega)
  replace kE := kE.grown g6 (by omega)
  replace kF := kF.grown g6 (by omega)
  replace g2 := g2.trans g6
  have f5 := kF.cell 5
  have e3 := kE.cell 3
  have z3 := kE.fz 3
  simp only [List.getElem?_cons_succ, List.getElem?_cons_zero] at f5 e3
  have HO := Lib.hid ho
  clear hs3 h5 g6 ho
  go_wp2_with fail
  -- the number
  have h7 := h6.far (b := w.heap.size + 1) (o := 3) (v := .slice A2 s3.1.length c2) (by omega) (fun ad e h0 => by have := HA.out ad e h0; omega)
  replace kR := kR.far (p := ⟨w.heap.size + 1, 3, none⟩) (by simp only; omega) (.slice A2 s3.1.length c2)
  replace kE : Blk (W6.setCell ⟨w.heap.size + 1, 3, none⟩ (.slice A2 s3.1.length c2)) (w.heap.size + 1) 27 [.int .u8 k, .int .i64 0, .string ⟨s2.1.toArray⟩, .slice A2 s3.1.length c2, .int .i64 0] := kE.set 3 _
  replace g2 := grown_far g2 (b := w.heap.size + 1) (o := 3) (by omega) (.slice A2 s3.1.length c2)
  replace HO := Lib.hid (own_far HO.out (grown_setCell W6 (w.heap.size + 1) 3 (.slice A2 s3.1.length c2)) hw5)
  generalize (W6.setCell ⟨w.heap.size + 1, 3, none⟩ (.slice A2 s3.1.length c2)) = W7 at h7 kR kE g2 HO ⊢
  clear h6 f5 e3 z3 kF
  refine (step_int64 (hasInt k) W7 r T more _ _ cap l s3.2.1 s3.2.2 h7 hsz).mono ?_
  rintro e W8 ⟨rfl, h8, g8⟩
  generalize hs4 : stp (hasInt k) 0 (fun m => Cd.rdInt m 0) l s3.2.1 s3.2.2 = s4 at h8 ⊢
  have HS4 := Lib.hid hs4
  replace kR := kR.grown g8 (by omega)
  replace kE := kE.grown g8 (by omega)
  replace g2 := g2.trans g8
  replace HO := Lib.hid (own_far HO.out g8 (by omega))
  have e4 := kE.cell 4
  have e1 := kE.cell 1
  have z4 := kE.fz 4
  have z1 := kE.fz 1
  have hc2 := h8.c2
  simp only [List.getElem?_cons_succ, List.getElem?_cons_zero] at e4 e1
  clear hs4 h7 g8
  unfold i64V
  have e0 := kE.cell 0
  have e2 := kE.cell 2
  have e3 := kE.cell 3
  simp only [List.getElem?_cons_succ, List.getElem?_cons_zero] at e0 e2 e3
  have HES := Lib.hid (evStp_is l a k HS1.out HS2.out HS3.out HS4.out)
  have HRAW := Lib.hid (fun h => evStp_raw (l := l) (a := a) HK.out hsz h)
  have HFE : Hid (∀ (W : World) (b c o : Nat) (v : Value), ER W r T more (some ad) l.length cap l b c → ER (W.setCell ⟨w.heap.size + 1, o, none⟩ v) r T more (some ad) l.length cap l b c) :=
    fun W b c o v hh => hh.far (by omega) (fun ad' e h0 => by have := HA.out ad' e h0; omega)
  have HFR : Hid (∀ (W : World) (b c o : Nat) (v : Value), ER W r T more (some ad) l.length cap l b c → ER (W.setCell ⟨w.heap.size, o, none⟩ v) r T more (some ad) l.length cap l b c) :=
    fun W b c o v hh => hh.far (by omega) (fun ad' e h0 => by have := HA.out ad' e h0; omega)
  have HG : Hid (∀ (W : World) (b o : Nat) (v : Value), w.heap.size ≤ b → w.grownBy W (some r) → w.grownBy (W.setCell ⟨b, o, none⟩ v) (some r)) := fun W b o v hb hg => grown_far hg hb v
  have HW5 : Hid (w.heap.size + 1 < W5.heap.size) := hw5
  have HZR : Hid (∀ (W : World), Blk W w.heap.size 27 [.int .u8 0, .int .i64 0, .string ⟨#[]⟩, .slice none 0 0, .int .i64 0] → ∀ (v0 v1 v2 v3 v4 : Value), Blk (((((W.setCell ⟨w.heap.size, 0, none⟩ v0).setCell ⟨w.heap.size, 1, none⟩ v1).setCell ⟨w.heap.size, 2, none⟩ v2).setCell ⟨w.heap.size, 3, none⟩ v3).setCell ⟨w.heap.size, 4, none⟩ v4) w.heap.size 27 [v0, v1, v2, v3, v4]) :=
    fun W hW v0 v1 v2 v3 v4 => ((((hW.set 0 v0).set 1 v1).set 2 v2).set 3 v3).set 4 v4
  have HE5 : Hid (∀ (W : World) (b c : Nat), ER W r T more (some ad) l.length cap l b c → ∀ (v0 v1 v2 v3 v4 : Value), ER (((((W.setCell ⟨w.heap.size, 0, none⟩ v0).setCell ⟨w.heap.size, 1, none⟩ v1).setCell ⟨w.heap.size, 2, none⟩ v2).setCell ⟨w.heap.size, 3, none⟩ v3).setCell ⟨w.heap.size, 4, none⟩ v4) r T more (some ad) l.length cap l b c) :=
    fun W b c hW v0 v1 v2 v3 v4 => HFR.out _ _ _ 4 v4 (HFR.out _ _ _ 3 v3 (HFR.out _ _ _ 2 v2 (HFR.out _ _ _ 1 v1 (HFR.out _ _ _ 0 v0 hW))))
  have HG5 : Hid (∀ (W : World), w.grownBy W (some r) → ∀ (v0 v1 v2 v3 v4 : Value), w.grownBy (((((W.setCell ⟨w.heap.size, 0, none⟩ v0).setCell ⟨w.heap.size, 1, none⟩ v1).setCell ⟨w.heap.size, 2, none⟩ v2).setCell ⟨w.heap.size, 3, none⟩ v3).setCell ⟨w.heap.size, 4, none⟩ v4) (some r)) :=
    fun W hW v0 v1 v2 v3 v4 => HG.out _ _ 4 v4 (Nat.le_refl _) (HG.out _ _ 3 v3 (Nat.le_refl _) (HG.out _ _ 2 v2 (Nat.le_refl _) (HG.out _ _ 1 v1 (Nat.le_refl _) (HG.out _ _ 0 v0 (Nat.le_refl _) hW))))
  clear HS1 HS2 HS3 HS4
  rcases Nat.lt_or_ge 500 s1.1 with hm | hm
  · have hm' : (500 : Int) < (s1.1 : Int) := by omega
    have hid : Hid (min s1.1 500 = 500) := by unfold Hid; omega
    clear hm
    have k8 := (kR.far (p := ⟨w.heap.size + 1, 4, none⟩) (by simp only; omega) (.int .i64 s4.1)).far (p := ⟨w.heap.size + 1, 1, none⟩) (by simp only; omega) (.int .i64 (500 : Int))
    have j8 : Blk ((W8.setCell ⟨w.heap.size + 1, 4, none⟩ (.int .i64 s4.1)).setCell ⟨w.heap.size + 1, 1, none⟩ (.int .i64 (500 : Int))) (w.heap.size + 1) 27 [.int .u8 k, .int .i64 (500 : Int), .string ⟨s2.1.toArray⟩, .slice A2 s3.1.length c2, .int .i64 s4.1] := (kE.set 4 _).set 1 _
    have h9 := HFE.out _ _ _ 1 (.int .i64 (500 : Int)) (HFE.out _ _ _ 4 (.int .i64 s4.1) h8)
    have g9 := HG.out _ _ 1 (.int .i64 (500 : Int)) (Nat.le_succ _) (HG.out _ _ 4 (.int .i64 s4.1) (Nat.le_succ _) g2)
    have o9 := Lib.hid (own_far (own_far HO.out (grown_setCell W8 (w.heap.size + 1) 4 (.int .i64 s4.1)) HW5.out) (grown_setCell _ (w.heap.size + 1) 1 (.int .i64 (500 : Int))) HW5.out)
    have J8 := Lib.hid j8
    have G9 := Lib.hid g9
    have H9 := Lib.hid h9
    have K8 := Lib.hid k8
    clear j8 g9 h9 k8
    rcases Nat.eq_zero_or_pos s4.2.2 with hen | hen
    · have hz : ((s4.2.2 : Int) == 0) = true := by rw [beq_iff_eq]; omega
      have hx : EvRaw ⟨k, 500, s2.1, s3.1, s4.1⟩ := by have := HRAW.out (by rw [HES.out]; exact hen); rw [HES.out, hid.out] at this; exact this
      have HX := Lib.hid hx
      have HEN := Lib.hid hen
      clear hen hx
      rcases hok : evOk ⟨k, 500, s2.1, s3.1, s4.1⟩ with _ | _
      · have HOK := Lib.hid hok
        clear hok
        go_wp2_with fail
        refine (evCheck_any ⟨k, 500, s2.1, s3.1, s4.1⟩ HX.out A2 s3.1.length c2 _ (vin_own o9.out)).mono ?_
        rintro e W10 ⟨rfl, B10⟩
        rw [HOK.out]
        have h10 := H9.out.below B10
        have G10 := Lib.hid (G9.out.trans (grown_of_below B10 _))
        have kR := K8.out.bel B10
        have r0 := kR.cell 0
        have r1 := kR.cell 1
        have r2 := kR.cell 2
        have r3 := kR.cell 3
        have r4 := kR.cell 4
        have q0 := kR.fz 0
        have q1 := kR.fz 1
        have q2 := kR.fz 2
        have q3 := kR.fz 3
        have q4 := kR.fz 4
        simp only [List.getElem?_cons_succ, List.getElem?_cons_zero] at r0 r1 r2 r3 r4
        have hc1 := h10.c1
        have hc2 := h10.c2
        have hf1 := h10.fz 1
        have hf2 := h10.fz 2
        have H10 := Lib.hid h10
        have KR := Lib.hid kR
        have hr10 : r ≠ w.heap.size := by omega
        clear h10 kR B10 K8 J8 G9 H9 o9 HO h8 g2 kE
        unfold okInt
        go_wp2_with fail
        have h11 := (H10.out.set1 a (by omega)).set2 3
        have k11 := (KR.out.far (p := ⟨r, 1, none⟩) (by simp only; omega) (.int .i64 (a : Int))).far (p := ⟨r, 2, none⟩) (by simp only; omega) (.int .i64 3)
        refine bodyPost_ret (results_cell_row (h := rfl) (g := w.heap.size) (t := 27) (cs := ([.int .u8 0, .int .i64 0, .string ⟨#[]⟩, .slice none 0 0, .int .i64 0] : List Value).toArray) (fr := (0, 0)) (hp := rfl) (hg := HZR.out _ k11 (.int .u8 0) (.int .i64 0) (.string ⟨#[]⟩) (.slice none 0 0) (.int .i64 0)) (hu := Try.underlying27) (hd := rfl) (hi := by kernel_rfl) _ _) rfl ?_
        show EvSays w r T more (some ad) l.length cap l (evRes l a k) _ _
        unfold evRes
        rw [HES.out, hid.out]
        simp only [HEN.out, HOK.out, if_true, Bool.false_eq_true, if_false]
        exact ⟨⟨rfl, HE5.out _ _ _ h11 (.int .u8 0) (.int .i64 0) (.string ⟨#[]⟩) (.slice none 0 0) (.int .i64 0)⟩, HG5.out _ (grown_set (grown_set G10.out 1 _) 2 _) (.int .u8 0) (.int .i64 0) (.string ⟨#[]⟩) (.slice none 0 0) (.int .i64 0)⟩
      · exact absurd hok (by simp [evOk])
    · have hz : ((s4.2.2 : Int) == 0) = false := by rw [beq_eq_false_iff_ne]; omega
      have hz2 : ((s4.2.2 : Int) != 0) = true := by rw [bne_iff_ne]; omega
      have r0 := kR.cell 0
      have r1 := kR.cell 1
      have r2 := kR.cell 2
      have r3 := kR.cell 3
      have r4 := kR.cell 4
      have q0 := kR.fz 0
      have q1 := kR.fz 1
      have q2 := kR.fz 2
      have q3 := kR.fz 3
      have q4 := kR.fz 4
      simp only [List.getElem?_cons_succ, List.getElem?_cons_zero] at r0 r1 r2 r3 r4
      have HEN := Lib.hid (show s4.2.2 ≠ 0 by omega)
      clear hen
      go_wp2_with fail
      refine bodyPost_ret (results_cell_row (h := rfl) (g := w.heap.size) (t := 27) (cs := ([.int .u8 0, .int .i64 0, .string ⟨#[]⟩, .slice none 0 0, .int .i64 0] : List Value).toArray) (fr := (0, 0)) (hp := rfl) (hg := HZR.out _ K8.out (.int .u8 0) (.int .i64 0) (.string ⟨#[]⟩) (.slice none 0 0) (.int .i64 0)) (hu := Try.underlying27) (hd := rfl) (hi := by kernel_rfl) _ _) rfl ?_
      show EvSays w r T more (some ad) l.length cap l (evRes l a k) _ _
      unfold evRes
      rw [HES.out]
      simp only [HEN.out, if_false]
      exact ⟨⟨rfl, HE5.out _ _ _ H9.out (.int .u8 0) (.int .i64 0) (.string ⟨#[]⟩) (.slice none 0 0) (.int .i64 0)⟩, HG5.out _ G9.out (.int .u8 0) (.int .i64 0) (.string ⟨#[]⟩) (.slice none 0 0) (.int .i64 0)⟩
  · have hm' : (s1.1 : Int) ≤ 500 := by omega
    have hid : Hid (min s1.1 500 = s1.1) := by unfold Hid; omega
    clear hm
    have k8 := (kR.far (p := ⟨w.heap.size + 1, 4, none⟩) (by simp only; omega) (.int .i64 s4.1)).far (p := ⟨w.heap.size + 1, 1, none⟩) (by simp only; omega) (.int .i64 (s1.1 : Int))
    have j8 : Blk ((W8.setCell ⟨w.heap.size + 1, 4, none⟩ (.int .i64 s4.1)).setCell ⟨w.heap.size + 1, 1, none⟩ (.int .i64 (s1.1 : Int))) (w.heap.size + 1) 27 [.int .u8 k, .int .i64 (s1.1 : Int), .string ⟨s2.1.toArray⟩, .slice A2 s3.1.length c2, .int .i64 s4.1] := (kE.set 4 _).set 1 _
    have h9 := HFE.out _ _ _ 1 (.int .i64 (s1.1 : Int)) (HFE.out _ _ _ 4 (.int .i64 s4.1) h8)
    have g9 := HG.out _ _ 1 (.int .i64 (s1.1 : Int)) (Nat.le_succ _) (HG.out _ _ 4 (.int .i64 s4.1) (Nat.le_succ _) g2)
    have o9 := Lib.hid (own_far (own_far HO.out (grown_setCell W8 (w.heap.size + 1) 4 (.int .i64 s4.1)) HW5.out) (grown_setCell _ (w.heap.size + 1) 1 (.int .i64 (s1.1 : Int))) HW5.out)
    have J8 := Lib.hid j8
    have G9 := Lib.hid g9
    have H9 := Lib.hid h9
    have K8 := Lib.hid k8
    clear j8 g9 h9 k8
    rcases Nat.eq_zero_or_pos s4.2.2 with hen | hen
    · have hz : ((s4.2.2 : Int) == 0) = true := by rw [beq_iff_eq]; omega
      have hx : EvRaw ⟨k, s1.1, s2.1, s3.1, s4.1⟩ := by have := HRAW.out (by rw [HES.out]; exact hen); rw [HES.out, hid.out] at this; exact this
      have HX := Lib.hid hx
      have HEN := Lib.hid hen
      clear hen hx
      rcases hok : evOk ⟨k, s1.1, s2.1, s3.1, s4.1⟩ with _ | _
      · have HOK := Lib.hid hok
        clear hok
        go_wp2_with fail
        refine (evCheck_any ⟨k, s1.1, s2.1, s3.1, s4.1⟩ HX.out A2 s3.1.length c2 _ (vin_own o9.out)).mono ?_
        rintro e W10 ⟨rfl, B10⟩
        rw [HOK.out]
        have h10 := H9.out.below B10
        have G10 := Lib.hid (G9.out.trans (grown_of_below B10 _))
        have kR := K8.out.bel B10
        have r0 := kR.cell 0
        have r1 := kR.cell 1
        have r2 := kR.cell 2
        have r3 := kR.cell 3
        have r4 := kR.cell 4
        have q0 := kR.fz 0
        have q1 := kR.fz 1
        have q2 := kR.fz 2
        have q3 := kR.fz 3
        have q4 := kR.fz 4
        simp only [List.getElem?_cons_succ, List.getElem?_cons_zero] at r0 r1 r2 r3 r4
        have hc1 := h10.c1
        have hc2 := h10.c2
        have hf1 := h10.fz 1
        have hf2 := h10.fz 2
        have H10 := Lib.hid h10
        have KR := Lib.hid kR
        have hr10 : r ≠ w.heap.size := by omega
        clear h10 kR B10 K8 J8 G9 H9 o9 HO h8 g2 kE
        unfold okInt
        go_wp2_with fail
        have h11 := (H10.out.set1 a (by omega)).set2 3
        have k11 := (KR.out.far (p := ⟨r, 1, none⟩) (by simp only; omega) (.int .i64 (a : Int))).far (p := ⟨r, 2, none⟩) (by simp only; omega) (.int .i64 3)
        refine bodyPost_ret (results_cell_row (h := rfl) (g := w.heap.size) (t := 27) (cs := ([.int .u8 0, .int .i64 0, .string ⟨#[]⟩, .slice none 0 0, .int .i64 0] : List Value).toArray) (fr := (0, 0)) (hp := rfl) (hg := HZR.out _ k11 (.int .u8 0) (.int .i64 0) (.string ⟨#[]⟩) (.slice none 0 0) (.int .i64 0)) (hu := Try.underlying27) (hd := rfl) (hi := by kernel_rfl) _ _) rfl ?_
        show EvSays w r T more (some ad) l.length cap l (evRes l a k) _ _
        unfold evRes
        rw [HES.out, hid.out]
        simp only [HEN.out, HOK.out, if_true, Bool.false_eq_true, if_false]
        exact ⟨⟨rfl, HE5.out _ _ _ h11 (.int .u8 0) (.int .i64 0) (.string ⟨#[]⟩) (.slice none 0 0) (.int .i64 0)⟩, HG5.out _ (grown_set (grown_set G10.out 1 _) 2 _) (.int .u8 0) (.int .i64 0) (.string ⟨#[]⟩) (.slice none 0 0) (.int .i64 0)⟩
      · have HOK := Lib.hid hok
        clear hok
        go_wp2_with fail
        refine (evCheck_any ⟨k, s1.1, s2.1, s3.1, s4.1⟩ HX.out A2 s3.1.length c2 _ (vin_own o9.out)).mono ?_
        rintro e W10 ⟨rfl, B10⟩
        rw [HOK.out]
        have h10 := H9.out.below B10
        have G10 := Lib.hid (G9.out.trans (grown_of_below B10 _))
        have kR := K8.out.bel B10
        have kJ := J8.out.bel B10
        have r0 := kR.cell 0
        have r1 := kR.cell 1
        have r2 := kR.cell 2
        have r3 := kR.cell 3
        have r4 := kR.cell 4
        have q0 := kR.fz 0
        have q1 := kR.fz 1
        have q2 := kR.fz 2
        have q3 := kR.fz 3
        have q4 := kR.fz 4
        simp only [List.getElem?_cons_succ, List.getElem?_cons_zero] at r0 r1 r2 r3 r4
        have hc2 := h10.c2
        have y0 := kJ.cell 0
        have y1 := kJ.cell 1
        have y2 := kJ.cell 2
        have y3 := kJ.cell 3
        have y4 := kJ.cell 4
        simp only [List.getElem?_cons_succ, List.getElem?_cons_zero] at y0 y1 y2 y3 y4
        have H10 := Lib.hid h10
        have KR := Lib.hid kR
        have O10 := Lib.hid (own_below o9.out B10)
        have hr10 : r ≠ w.heap.size := by omega
        clear h10 kR kJ B10 K8 J8 G9 H9 o9 HO h8 g2 kE
        unfold okInt
        go_wp2_with fail
        refine bodyPost_ret (results_cell_row (h := rfl) (g := w.heap.size) (t := 27) (cs := ([.int .u8 k, .int .i64 (s1.1 : Int), .string ⟨s2.1.toArray⟩, .slice A2 s3.1.length c2, .int .i64 s4.1] : List Value).toArray) (fr := (0, 0)) (hp := rfl) (hg := HZR.out _ KR.out _ _ _ _ _) (hu := Try.underlying27) (hd := rfl) (hi := by kernel_rfl) _ _) rfl ?_
        show EvSays w r T more (some ad) l.length cap l (evRes l a k) _ _
        unfold evRes
        rw [HES.out, hid.out]
        simp only [HEN.out, HOK.out, if_true]
        refine ⟨⟨A2, c2, rfl, own5 O10.out HW5.out, ?_⟩, HG5.out _ G10.out _ _ _ _ _⟩
        have := HE5.out _ _ _ H10.out (.int .u8 k) (.int .i64 (s1.1 : Int)) (.string ⟨s2.1.toArray⟩) (.slice A2 s3.1.length c2) (.int .i64 s4.1)
        rw [HEN.out] at this
        exact this
    · have hz : ((s4.2.2 : Int) == 0) = false := by rw [beq_eq_false_iff_ne]; omega
      have hz2 : ((s4.2.2 : Int) != 0) = true := by rw [bne_iff_ne]; omega
      have r0 := kR.cell 0
      have r1 := kR.cell 1
      have r2 := kR.cell 2
      have r3 := kR.cell 3
      have r4 := kR.cell 4
      have q0 := kR.fz 0
      have q1 := kR.fz 1
      have q2 := kR.fz 2
      have q3 := kR.fz 3
      have q4 := kR.fz 4
      simp only [List.getElem?_cons_succ, List.getElem?_cons_zero] at r0 r1 r2 r3 r4
      have HEN := Lib.hid (show s4.2.2 ≠ 0 by omega)
      clear hen
      go_wp2_with fail
      refine bodyPost_ret (results_cell_row (h := rfl) (g := w.heap.size) (t := 27) (cs := ([.int .u8 0, .int .i64 0, .string ⟨#[]⟩, .slice none 0 0, .int .i64 0] : List Value).toArray) (fr := (0, 0)) (hp := rfl) (hg := HZR.out _ K8.out (.int .u8 0) (.int .i64 0) (.string ⟨#[]⟩) (.slice none 0 0) (.int .i64 0)) (hu := Try.underlying27) (hd := rfl) (hi := by kernel_rfl) _ _) rfl ?_
      show EvSays w r T more (some ad) l.length cap l (evRes l a k) _ _
      unfold evRes
      rw [HES.out]
      simp only [HEN.out, if_false]
      exact ⟨⟨rfl, HE5.out _ _ _ H9.out (.int .u8 0) (.int .i64 0) (.string ⟨#[]⟩) (.slice none 0 0) (.int .i64 0)⟩, HG5.out _ G9.out (.int .u8 0) (.int .i64 0) (.string ⟨#[]⟩) (.slice none 0 0) (.int .i64 0)⟩
end Go.Proofs.Yticipdjfkpakpaa
