/- queue: the closures of Bytes: what they write behind the bytes in their box. -/
import Derived.Test.YtpbheicfplpemaaGreatQaA
import Derived.Test.YtpbheicfplpemaaGreatCodeIn
import Derived.Deep.RegionLaw
import Derived.Deep.AppendLies
namespace Go.Proofs.YtpbheicfplpemaaGreat
open Go.RowKit

theorem bytesV_one (l : List UInt8) : ∀ u ∈ Cd.bytesV l, u.oneCell' = true := fun u hu => by
  obtain ⟨c, _, rfl⟩ := List.mem_map.1 hu
  rfl
theorem own_news {w : World} {base n g cap : Nat} {e : TypeId} {xs : List Value} (h : w.ownsRow base e 1 (.slice (some ⟨g, 0, none⟩) n cap) n xs) : ∀ j u, xs[j]? = some u → w.cell? ((⟨g, 0, none⟩ : Addr).add j) = some u := fun j u hj => by
  have e : (⟨g, 0, none⟩ : Addr).add j = ⟨g, j, none⟩ := by simp [Addr.add]; omega
  rw [e, h.cellAt j (by have := (List.getElem?_eq_some_iff.1 hj).1; have := h.1; omega), hj]
/-- bytes in a box -/
structure Buf (base : Nat) (W : World) (b : Nat) (v : Value) (l : List UInt8) : Prop where
  blk : Blk W b 22 [v]
  row : W.ownsRow base 5 1 v l.length (Cd.bytesV l)
  lo : base ≤ b
def BufSet (b : Nat) (v : Value) : Nat → Prop := fun i => i = b ∨ v.ownBlock = some i
theorem Buf.keep {S : Nat → Prop} {base b : Nat} {W W' : World} {v : Value} {l : List UInt8} (h : Buf base W b v l) (k : Turns S W W') (hS : ∀ i, BufSet b v i → ¬ S i) : Buf base W' b v l :=
  ⟨h.blk.turns k (hS b (.inl rfl)), own_turns h.row k (fun g hg => hS g (.inr hg)), h.lo⟩
theorem Buf.bel {base b : Nat} {W W' : World} {v : Value} {l : List UInt8} (h : Buf base W b v l) (k : Below W.heap.size W W') : Buf base W' b v l := h.keep (.of_below (S := fun _ => False) k) (fun _ _ => id)
def BufY (base : Nat) (W : World) (b : Nat) (v : Value) (l m : List UInt8) (e : Ending) (W' : World) : Prop :=
  e = .returned (.tuple #[]) ∧ ∃ v', Buf base W' b v' (l ++ m) ∧ Turns (BufSet b v) W W' ∧ ∀ g, v'.ownBlock = some g → v.ownBlock = some g ∨ W.heap.size ≤ g
set_option maxRecDepth 20000 in
set_option maxHeartbeats 4000000 in
theorem num1 (base : Nat) (W : World) (b : Nat) (v : Value) (l : List UInt8) (h : Buf base W b v l) (n : Nat) (hn : n < 9223372036854775808) (hl : l.length ≤ 100000000000) :
    Calls Tryz.prog 73 #[.int .i64 (n : Int), .pointer (some ⟨b, 0, none⟩)] W (BufY base W b v l (Cd.uB n)) := by
  obtain ⟨i0, hi, hz0, hz1, hz2⟩ := info_parts info_u8
  have hu := Cd.uB_len10 (n := n) (by omega)
  have hu0 := Cd.uB_pos n
  have HP := Lib.hid (fun (X : World) => putUint_any X n (by omega))
  obtain ⟨A0, c0, rfl⟩ := own_slice' h.row
  have HH := Lib.hid h
  have hbl := h.blk.lt
  have k0 := h.blk.cell 0
  have z0 := h.blk.fz 0
  simp only [List.getElem?_cons_zero] at k0
  have hbn : (Value.slice A0 l.length c0).ownBlock ≠ some b := fun e => own_ne_blk h.row e h.blk (by decide) rfl
  have hl1 : Hid (l.length + (Cd.uB n).length ≤ maxLen) := Lib.hid (by unfold maxLen; omega)
  have hl2 : Hid ((l.length + (Cd.uB n).length) * 1 ≤ 140737488355328) := Lib.hid (by omega)
  have hw : IntKind.u64.wrap (n : Int) = (n : Int) := by rw [IntKind.wrap_u64]; omega
  clear h
  go_enter Tryz.func73, Tryz.ntmps73
  go_region_law (first | (refine step_append_lies _ (by rfl) _ _ _ (by rfl) base 5 i0 (.int .u8 0) 1 1 Tryz.underlying22 hi hz0 hz1 hz2 rfl (by omega) (.slice A0 l.length c0) l.length (Cd.bytesV l) (by rfl) HO2.out ⟨gA, 0, none⟩ (Cd.uB n).length cA (Cd.bytesV (Cd.uB n)) (by rfl) (by rw [Cd.bytesV_length, Nat.mul_one]) HN2.out (bytesV_one _) (by omega) hl1.out hl2.out HB2.out X2.heap.size (by rfl) ?_; intro ag cc1 y1 hown1 hgr1 hat1 hlt1; have hb4 := Lib.hid (KX2.out.turns (.of_grown (S := fun i => (Value.slice A0 l.length c0).ownBlock = some i) hgr1 (fun r e => e)) (fun e => hbn e)); have d0 := hb4.out.cell 0; have dz := hb4.out.fz 0; simp only [List.getElem?_cons_zero] at d0) | (go_simp; (try rw [hw]); go_at_call 74; refine (HP.out _).mono ?_; rintro e X2 ⟨v2, rfl, o2, b2⟩; obtain ⟨gA, cA, rfl, hvA, hgA, hcA, hmA⟩ := own_at o2 hu0; have BW := Lib.hid (below_trans' (below_drewN' (Below.refl W.heap.size W) 1) b2); have KX2 := Lib.hid (HH.out.blk.bel BW.out); have HO2 := Lib.hid (HH.out.bel BW.out).row; have HN2 := Lib.hid (own_news o2); have HB2 := Lib.hid (Nat.le_trans HH.out.lo (Nat.le_of_lt KX2.out.lt)); have k2 := KX2.out.cell 0; have z2 := KX2.out.fz 0; simp only [List.getElem?_cons_zero] at k2; clear o2 b2))
  all_goals
    have HG := Lib.hid (Turns.of_grown (S := fun i => (Value.slice A0 l.length c0).ownBlock = some i) hgr1 (fun r e => e))
    have hagb : ag ≠ b := fun e => by
      rcases hat1 with h1 | h1
      · rw [e] at h1; exact hbn h1
      · have := KX2.out.lt; omega
    have TS : Turns (fun i => i = b) y1 (y1.setCell ⟨b, 0, none⟩ (.slice (some ⟨ag, 0, none⟩) (l.length + (Cd.uB n).length) cc1)) := (Turns.refl (fun i => i = b) y1).set ⟨b, 0, none⟩ _ (fun _ => rfl)
    have yB := hb4.out.set 0 (.slice (some ⟨ag, 0, none⟩) (l.length + (Cd.uB n).length) cc1)
    have yR := own_turns hown1 TS (fun g hg e => by simp [Value.ownBlock] at hg; omega)
    simp only [List.set_cons_zero] at yB
    rw [← Cd.bytesV_append, ← List.length_append] at yR
    have hbw := BW.out.size
    go_end0
    refine ⟨rfl, _, ⟨yB, by rw [List.length_append] at yR ⊢; exact yR, HH.out.lo⟩, ((Turns.of_below (S := BufSet b (.slice A0 l.length c0)) BW.out).trans HG.out (fun i _ e => .inr e)).trans TS (fun i _ e => .inl e), fun g hg => ?_⟩
    simp [Value.ownBlock] at hg
    subst hg
    rcases hat1 with h1 | h1
    · exact .inl h1
    · exact .inr (by omega)
set_option maxRecDepth 20000 in
set_option maxHeartbeats 4000000 in
theorem when1 (base : Nat) (W : World) (b : Nat) (v : Value) (l : List UInt8) (h : Buf base W b v l) (n : Int) (hn1 : -9223372036854775808 ≤ n) (hn2 : n ≤ 9223372036854775807) (hl : l.length ≤ 100000000000) :
    Calls Tryz.prog 75 #[.int .i64 n, .pointer (some ⟨b, 0, none⟩)] W (BufY base W b v l (Cd.uB (Cd.zig n))) := by
  obtain ⟨i0, hi, hz0, hz1, hz2⟩ := info_parts info_u8
  have hu := Cd.uB_len10 (zig_lt n hn1 hn2)
  have hu0 := Cd.uB_pos (Cd.zig n)
  have HP := Lib.hid (fun (X : World) => putInt_any X n hn1 hn2)
  obtain ⟨A0, c0, rfl⟩ := own_slice' h.row
  have HH := Lib.hid h
  have hbl := h.blk.lt
  have k0 := h.blk.cell 0
  have z0 := h.blk.fz 0
  simp only [List.getElem?_cons_zero] at k0
  have hbn : (Value.slice A0 l.length c0).ownBlock ≠ some b := fun e => own_ne_blk h.row e h.blk (by decide) rfl
  have hl1 : Hid (l.length + (Cd.uB (Cd.zig n)).length ≤ maxLen) := Lib.hid (by unfold maxLen; omega)
  have hl2 : Hid ((l.length + (Cd.uB (Cd.zig n)).length) * 1 ≤ 140737488355328) := Lib.hid (by omega)
  clear h
  go_enter Tryz.func75, Tryz.ntmps75
  go_region_law (first | (refine step_append_lies _ (by rfl) _ _ _ (by rfl) base 5 i0 (.int .u8 0) 1 1 Tryz.underlying22 hi hz0 hz1 hz2 rfl (by omega) (.slice A0 l.length c0) l.length (Cd.bytesV l) (by rfl) HO2.out ⟨gA, 0, none⟩ (Cd.uB (Cd.zig n)).length cA (Cd.bytesV (Cd.uB (Cd.zig n))) (by rfl) (by rw [Cd.bytesV_length, Nat.mul_one]) HN2.out (bytesV_one _) (by omega) hl1.out hl2.out HB2.out X2.heap.size (by rfl) ?_; intro ag cc1 y1 hown1 hgr1 hat1 hlt1; have hb4 := Lib.hid (KX2.out.turns (.of_grown (S := fun i => (Value.slice A0 l.length c0).ownBlock = some i) hgr1 (fun r e => e)) (fun e => hbn e)); have d0 := hb4.out.cell 0; have dz := hb4.out.fz 0; simp only [List.getElem?_cons_zero] at d0) | (go_simp; go_at_call 76; refine (HP.out _).mono ?_; rintro e X2 ⟨v2, rfl, o2, b2⟩; obtain ⟨gA, cA, rfl, hvA, hgA, hcA, hmA⟩ := own_at o2 hu0; have BW := Lib.hid (below_trans' (below_drewN' (Below.refl W.heap.size W) 1) b2); have KX2 := Lib.hid (HH.out.blk.bel BW.out); have HO2 := Lib.hid (HH.out.bel BW.out).row; have HN2 := Lib.hid (own_news o2); have HB2 := Lib.hid (Nat.le_trans HH.out.lo (Nat.le_of_lt KX2.out.lt)); have k2 := KX2.out.cell 0; have z2 := KX2.out.fz 0; simp only [List.getElem?_cons_zero] at k2; clear o2 b2))
  all_goals
    have HG := Lib.hid (Turns.of_grown (S := fun i => (Value.slice A0 l.length c0).ownBlock = some i) hgr1 (fun r e => e))
    have hagb : ag ≠ b := fun e => by
      rcases hat1 with h1 | h1
      · rw [e] at h1; exact hbn h1
      · have := KX2.out.lt; omega
    have TS : Turns (fun i => i = b) y1 (y1.setCell ⟨b, 0, none⟩ (.slice (some ⟨ag, 0, none⟩) (l.length + (Cd.uB (Cd.zig n)).length) cc1)) := (Turns.refl (fun i => i = b) y1).set ⟨b, 0, none⟩ _ (fun _ => rfl)
    have yB := hb4.out.set 0 (.slice (some ⟨ag, 0, none⟩) (l.length + (Cd.uB (Cd.zig n)).length) cc1)
    have yR := own_turns hown1 TS (fun g hg e => by simp [Value.ownBlock] at hg; omega)
    simp only [List.set_cons_zero] at yB
    rw [← Cd.bytesV_append, ← List.length_append] at yR
    have hbw := BW.out.size
    go_end0
    refine ⟨rfl, _, ⟨yB, by rw [List.length_append] at yR ⊢; exact yR, HH.out.lo⟩, ((Turns.of_below (S := BufSet b (.slice A0 l.length c0)) BW.out).trans HG.out (fun i _ e => .inr e)).trans TS (fun i _ e => .inl e), fun g hg => ?_⟩
    simp [Value.ownBlock] at hg
    subst hg
    rcases hat1 with h1 | h1
    · exact .inl h1
    · exact .inr (by omega)
theorem textB_le (n : ByteArray) (hn : n.size ≤ 1000000) : (Cd.textB n.data.toList).length ≤ 1000010 := by
  unfold Cd.textB
  have e : n.data.toList.length = n.size := rfl
  rw [List.length_append, e]
  have := Cd.uB_len10 (n := n.size) (by omega)
  omega
theorem textB_pos (n : ByteArray) : 0 < (Cd.textB n.data.toList).length := by
  unfold Cd.textB
  rw [List.length_append]
  have := Cd.uB_pos n.data.toList.length
  omega
set_option maxRecDepth 20000 in
set_option maxHeartbeats 4000000 in
theorem text1 (base : Nat) (W : World) (b : Nat) (v : Value) (l : List UInt8) (h : Buf base W b v l) (n : ByteArray) (hn : n.size ≤ 1000000) (hl : l.length ≤ 100000000000) :
    Calls Tryz.prog 77 #[.string n, .pointer (some ⟨b, 0, none⟩)] W (BufY base W b v l (Cd.textB n.data.toList)) := by
  obtain ⟨i0, hi, hz0, hz1, hz2⟩ := info_parts info_u8
  have hu := textB_le n hn
  have hu0 := textB_pos n
  have HP := Lib.hid (fun (X : World) => putText_any X n (by omega))
  obtain ⟨A0, c0, rfl⟩ := own_slice' h.row
  have HH := Lib.hid h
  have hbl := h.blk.lt
  have k0 := h.blk.cell 0
  have z0 := h.blk.fz 0
  simp only [List.getElem?_cons_zero] at k0
  have hbn : (Value.slice A0 l.length c0).ownBlock ≠ some b := fun e => own_ne_blk h.row e h.blk (by decide) rfl
  have hl1 : Hid (l.length + (Cd.textB n.data.toList).length ≤ maxLen) := Lib.hid (by unfold maxLen; omega)
  have hl2 : Hid ((l.length + (Cd.textB n.data.toList).length) * 1 ≤ 140737488355328) := Lib.hid (by omega)
  clear h
  go_enter Tryz.func77, Tryz.ntmps77
  go_region_law (first | (refine step_append_lies _ (by rfl) _ _ _ (by rfl) base 5 i0 (.int .u8 0) 1 1 Tryz.underlying22 hi hz0 hz1 hz2 rfl (by omega) (.slice A0 l.length c0) l.length (Cd.bytesV l) (by rfl) HO2.out ⟨gA, 0, none⟩ (Cd.textB n.data.toList).length cA (Cd.bytesV (Cd.textB n.data.toList)) (by rfl) (by rw [Cd.bytesV_length, Nat.mul_one]) HN2.out (bytesV_one _) (by omega) hl1.out hl2.out HB2.out X2.heap.size (by rfl) ?_; intro ag cc1 y1 hown1 hgr1 hat1 hlt1; have hb4 := Lib.hid (KX2.out.turns (.of_grown (S := fun i => (Value.slice A0 l.length c0).ownBlock = some i) hgr1 (fun r e => e)) (fun e => hbn e)); have d0 := hb4.out.cell 0; have dz := hb4.out.fz 0; simp only [List.getElem?_cons_zero] at d0) | (go_simp; go_at_call 78; refine (HP.out _).mono ?_; rintro e X2 ⟨v2, rfl, o2, b2⟩; obtain ⟨gA, cA, rfl, hvA, hgA, hcA, hmA⟩ := own_at o2 hu0; have BW := Lib.hid (below_trans' (below_drewN' (Below.refl W.heap.size W) 1) b2); have KX2 := Lib.hid (HH.out.blk.bel BW.out); have HO2 := Lib.hid (HH.out.bel BW.out).row; have HN2 := Lib.hid (own_news o2); have HB2 := Lib.hid (Nat.le_trans HH.out.lo (Nat.le_of_lt KX2.out.lt)); have k2 := KX2.out.cell 0; have z2 := KX2.out.fz 0; simp only [List.getElem?_cons_zero] at k2; clear o2 b2))
  all_goals
    have HG := Lib.hid (Turns.of_grown (S := fun i => (Value.slice A0 l.length c0).ownBlock = some i) hgr1 (fun r e => e))
    have hagb : ag ≠ b := fun e => by
      rcases hat1 with h1 | h1
      · rw [e] at h1; exact hbn h1
      · have := KX2.out.lt; omega
    have TS : Turns (fun i => i = b) y1 (y1.setCell ⟨b, 0, none⟩ (.slice (some ⟨ag, 0, none⟩) (l.length + (Cd.textB n.data.toList).length) cc1)) := (Turns.refl (fun i => i = b) y1).set ⟨b, 0, none⟩ _ (fun _ => rfl)
    have yB := hb4.out.set 0 (.slice (some ⟨ag, 0, none⟩) (l.length + (Cd.textB n.data.toList).length) cc1)
    have yR := own_turns hown1 TS (fun g hg e => by simp [Value.ownBlock] at hg; omega)
    simp only [List.set_cons_zero] at yB
    rw [← Cd.bytesV_append, ← List.length_append] at yR
    have hbw := BW.out.size
    go_end0
    refine ⟨rfl, _, ⟨yB, by rw [List.length_append] at yR ⊢; exact yR, HH.out.lo⟩, ((Turns.of_below (S := BufSet b (.slice A0 l.length c0)) BW.out).trans HG.out (fun i _ e => .inr e)).trans TS (fun i _ e => .inl e), fun g hg => ?_⟩
    simp [Value.ownBlock] at hg
    subst hg
    rcases hat1 with h1 | h1
    · exact .inl h1
    · exact .inr (by omega)
end Go.Proofs.YtpbheicfplpemaaGreat
