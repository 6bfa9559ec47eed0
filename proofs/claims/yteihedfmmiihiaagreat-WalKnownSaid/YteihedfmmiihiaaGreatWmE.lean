/- WmE: texts of wal, merged (a claim may hold few texts) -/
import Derived.Test.YteihedfmmiihiaaGreatDkRead
import Derived.Test.YteihedfmmiihiaaGreatWmD
namespace Go.Proofs.YteihedfmmiihiaaGreat
open Go.RowKit

theorem append_mine (w : World) (H : Nat) (v : Value) (l : List UInt8) (ho : w.ownsRow H 5 1 v l.length (Cd.bytesV l)) (hH : H ≤ w.heap.size) (B : Option Addr) (m c : Nat) (lb : List UInt8) (hs : Bs w B m lb) (hL : l.length + lb.length ≤ 100000000000) (ty : TypeId) :
    ∃ A' cap' w', (Builtin.append_ #[30, 30] ty #[v, .slice B m c]).run Tryz.prog w = .ok (.slice A' (l ++ lb).length cap') w' ∧ w'.ownsRow H 5 1 (.slice A' (l ++ lb).length cap') (l ++ lb).length (Cd.bytesV (l ++ lb)) ∧ w.grownBy w' v.ownBlock ∧
      ((Value.slice A' (l ++ lb).length cap').ownBlock = v.ownBlock ∨ (Value.slice A' (l ++ lb).length cap').ownBlock = some w.heap.size) := by
  obtain ⟨i0, hi, hz0, hz1, hz2⟩ := info_parts info_u8
  have hm := hs.len
  obtain ⟨A, cap, rfl⟩ := own_slice' ho
  by_cases h0 : m = 0
  · have hlb : lb = [] := List.eq_nil_of_length_eq_zero (by omega)
    subst hlb
    subst h0
    have hsrc : Src Tryz.prog i0.size 30 (.slice B 0 c) 0 [] w := by
      cases B with
      | none => exact Src.ofNil w Tryz.underlying30 c
      | some a => exact Src.ofSlice w Tryz.underlying30 a 0 c [] (by simp) (by simp) (by simp)
    have hle : l.length ≤ cap := by
      rcases ho.2 with ⟨e, e2⟩ | ⟨g, cap', cur, e, _, _, h5, _⟩
      · omega
      · injection e with _ _ e; omega
    have hrun := run_append_nothing w 30 30 ty 5 i0 Tryz.underlying30 hi A l.length cap hle _ hsrc
    refine ⟨A, cap, w, by rw [List.append_nil]; exact hrun, by rw [List.append_nil]; exact ho, ⟨rfl, rfl, rfl, Nat.le_refl _, fun _ _ _ => rfl⟩, .inl (by rw [List.append_nil])⟩
  · cases B with
    | none => exact absurd hs.none.1 h0
    | some a =>
      obtain ⟨v', w', hrun, r1, r2, _, r4⟩ := run_append_own_at (P := Tryz.prog) w H 30 ty 5 i0 (.int .u8 0) 1 1 Tryz.underlying30 hi hz0 hz1 hz2 rfl (by decide) _ l.length (Cd.bytesV l) ho a m c (Cd.bytesV lb) (by simp [Cd.bytesV]; omega) hs.adds (bytesV_one _) (by unfold maxLen; omega) (by omega) hH
      rw [← Cd.bytesV_append] at r1
      obtain ⟨A', c', rfl⟩ := own_slice' r1
      have e : l.length + m = (l ++ lb).length := by rw [List.length_append]; omega
      rw [e] at r1 r4 hrun
      exact ⟨A', c', w', hrun, r1, r2, r4⟩
end Go.Proofs.YteihedfmmiihiaaGreat

namespace Go.Proofs.YteihedfmmiihiaaGreat
open Go.RowKit

/-- a row of bytes of the call's own -/
def OwnB (w : World) (H : Nat) (A : Option Addr) (c : Nat) (l : List UInt8) : Prop := w.ownsRow H 5 1 (.slice A l.length c) l.length (Cd.bytesV l)
theorem OwnB.bs {w : World} {H : Nat} {A : Option Addr} {c : Nat} {l : List UInt8} (h : OwnB w H A c l) : Bs w A l.length l := .of_own h rfl
theorem OwnB.nil (w : World) (H : Nat) : OwnB w H none 0 [] := World.ownsRow_nil _ _ _ _
theorem OwnB.bel {w w' : World} {H : Nat} {A : Option Addr} {c : Nat} {l : List UInt8} (h : OwnB w H A c l) (k : Below w.heap.size w w') : OwnB w' H A c l := own_turns h (.of_below (S := fun _ => False) k) (fun _ _ => id)
theorem OwnB.cap {w : World} {H : Nat} {A : Option Addr} {c : Nat} {l : List UInt8} (h : OwnB w H A c l) : l.length ≤ c ∧ c ≤ maxLen ∧ l.length ≤ maxLen := by
  rcases h.2 with ⟨e, e2⟩ | ⟨g, cap', cur, e, _, _, h5, h6, _⟩
  · injection e with _ e1 e3
    exact ⟨by omega, by omega, by omega⟩
  · injection e with _ _ e
    subst e
    exact ⟨h5, h6, Nat.le_trans h5 h6⟩
theorem OwnB.weak {w : World} {H K : Nat} {A : Option Addr} {c : Nat} {l : List UInt8} (h : OwnB w H A c l) (hk : K ≤ H) : OwnB w K A c l := ⟨h.1, by
  rcases h.2 with h1 | ⟨g, cap', cur, e, h2, h3⟩
  · exact .inl h1
  · exact .inr ⟨g, cap', cur, e, Nat.le_trans hk h2, h3⟩⟩
theorem append_b (w : World) (H : Nat) (A : Option Addr) (c0 : Nat) (l : List UInt8) (ho : OwnB w H A c0 l) (hH : H ≤ w.heap.size) (B : Option Addr) (m c : Nat) (lb : List UInt8) (hs : Bs w B m lb) (hL : l.length + lb.length ≤ 100000000000) (ty : TypeId) (r : List UInt8) (hr : r = l ++ lb) :
    ∃ A' c' w', (Builtin.append_ #[30, 30] ty #[.slice A l.length c0, .slice B m c]).run Tryz.prog w = .ok (.slice A' r.length c') w' ∧ OwnB w' H A' c' r ∧ Below H w w' := by
  subst hr
  obtain ⟨A', c', w', h1, h2, h3, _⟩ := append_mine w H _ l ho hH B m c lb hs hL ty
  exact ⟨A', c', w', h1, h2, below_grown ho hH h3⟩
def GiveB (w : World) (H : Nat) (r : List UInt8) (e : Ending) (w' : World) : Prop := ∃ A c, e = .returned (.slice A r.length c) ∧ OwnB w' H A c r ∧ Below H w w'
theorem put_r (w : World) (H : Nat) (A : Option Addr) (c : Nat) (l : List UInt8) (ho : OwnB w H A c l) (hH : H ≤ w.heap.size) (m : Nat) (hm : m < 4294967296) (hL : l.length ≤ 100000000000) (r : List UInt8) (hr : r = l ++ le32 m) :
    Calls Tryz.prog 73 #[.slice A l.length c, .int .u32 m] w (GiveB w H r) := by
  subst hr
  refine (put_b w H _ l.length _ m hm ho hH (by omega)).mono ?_
  rintro e w' ⟨v', rfl, h1, h2⟩
  rw [← Cd.bytesV_append] at h1
  obtain ⟨A', c', rfl⟩ := own_slice' h1
  have e : l.length + (le32 m).length = (l ++ le32 m).length := by rw [List.length_append]
  rw [e] at h1 ⊢
  exact ⟨A', c', rfl, h1, h2⟩
set_option maxRecDepth 20000 in
set_option maxHeartbeats 4000000 in
theorem frame_any (w : World) (A : Option Addr) (c : Nat) (l : List UInt8) (h : Bs w A l.length l) (hl : l.length ≤ 65536) :
    Calls Tryz.prog 52 #[.slice A l.length c] w fun e w' => ∃ A' c', e = .returned (.tuple #[.slice A' (frameB l).length c', .int .i64 0]) ∧ OwnB w' w.heap.size A' c' (frameB l) ∧ Below w.heap.size w w' := by
  have H := Lib.hid h
  have HL := Lib.hid hl
  have hl1 : ¬ (65536 : Int) < (l.length : Int) := by omega
  have hl2 : (l.length : Int) % 4294967296 = (l.length : Int) := by omega
  obtain ⟨r1, hr1⟩ : ∃ r, r = ([] : List UInt8) ++ le32 l.length := ⟨_, rfl⟩
  obtain ⟨r2, hr2⟩ : ∃ r, r = r1 ++ le32 (sumN r1) := ⟨_, rfl⟩
  obtain ⟨r3, hr3⟩ : ∃ r, r = r2 ++ l := ⟨_, rfl⟩
  obtain ⟨r4, hr4⟩ : ∃ r, r = r3 ++ le32 (sumN l) := ⟨_, rfl⟩
  have HF : Hid (frameB l = r4) := Lib.hid (by subst hr4 hr3 hr2 hr1; unfold frameB; simp)
  have N1 : Hid (r1.length ≤ 4) := Lib.hid (by rw [hr1]; simp [le32_len])
  have N2 : Hid (r2.length ≤ 8) := Lib.hid (by have := N1.out; rw [hr2, List.length_append, le32_len]; omega)
  have N3 : Hid (r3.length ≤ 65544) := Lib.hid (by have := N2.out; have := HL.out; rw [hr3, List.length_append]; omega)
  have R1 := Lib.hid hr1
  have R2 := Lib.hid hr2
  have R3 := Lib.hid hr3
  have R4 := Lib.hid hr4
  clear hr1 hr2 hr3 hr4 h hl
  rw [HF.out]
  go_enter Tryz.func52, Tryz.ntmps52
  go_wp2_with fail
  refine (put_r w w.heap.size none 0 [] (.nil _ _) (Nat.le_refl _) l.length (by have := HL.out; omega) (by simp) r1 R1.out).mono ?_
  rintro e w1 ⟨A1, c1, rfl, ho1, hb1⟩
  have O1 := Lib.hid ho1
  have B1 := Lib.hid hb1
  clear ho1 hb1
  go_wp2_with fail
  refine (sum_any w1 A1 _ c1 r1 O1.out.bs).mono ?_
  rintro e w2 ⟨rfl, hb2⟩
  have O2 := Lib.hid (O1.out.bel hb2)
  have B2 := Lib.hid (below_trans' B1.out hb2)
  clear hb2
  go_wp2_with fail
  refine (put_r w2 w.heap.size A1 c1 r1 O2.out B2.out.size (sumN r1) (sumN_lt _) (by have := N1.out; omega) r2 R2.out).mono ?_
  rintro e w3 ⟨A3, c3, rfl, ho3, hb3⟩
  have O3 := Lib.hid ho3
  have B3 := Lib.hid (B2.out.trans hb3)
  clear ho3 hb3
  obtain ⟨A4, c4, w4, h1, h2, h3⟩ := append_b w3 w.heap.size A3 c3 r2 O3.out B3.out.size A l.length c l (H.out.below B3.out) (by have := N2.out; have := HL.out; omega) 30 r3 R3.out
  have HR := Lib.hid h1
  have O4 := Lib.hid h2
  have B4 := Lib.hid (B3.out.trans h3)
  clear h1 h2 h3
  go_wp2_with (at_builtin; refine wpl_append_run rfl _ _ 30 rfl _ _ rfl rfl _ _ HR.out ?_)
  refine (sum_any w4 A _ c l (H.out.below B4.out)).mono ?_
  rintro e w5 ⟨rfl, hb5⟩
  have O5 := Lib.hid (O4.out.bel hb5)
  have B5 := Lib.hid (below_trans' B4.out hb5)
  clear hb5
  go_wp2_with fail
  refine (put_r w5 w.heap.size A4 c4 r3 O5.out B5.out.size (sumN l) (sumN_lt _) (by have := N3.out; omega) r4 R4.out).mono ?_
  rintro e w6 ⟨A6, c6, rfl, ho6, hb6⟩
  have O6 := Lib.hid ho6
  have B6 := Lib.hid (B5.out.trans hb6)
  clear ho6 hb6
  go_wp2_with fail
  go_ret2
  exact ⟨A6, c6, rfl, O6.out, B6.out⟩
end Go.Proofs.YteihedfmmiihiaaGreat
