/- wal, the law's world: do: a fuse, a crash, an opening. -/
import Derived.Test.YteihedfmmiihiaaGreatWmM
namespace Go.Proofs.YteihedfmmiihiaaGreat
open Go.RowKit Go.Maps Go.Sort Go.Shelf

set_option maxRecDepth 20000 in
set_option maxHeartbeats 8000000 in
theorem do_fuse (w : World) (H x d F N : Nat) (dk : Dk) (s : Sv) (per : Option Sv) (h : SX w H x d F N dk s per) (D : Dee) (hD : D.Ok) (h3 : D.d = 3) :
    Calls Tryz.prog 22 #[.pointer (some ⟨x, 0, none⟩), D.v] w fun e w' => e = .returned (.bool true) ∧ Turns (DSet d F) w w' ∧ ∃ dk', SX w' H x d F N dk' s per := by
  obtain ⟨dd, tm, data, num, kA, kn, kc, z⟩ := D
  obtain rfl : dd = 3 := h3
  obtain ⟨wv, A, c, p5, p6, p7, hb, _⟩ := h.blk
  have B0 := Lib.hid (Below.new w (.cells #[.int .u8 3, .int .i64 tm, .string data, .int .i64 num, .slice kA kn kc] 56))
  have KD := Lib.hid (Blk.new w 56 [.int .u8 3, .int .i64 tm, .string data, .int .i64 num, .slice kA kn kc])
  have HS := Lib.hid (h.bel B0.out)
  have XB := Lib.hid (hb.bel B0.out)
  have HNUM : Hid (num ≤ 9223372036854775807) := Lib.hid hD.num.2
  have hlt := hb.lt
  have HLT := Lib.hid (DS.lts h.is)
  clear h hb hD
  unfold Dee.v
  simp only
  go_enter Tryz.func22, Tryz.ntmps22
  go_upto_region 1 with (fail)
  obtain ⟨g, hg⟩ : ∃ g, w.heap.size = g := ⟨_, rfl⟩
  have HG := Lib.hid hg
  rw [hg] at KD
  generalize (w.alloc (.cells #[.int .u8 3, .int .i64 tm, .string data, .int .i64 num, .slice kA kn kc] 56)) = Y at *
  have k0 : Y.cell? ⟨g, 0, none⟩ = some (.int .u8 3) := KD.out.cell 0
  rw [hg]
  go_upto_region 3 with (fail)
  clear hg k0
  have HD1 := Lib.hid (below_drewN' (Below.refl Y.heap.size Y) 1)
  have HF := Lib.hid (fuseD Y.drew d F N dk.off dk.fuse dk.p (DS.bel HS.out.is HD1.out) num HNUM.out)
  have HK : Hid (∀ V, Turns (DSet d F) Y V → V.cell? ⟨x, 0, none⟩ = some (.pointer (some ⟨d, 0, none⟩)) ∧ V.cell? ⟨g, 3, none⟩ = some (.int .i64 num)) := Lib.hid (fun V hV => ⟨(XB.out.turns hV (x_far HS.out.is XB.out)).cell 0, (KD.out.turns hV (by have := HLT.out; have := HG.out; unfold DSet; omega)).cell 3⟩)
  go_region_held3 (fun V => V.cell? ⟨x, 0, none⟩ = some (.pointer (some ⟨d, 0, none⟩)) ∧ V.cell? ⟨g, 3, none⟩ = some (.int .i64 num)) (first | exact HK.out _ (.of_below HD1.out) | exact HK.out _ T7.out) (first | (go_at_call 18; refine HF.out.mono ?_; rintro e w7 ⟨rfl, h1, h2⟩; have V1 := Lib.hid h1; have V2 := Lib.hid h2; have T7 := Lib.hid ((Turns.of_below (S := DSet d F) HD1.out).then h2)))
  go_wp2_with fail
  go_ret
  refine ⟨rfl, (Turns.of_below B0.out).then T7.out, ⟨dk.off, fuN dk.off dk.fuse num, dk.p⟩, HS.out.turn T7.out V1.out rfl rfl⟩
theorem Good.shorts {S : Sv → Prop} {p : Fs} (h : Good S 2000000 p) : Short p 100000000 := fun k => by
  by_cases e : p k = none
  · unfold pl
    rw [e]
    exact Nat.zero_le _
  · rcases h.keys k e with rfl | rfl | rfl
    · have := h.short.1; omega
    · have := h.short.2; omega
    · unfold pl
      rw [h.other]
      decide
def DoX (w : World) (H x d F N : Nat) (s : Sv) (per : Option Sv) (e : Ending) (w' : World) : Prop :=
  e = .returned (.bool true) ∧ Turns (fun g => H ≤ g) w w' ∧ ∃ dk' s' per', SX w' H x d F (N + 5) dk' s' per' ∧ Told s per s' ∧ (per' = none ∨ per' = per)
set_option maxRecDepth 20000 in
set_option maxHeartbeats 8000000 in
theorem do_crash (w : World) (H x d F N : Nat) (dk : Dk) (s : Sv) (per : Option Sv) (h : SX w H x d F N dk s per) (hN : N ≤ 900000) (hH : H ≤ w.heap.size) (D : Dee) (h4 : D.d = 4) (hk : KeepIn w H D.kA D.kn D.kc D.z) :
    Calls Tryz.prog 22 #[.pointer (some ⟨x, 0, none⟩), D.v] w (DoX w H x d F N s per) := by
  obtain ⟨dd, tm, data, num, kA, kn, kc, z⟩ := D
  obtain rfl : dd = 4 := h4
  obtain ⟨wv, A, c, p5, p6, p7, hb, _⟩ := h.blk
  have B0 := Lib.hid (Below.new w (.cells #[.int .u8 4, .int .i64 tm, .string data, .int .i64 num, .slice kA kn kc] 56))
  have KD := Lib.hid (Blk.new w 56 [.int .u8 4, .int .i64 tm, .string data, .int .i64 num, .slice kA kn kc])
  have HS := Lib.hid (h.bel B0.out)
  have XB := Lib.hid (hb.bel B0.out)
  have HKI : Hid (KeepIn (w.alloc (.cells #[.int .u8 4, .int .i64 tm, .string data, .int .i64 num, .slice kA kn kc] 56)) H kA kn kc z) := Lib.hid (hk.keep (.of_below (S := fun _ => False) B0.out) (fun _ e => e.elim))
  have hlt := hb.lt
  have HLT := Lib.hid (DS.lts h.is)
  have HLO := Lib.hid h.lo
  have HHH := Lib.hid hH
  clear h hb hk
  unfold Dee.v
  simp only
  go_enter Tryz.func22, Tryz.ntmps22
  go_upto_region 1 with (fail)
  obtain ⟨g, hg⟩ : ∃ g, w.heap.size = g := ⟨_, rfl⟩
  have HG := Lib.hid hg
  rw [hg] at KD
  generalize (w.alloc (.cells #[.int .u8 4, .int .i64 tm, .string data, .int .i64 num, .slice kA kn kc] 56)) = Y at *
  have k0 : Y.cell? ⟨g, 0, none⟩ = some (.int .u8 4) := KD.out.cell 0
  rw [hg]
  go_upto_region 6 with (fail)
  clear hg k0
  have HD1 := Lib.hid (below_drewN' (Below.refl Y.heap.size Y) 1)
  have HF := Lib.hid (crashD Y.drew d F N dk (DS.bel HS.out.is HD1.out) (by omega) kA kn kc z (HKI.out.keep (.of_below (S := fun _ => False) HD1.out) (fun _ e => e.elim)).1 (fun b o e h0 => by have := HKI.out.2.2.2 b o e h0; have := HLO.out; omega) (by have := HKI.out.2; omega) HS.out.good.shorts)
  have HK : Hid (∀ V, Turns (DSet d F) Y V → V.cell? ⟨x, 0, none⟩ = some (.pointer (some ⟨d, 0, none⟩)) ∧ V.cell? ⟨g, 4, none⟩ = some (.slice kA kn kc)) := Lib.hid (fun V hV => ⟨(XB.out.turns hV (x_far HS.out.is XB.out)).cell 0, (KD.out.turns hV (by have := HLT.out; have := HG.out; unfold DSet; omega)).cell 4⟩)
  go_region_held3 (fun V => V.cell? ⟨x, 0, none⟩ = some (.pointer (some ⟨d, 0, none⟩)) ∧ V.cell? ⟨g, 4, none⟩ = some (.slice kA kn kc)) (first | exact HK.out _ (.of_below HD1.out) | exact HK.out _ T7.out) (first | (go_at_call 23; refine HF.out.mono ?_; intro e w7 hc7; obtain ⟨rfl, h2, dk2, h1, h3⟩ := (HS.out.bel HD1.out).crash hc7; have V1 := Lib.hid h1; have V3 := Lib.hid h3; have T7 := Lib.hid ((Turns.of_below (S := DSet d F) HD1.out).then h2); clear hc7 h1 h2 h3))
  have HO := Lib.hid (open_x w7 H x d F N dk2 s per V1.out hN (by have := T7.out.size; have := HHH.out; have := KD.out.lt; have := HG.out; omega))
  go_wp2_with fail
  refine HO.out.mono ?_
  rintro e w8 ⟨rfl, ht8, hcase⟩
  have T8 := Lib.hid ht8
  have HCA := Lib.hid hcase
  clear ht8 hcase
  go_wp2_with fail
  go_ret
  refine ⟨rfl, ((Turns.of_below B0.out).then (T7.out.mono (fun i _ e => DSet.lo HLO.out.2 i e))).then (T8.out.mono (fun i _ e => XSet.lo HLO.out i e)), ?_⟩
  rcases HCA.out with ⟨dk', s', wl, ha, hs, _, _⟩ | ⟨dk', _, hn⟩
  · exact ⟨dk', s', none, .inl ⟨rfl, wl, ha⟩, hs, .inl rfl⟩
  · exact absurd V3.out hn
set_option maxRecDepth 20000 in
set_option maxHeartbeats 8000000 in
theorem do_open (w : World) (H x d F N : Nat) (dk : Dk) (s : Sv) (per : Option Sv) (h : SX w H x d F N dk s per) (hN : N ≤ 900000) (hH : H ≤ w.heap.size) (D : Dee) (h4 : D.d = 5) :
    Calls Tryz.prog 22 #[.pointer (some ⟨x, 0, none⟩), D.v] w (DoX w H x d F N s per) := by
  obtain ⟨dd, tm, data, num, kA, kn, kc, z⟩ := D
  obtain rfl : dd = 5 := h4
  obtain ⟨wv, A, c, p5, p6, p7, hb, _⟩ := h.blk
  have B0 := Lib.hid (Below.new w (.cells #[.int .u8 5, .int .i64 tm, .string data, .int .i64 num, .slice kA kn kc] 56))
  have KD := Lib.hid (Blk.new w 56 [.int .u8 5, .int .i64 tm, .string data, .int .i64 num, .slice kA kn kc])
  have HS := Lib.hid (h.bel B0.out)
  have XB := Lib.hid (hb.bel B0.out)
  have hlt := hb.lt
  have HLO := Lib.hid h.lo
  have HHH := Lib.hid hH
  clear h hb
  unfold Dee.v
  simp only
  go_enter Tryz.func22, Tryz.ntmps22
  go_upto_region 1 with (fail)
  obtain ⟨g, hg⟩ : ∃ g, w.heap.size = g := ⟨_, rfl⟩
  have HG := Lib.hid hg
  rw [hg] at KD B0
  generalize (w.alloc (.cells #[.int .u8 5, .int .i64 tm, .string data, .int .i64 num, .slice kA kn kc] 56)) = Y at *
  have k0 : Y.cell? ⟨g, 0, none⟩ = some (.int .u8 5) := KD.out.cell 0
  rw [hg]
  clear hg
  have q0 : Y.cell? ⟨x, 0, none⟩ = some (.pointer (some ⟨d, 0, none⟩)) := XB.out.cell 0
  have HO := Lib.hid (offD Y d F N dk.off dk.fuse dk.p HS.out.is)
  have T0 : Hid (Turns (fun g => H ≤ g) w Y) := Lib.hid (.of_below (by rw [HG.out]; exact B0.out))
  go_wp2_with fail
  refine HO.out.mono ?_
  rintro e w5 ⟨rfl, rfl⟩
  rcases HS.out with ⟨hp, wl, ha⟩ | hbx
  · rw [ha.off]
    subst hp
    have HO2 := Lib.hid (open_x w5 H x d F N dk s none ha.rx hN (by have := T0.out.size; have := HHH.out; omega))
    clear ha
    go_wp2_with fail
    refine HO2.out.mono ?_
    rintro e w8 ⟨rfl, ht8, hcase⟩
    have T8 := Lib.hid ht8
    have HCA := Lib.hid hcase
    clear ht8 hcase
    go_wp2_with fail
    go_ret
    refine ⟨rfl, T0.out.then (T8.out.mono (fun i _ e => XSet.lo HLO.out i e)), ?_⟩
    rcases HCA.out with ⟨dk', s', wl, ha, hs, _, _⟩ | ⟨dk', hb, hn⟩
    · exact ⟨dk', s', none, .inl ⟨rfl, wl, ha⟩, hs, .inl rfl⟩
    · exact ⟨dk', s, none, .inr hb, .inl rfl, .inl rfl⟩
  · rw [hbx.off]
    have HB := Lib.hid (dark_b w5 H x d F N dk s per hbx)
    have HBX := Lib.hid hbx
    clear hbx
    go_wp2_with fail
    refine HB.out.mono ?_
    rintro e w8 ⟨rfl, hb8⟩
    have B8 := Lib.hid hb8
    unfold svV
    clear hb8
    go_wp2_with fail
    go_ret
    exact ⟨rfl, T0.out.then ((Turns.of_below B8.out).alloc _), dk, s, per, .inr ((HBX.out.bel (below_trans' B8.out (Below.new _ _))).wide (by omega)), .inl rfl, .inr rfl⟩
end Go.Proofs.YteihedfmmiihiaaGreat
