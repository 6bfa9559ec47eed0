/- WmN: texts of wal, merged (a claim may hold few texts) -/
import Derived.Test.YteihedfmmiihiaaGreatWmM
import Derived.Test.YteihedfmmiihiaaGreatWlKy
import Derived.Test.YteihedfmmiihiaaGreatWlNx
import Derived.StillTailTactics
import Derived.Test.YteihedfmmiihiaaGreatWlDo
namespace Go.Proofs.YteihedfmmiihiaaGreat
open Go.RowKit Go.Maps Go.Sort Go.Shelf

theorem KSet.lo {H x d F wl : Nat} (h : H ≤ x ∧ H ≤ d ∧ H ≤ F ∧ H ≤ wl) : ∀ g, KSet x d F wl g → H ≤ g := fun g e => by
  unfold KSet at e
  rcases e with e | rfl
  · exact XSet.lo ⟨h.1, h.2.1, h.2.2.1⟩ g e
  · exact h.2.2.2
/-- what is kept, or may be -/
def Kept (s s2 : Sv) (per : Option Sv) (s' : Sv) (per' : Option Sv) : Prop := (s' = s2 ∧ per' = none) ∨ (s' = s ∧ (per' = some s2 ∨ per' = per))
def KDY (w : World) (H x d F N : Nat) (s s2 : Sv) (per : Option Sv) (e : Ending) (w' : World) : Prop :=
  e = .returned (.bool true) ∧ Turns (fun g => H ≤ g) w w' ∧ ∃ dk' s' per', SX w' H x d F (N + 5) dk' s' per' ∧ Kept s s2 per s' per'
/-- keep, whatever the world's state -/
theorem keep_s (w : World) (H x d F N : Nat) (dk : Dk) (s : Sv) (per : Option Sv) (h : SX w H x d F N dk s per) (hN : N ≤ 900000) (hH : H ≤ w.heap.size) (s2 : Sv) (A : Option Addr) (c : Nat) (hl : Lg w A s2.log.length c s2.log) (hc2 : Cap s2) :
    Calls Tryz.prog 8 #[.pointer (some ⟨x, 0, none⟩), svV s2.term s2.vote A s2.log.length c] w (KDY w H x d F N s s2 per) := by
  rcases h with ⟨rfl, wl, h⟩ | h
  · refine (keep_x w H x d F N dk s wl h hN hH s2 A c hl hc2).mono ?_
    rintro e w' ⟨rfl, ht, hcase⟩
    refine ⟨rfl, ht.mono (fun i _ e => KSet.lo h.lo i e), ?_⟩
    rcases hcase with ⟨dk', ha, _⟩ | ⟨dk', hb, _⟩
    · exact ⟨dk', s2, none, .inl ⟨rfl, wl, ha⟩, .inl ⟨rfl, rfl⟩⟩
    · exact ⟨dk', s, some s2, .inr hb, .inr ⟨rfl, .inl rfl⟩⟩
  · refine (keep_b w H x d F N dk s per h _ _ A _ c).mono ?_
    rintro e w' ⟨rfl, hb⟩
    exact ⟨rfl, .of_below hb, dk, s, per, .inr ((h.bel hb).wide (by omega)), .inr ⟨rfl, .inr rfl⟩⟩
set_option maxRecDepth 20000 in
set_option maxHeartbeats 8000000 in
theorem do_keep (w : World) (H x d F N : Nat) (dk : Dk) (s : Sv) (per : Option Sv) (h : SX w H x d F N dk s per) (hN : N ≤ 900000) (hH : H ≤ w.heap.size) (D : Dee) (hD : D.Ok) (h3 : ¬ D.d = 3) (h4 : ¬ D.d = 4) (h5 : ¬ D.d = 5) (hc : Cap (nextP s D.dd)) :
    Calls Tryz.prog 22 #[.pointer (some ⟨x, 0, none⟩), D.v] w (KDY w H x d F N s (nextP s D.dd) per) := by
  obtain ⟨s2, hs2⟩ : ∃ s2, nextP s D.dd = s2 := ⟨_, rfl⟩
  obtain ⟨wv, A, c, p5, p6, p7, hb, hl, _⟩ := h.blk
  have hcap := h.cap.1
  have HNX0 : ∀ W, Lg W A s.log.length c s.log → Calls Tryz.prog 24 #[svV s.term s.vote A s.log.length c, D.v] W (NextY W s2) := fun W hW => by
    rw [← hs2]
    exact next_any W A s.log.length c s hW hcap.len D hD
  obtain ⟨dd, tm, data, num, kA, kn, kc, z⟩ := D
  simp only at h3 h4 h5
  rw [hs2] at hc ⊢
  have B0 := Lib.hid (Below.new w (.cells #[.int .u8 dd, .int .i64 tm, .string data, .int .i64 num, .slice kA kn kc] 56))
  have KD := Lib.hid (Blk.new w 56 [.int .u8 dd, .int .i64 tm, .string data, .int .i64 num, .slice kA kn kc])
  have HS := Lib.hid (h.bel B0.out)
  have XB := Lib.hid (hb.bel B0.out)
  have LB := Lib.hid (hl.bel B0.out)
  have hlt := hb.lt
  have HLO := Lib.hid h.lo
  have HHH := Lib.hid hH
  have HC := Lib.hid hc
  unfold NextY svV Dee.v at HNX0
  simp only at HNX0
  have HNX := Lib.hid HNX0
  clear h hb hl hc hD hs2 hcap HNX0
  unfold Dee.v
  simp only
  have h3' : decide (dd = 3) = false := decide_eq_false h3
  have h4' : decide (dd = 4) = false := decide_eq_false h4
  have h5' : decide (dd = 5) = false := decide_eq_false h5
  have h3b : (dd == 3) = false := by simp [h3]
  have h4b : (dd == 4) = false := by simp [h4]
  have h5b : (dd == 5) = false := by simp [h5]
  go_enter Tryz.func22, Tryz.ntmps22
  go_upto_region 1 with (fail)
  obtain ⟨g, hg⟩ : ∃ g, w.heap.size = g := ⟨_, rfl⟩
  have HG := Lib.hid hg
  rw [hg] at KD B0
  generalize (w.alloc (.cells #[.int .u8 dd, .int .i64 tm, .string data, .int .i64 num, .slice kA kn kc] 56)) = Y at *
  have k0 : Y.cell? ⟨g, 0, none⟩ = some (.int .u8 dd) := KD.out.cell 0
  have k1 : Y.cell? ⟨g, 1, none⟩ = some (.int .i64 tm) := KD.out.cell 1
  have k2 : Y.cell? ⟨g, 2, none⟩ = some (.string data) := KD.out.cell 2
  have k3 : Y.cell? ⟨g, 3, none⟩ = some (.int .i64 num) := KD.out.cell 3
  have k4 : Y.cell? ⟨g, 4, none⟩ = some (.slice kA kn kc) := KD.out.cell 4
  have q2 : Y.cell? ⟨x, 2, none⟩ = some (.int .i64 s.term) := XB.out.cell 2
  have q3 : Y.cell? ⟨x, 3, none⟩ = some (.int .i64 s.vote) := XB.out.cell 3
  have q4 : Y.cell? ⟨x, 4, none⟩ = some (.slice A s.log.length c) := XB.out.cell 4
  have T0 : Hid (Turns (fun g => H ≤ g) w Y) := Lib.hid (.of_below (by rw [HG.out]; exact B0.out))
  rw [hg]
  clear hg
  go_upto_region 14 with (fail)
  have HD1 := Lib.hid (below_drewN' (Below.refl Y.heap.size Y) 1)
  have HN1 := Lib.hid (HNX.out Y.drew (LB.out.bel HD1.out))
  have HKP : Hid (∀ W A2 c2, Below Y.heap.size Y W → Lg W A2 s2.log.length c2 s2.log → Calls Tryz.prog 8 #[.pointer (some ⟨x, 0, none⟩), .agg #[.int .i64 s2.term, .int .i64 s2.vote, .slice A2 s2.log.length c2]] W (KDY W H x d F N s s2 per)) := Lib.hid (fun W A2 c2 hW hl2 => keep_s W H x d F N dk s per (HS.out.bel hW) hN (by have := T0.out.size; have := HHH.out; have := hW.size; omega) s2 A2 c2 hl2 HC.out)
  go_region_law (first | (go_simp; go_at_call 24; refine HN1.out.mono ?_; rintro e w2 ⟨A2, c2, rfl, hl2, hb2⟩; have L2 := Lib.hid hl2; have B2 := Lib.hid (below_trans' HD1.out hb2); clear hl2 hb2) | (go_simp; go_at_call 8; refine (HKP.out _ _ _ B2.out L2.out).mono ?_; rintro e w3 ⟨rfl, ht3, hx3⟩; have T3 := Lib.hid ht3; have X3 := Lib.hid hx3; clear ht3 hx3))
  all_goals
    go_wp2_with fail
    go_ret
    exact ⟨rfl, (T0.out.then (.of_below B2.out)).then T3.out, X3.out⟩
end Go.Proofs.YteihedfmmiihiaaGreat

namespace Go.Proofs.YteihedfmmiihiaaGreat
open Go.RowKit Go.Maps Go.Sort Go.Shelf

theorem SX.wide {w : World} {H x d F N M : Nat} {dk : Dk} {s : Sv} {per : Option Sv} (h : SX w H x d F N dk s per) (hM : N ≤ M) : SX w H x d F M dk s per := by
  rcases h with ⟨e, wl, h⟩ | h
  · exact .inl ⟨e, wl, h.wide hM⟩
  · exact .inr (h.wide hM)
/-- behind i deeds -/
def StX (w : World) (H x d F N i : Nat) : Prop := ∃ dk s per, SX w H x d F N dk s per ∧ Few i s ∧ ∀ q, per = some q → Few i q
theorem StX.bel {w w' : World} {H x d F N i : Nat} (h : StX w H x d F N i) (k : Below w.heap.size w w') : StX w' H x d F N i := by
  obtain ⟨dk, s, per, h1, h2, h3⟩ := h
  exact ⟨dk, s, per, h1.bel k, h2, h3⟩
theorem StX.blk {w : World} {H x d F N i : Nat} (h : StX w H x d F N i) : ∃ cs, Blk w x 35 (.pointer (some ⟨d, 0, none⟩) :: cs) := by
  obtain ⟨dk, s, per, h1, _⟩ := h
  obtain ⟨wv, A, c, p5, p6, p7, hb, _⟩ := h1.blk
  exact ⟨_, hb⟩
theorem StX.far {w : World} {H x d F N i : Nat} (h : StX w H x d F N i) : ¬ DSet d F x := by
  obtain ⟨dk, s, per, h1, _⟩ := h
  obtain ⟨wv, A, c, p5, p6, p7, hb, _⟩ := h1.blk
  exact x_far h1.is hb
theorem StX.lo {w : World} {H x d F N i : Nat} (h : StX w H x d F N i) : H ≤ x ∧ H ≤ d ∧ H ≤ F := by
  obtain ⟨dk, s, per, h1, _⟩ := h
  exact h1.lo
def DoY (w : World) (H x d F N i : Nat) (e : Ending) (w' : World) : Prop := e = .returned (.bool true) ∧ Turns (fun g => H ≤ g) w w' ∧ StX w' H x d F (N + 5) (i + 1)
theorem do_any (w : World) (H x d F N i : Nat) (h : StX w H x d F N i) (hi : i < 60) (hN : N ≤ 900000) (hH : H ≤ w.heap.size) (D : Dee) (hD : D.Ok) (h3 : D.data.size ≤ 3000) (hk : KeepIn w H D.kA D.kn D.kc D.z) :
    Calls Tryz.prog 22 #[.pointer (some ⟨x, 0, none⟩), D.v] w (DoY w H x d F N i) := by
  obtain ⟨dk, s, per, hs, hf, hq⟩ := h
  by_cases e3 : D.d = 3
  · refine (do_fuse w H x d F N dk s per hs D hD e3).mono ?_
    rintro e w' ⟨rfl, ht, dk', h'⟩
    exact ⟨rfl, ht.mono (fun g _ e => DSet.lo hs.lo.2 g e), dk', s, per, h'.wide (by omega), hf.mono (by omega), fun q e => (hq q e).mono (by omega)⟩
  · have key : ∀ e w', DoX w H x d F N s per e w' → DoY w H x d F N i e w' := by
      rintro e w' ⟨rfl, ht, dk', s', per', h', hs', hp'⟩
      refine ⟨rfl, ht, dk', s', per', h', ?_, fun q e => ?_⟩
      · rcases hs' with rfl | hs'
        · exact hf.mono (by omega)
        · exact (hq _ hs').mono (by omega)
      · rcases hp' with rfl | rfl
        · cases e
        · exact (hq q e).mono (by omega)
    by_cases e4 : D.d = 4
    · exact (do_crash w H x d F N dk s per hs hN hH D e4 hk).mono key
    · by_cases e5 : D.d = 5
      · exact (do_open w H x d F N dk s per hs hN hH D e5).mono key
      · have hn : Few (i + 1) (nextP s D.dd) := next_few hf D.dd h3 (by omega)
        refine (do_keep w H x d F N dk s per hs hN hH D hD e3 e4 e5 (hn.cap (by omega))).mono ?_
        rintro e w' ⟨rfl, ht, dk', s', per', h', hkk⟩
        refine ⟨rfl, ht, dk', s', per', h', ?_, fun q e => ?_⟩
        · rcases hkk with ⟨rfl, _⟩ | ⟨rfl, _⟩
          · exact hn
          · exact hf.mono (by omega)
        · rcases hkk with ⟨_, rfl⟩ | ⟨_, rfl | rfl⟩
          · cases e
          · injection e with e
            subst e
            exact hn
          · exact (hq q e).mono (by omega)
end Go.Proofs.YteihedfmmiihiaaGreat
