/- wal, the law's world: tidy. -/
import Derived.Test.YteihedfmmiihiaaGreatWlRef
import Derived.Deep.RegionHeld3
namespace Go.Proofs.YteihedfmmiihiaaGreat
open Go.RowKit Go.Maps Go.Sort Go.Shelf

/-- no block is barred -/
def X0 : Nat → Prop := fun _ => False
theorem x0 {w : World} : ∀ g, X0 g → g < w.heap.size := fun _ h => h.elim
structure Cap (s : Sv) : Prop where
  ok : SvOk s
  wgt : wt s ≤ 400000
theorem Cap.full {s : Sv} (h : Cap s) : full s ≤ 800013 := by have := full_len s h.ok; have := h.wgt; omega
theorem Cap.len {s : Sv} (h : Cap s) : s.log.length ≤ 4096 := h.ok.log
theorem Few.cap {i : Nat} {s : Sv} (h : Few i s) (hi : i ≤ 61) : Cap s := ⟨h.ok, by have := (h.caps hi).1; omega⟩
/-- the world's cells -/
def xC (d : Nat) (wv : Option Addr) (s : Sv) (A : Option Addr) (c : Nat) (p5 p6 p7 : Value) (b : Bool) : List Value :=
  [.pointer (some ⟨d, 0, none⟩), .pointer wv, .int .i64 s.term, .int .i64 s.vote, .slice A s.log.length c, p5, p6, p7, .bool b]
theorem read_is (w : World) (d F N : Nat) (dk : Dk) (h : dk.Is X0 w d F N) (hoff : dk.off = false) (k : ByteArray) (l : List UInt8) (m : Nat) (hk : dk.p k = some (l, m)) (hL : l.length ≤ 100000000) :
    Calls Tryz.prog 36 #[.pointer (some ⟨d, 0, none⟩), .string k] w fun e w' => ∃ (A : Option Addr) (c : Nat), e = .returned (.tuple #[.slice A l.length c, .int .i64 0]) ∧ Rb w' A c l ∧ Below w.heap.size w w' := by
  have hp : pl dk.p k = (l, m) := by simp [pl, hk]
  have ht : thC dk.off (dk.p k).isSome = 0 := by simp [thC, hoff, hk]
  refine (readD w d F N dk h k (by rw [hp]; exact hL)).mono ?_
  rintro e w' ⟨v, rfl, hb, _, h2⟩
  have h3 := h2 ht
  rw [hp] at h3
  obtain ⟨A, c, rfl⟩ := own_slice' h3
  exact ⟨A, c, by rw [ht], Rb.of_own (H := w.heap.size) h3, hb⟩
/-- the wal's file counted among the first names -/
def cntW (size : Nat) (ks : List (List UInt8)) (i : Nat) : Nat := if kW.data.toList ∈ ks.take i then size else 0
theorem cntW_le (size : Nat) (ks : List (List UInt8)) (i : Nat) : cntW size ks i ≤ size := by unfold cntW; split <;> omega
theorem cntW_at {size : Nat} {ks : List (List UInt8)} {i : Nat} (hn : ks.Nodup) (hi : i < ks.length) (h : ks[i] = kW.data.toList) : cntW size ks i = 0 ∧ cntW size ks (i + 1) = size := by
  unfold cntW
  constructor
  · rw [if_neg]
    intro hm
    obtain ⟨j, hj, e⟩ := List.getElem_of_mem hm
    rw [List.getElem_take, ← h] at e
    have hj' : j < i := by rw [List.length_take] at hj; omega
    have := (List.getElem_inj (h₀ := by omega) (h₁ := hi) hn).1 e
    omega
  · rw [if_pos]
    rw [List.take_succ_eq_append_getElem hi, h]
    simp
theorem cntW_no {size : Nat} {ks : List (List UInt8)} {i : Nat} (hi : i < ks.length) (h : ks[i] ≠ kW.data.toList) : cntW size ks (i + 1) = cntW size ks i := by
  unfold cntW
  rw [List.take_succ_eq_append_getElem hi]
  simp only [List.mem_append, List.mem_singleton]
  by_cases hm : kW.data.toList ∈ ks.take i
  · rw [if_pos (.inl hm), if_pos hm]
  · rw [if_neg hm, if_neg (fun q => q.elim hm (fun e => h e.symm))]
theorem own_strs0 {w : World} {B m c g : Nat} {L : List (List UInt8)} (h : w.ownsRow B 9 1 (.slice (some ⟨g, 0, none⟩) m c) m (L.map encStr)) (i : Nat) (hi : i < L.length) : w.cell? ⟨g, i, none⟩ = some (encStr L[i]) ∧ g < w.heap.size := by
  have hl : L.length = m := by simpa using h.1
  have := h.cellAt i (by omega)
  exact ⟨by rw [this]; simp [hi], World.block_lt_of_cell? w _ (this.trans (by rw [List.getElem?_eq_getElem (by simp; omega)]))⟩
theorem key_or {p : Fs} {ks : List (List UInt8)} (hk : KeysOf p ks) (hp : ∀ k, p k ≠ none → k = kW ∨ k = kN ∨ k = kO) (hN : p kN = none) {i : Nat} (hi : i < ks.length) : ks[i] = kW.data.toList ∨ ks[i] = kO.data.toList := by
  have h1 := (hk.2 (keyB ks[i])).1 (by simp [keyB])
  rcases hp _ h1 with e | e | e
  · left; rw [← e]; simp [keyB]
  · rw [e] at h1; exact absurd hN h1
  · right; rw [← e]; simp [keyB]
theorem pre_wal : (((⟨#[119, 97, 108]⟩ : ByteArray).extract 0 3).toList == [119, 97, 108]) = true := by rw [ByteArray.toList_eq]; decide
theorem pre_oth : (((⟨#[111, 116, 104, 101, 114]⟩ : ByteArray).extract 0 3).toList == [119, 97, 108]) = false := by rw [ByteArray.toList_eq]; decide
set_option maxRecDepth 20000 in
set_option maxHeartbeats 8000000 in
theorem tidy_any (w : World) (x d F N wl : Nat) (dk : Dk) (hd : dk.Is X0 w d F N) (hoff : dk.off = false) (hN : N ≤ 1000000) (s : Sv) (A : Option Addr) (c : Nat) (p5 p6 p7 : Value) (b : Bool) (hx : Blk w x 35 (xC d (some ⟨wl, 0, none⟩) s A c p5 p6 p7 b)) (hl : Lg w A s.log.length c s.log)
    (dn : Bool) (A2 : Option Addr) (c2 size : Nat) (hw : Blk w wl 41 (walC d s.term s.vote (.slice A2 s.log.length c2) dn size)) (hl2 : Lg w A2 s.log.length c2 s.log) (ht : Tidy s size dk.p) (hc : Cap s) :
    Calls Tryz.prog 14 #[.pointer (some ⟨x, 0, none⟩)] w fun e w' => e = .returned (.bool true) ∧ Below w.heap.size w w' := by
  have HX := Lib.hid hx
  have HL := Lib.hid hl
  have HW := Lib.hid hw
  have HL2 := Lib.hid hl2
  have HT := Lib.hid ht
  have HC := Lib.hid hc
  have HD := Lib.hid hd
  have HOFF := Lib.hid hoff
  have HO := offD w d F N dk.off dk.fuse dk.p hd
  rw [hoff] at HO
  have HO := Lib.hid HO
  have HNM := Lib.hid (namesD w d F N dk hd hN)
  have hsz : size ≤ 1700000 := by have := ht.small; have := hc.full; omega
  have x0' : w.cell? ⟨x, 0, none⟩ = some (.pointer (some ⟨d, 0, none⟩)) := hx.cell 0
  clear hx hl hw hl2 ht hc hd hoff
  go_enter Tryz.func14, Tryz.ntmps14
  go_wp2_with fail
  refine HO.out.mono ?_
  rintro e w2 ⟨rfl, rfl⟩
  go_wp2_with fail
  refine HNM.out.mono ?_
  rintro e w1 ⟨v, rfl, hb1, _, h2⟩
  obtain ⟨ks, hks, hown⟩ := h2 HOFF.out
  rw [HOFF.out]
  obtain ⟨A3, c3, rfl⟩ := own_slice' hown
  have KS := Lib.hid hks
  have HOWN := Lib.hid hown
  have B1 := Lib.hid hb1
  obtain ⟨nk, hnk⟩ : ∃ n, ks.length = n := ⟨_, rfl⟩
  have HNK := Lib.hid hnk
  have hnk2 : (nk : Int) ≤ 9223372036854775807 := by
    rcases hown.2 with ⟨e, e2⟩ | ⟨g, cap', cur, e, _, _, h5, h6, _⟩
    · omega
    · unfold maxLen at h6; omega
  rw [hnk] at HOWN ⊢
  have hND : Hid ks.Nodup := Lib.hid hks.nodup
  have XB1 := Lib.hid (HX.out.bel hb1)
  have DB1 := Lib.hid (DS.bel HD.out hb1)
  clear h2 hks hown hb1 HO HNM x0' hnk
  unfold goC
  have f1 := pre_wal
  have f2 := pre_oth
  go_wp2_with fail
  go_loopw [5, 6, 7, 8] (fun nv iv bv fv wr => ∃ i : Nat, i ≤ nk ∧ iv = .int .i64 (i : Int) ∧ nv = .int .i64 (cntW size ks i : Int) ∧ Hid (Below w1.heap.size w1 wr)) (fun _ iv _ _ _ => nk - (intOf iv).toNat)
  case atStart => exact ⟨0, by omega, rfl, rfl, Lib.hid (Below.refl _ _)⟩
  case round =>
    obtain ⟨i, hi, rfl, rfl, hB⟩ := hrel
    by_cases hlt : i < nk
    · have hlt1 : (i : Int) < (nk : Int) := by omega
      have hik : i < ks.length := by rw [HNK.out]; exact hlt
      have XB := Lib.hid (XB1.out.bel hB.out)
      have DB := Lib.hid (DS.bel DB1.out hB.out)
      have x0' : wr.cell? ⟨x, 0, none⟩ = some (.pointer (some ⟨d, 0, none⟩)) := XB.out.cell 0
      have hcnt := cntW_le size ks i
      have hcntI : ((cntW size ks i : Nat) : Int) ≤ 1700000 := by omega
      have hown0 := HOWN.out
      obtain ⟨g, cap, e3, _, hgl, hc1, hc2⟩ := own_at hown0 (by omega)
      injection e3 with e31 e32 e33
      subst e31 e33
      have hcell := own_strs0 hown0 i hik
      have y0 : wr.cell? ⟨g, i, none⟩ = some (encStr ks[i]) := (hB.out.cell (p := ⟨g, i, none⟩) hgl).trans hcell.1
      clear hown0 hcell
      rcases key_or KS.out HT.out.keys HT.out.fresh hik with hk | hk
      · have hW : dk.p kW ≠ none := (KS.out.2 kW).1 (by rw [← hk]; exact List.getElem_mem hik)
        obtain ⟨⟨lW, mW⟩, hpW⟩ := Option.ne_none_iff_exists'.1 hW
        have hplW := pl_at hpW
        have hlW : lW.length = size := by have := HT.out.sz; rw [hplW] at this; exact this
        have hmW : mW = lW.length := by have := HT.out.all; rw [hplW] at this; exact this
        obtain ⟨hcA, hcB⟩ := cntW_at (size := size) hND.out hik hk
        rw [hk] at y0
        rw [hcA]
        have HCB := Lib.hid hcB
        have hS0 : Hid (∀ Y, Below wr.heap.size wr Y → Y.cell? ⟨x, 0, none⟩ = some (.pointer (some ⟨d, 0, none⟩)) ∧ Y.cell? ⟨g, i, none⟩ = some (.string ⟨#[119, 97, 108]⟩)) := Lib.hid (fun Y hY => ⟨(hY.cell (World.block_lt_of_cell? wr _ x0')).trans x0', (hY.cell (World.block_lt_of_cell? wr _ y0)).trans y0⟩)
        have y1 : wr.cell? ⟨g, i, none⟩ = some (.string ⟨#[119, 97, 108]⟩) := y0
        have HPW := Lib.hid hplW
        clear y0 hW hplW hcA hcB hk
        have HRD := Lib.hid (read_is wr.drew d F N dk (DS.bel DB.out (below_drewN' (Below.refl _ wr) 1)) HOFF.out kW lW mW hpW (by omega))
        unfold kW at HRD
        have HD1 := Lib.hid (below_drewN' (Below.refl wr.heap.size wr) 1)
        clear hpW
        go_wp2_with fail
        go_region_held3 (fun Y => Y.cell? ⟨x, 0, none⟩ = some (.pointer (some ⟨d, 0, none⟩)) ∧ Y.cell? ⟨g, i, none⟩ = some (.string ⟨#[119, 97, 108]⟩)) (first | exact hS0.out _ HD1.out | exact hS0.out _ HB3.out) (first | (go_at_call 36; refine HRD.out.mono ?_; rintro e w3 ⟨A5, c5, rfl, _, hb3⟩; have HB3 := Lib.hid (HD1.out.trans (hb3.mono HD1.out.size))))
        have hB4 := Lib.hid (hB.out.trans (HB3.out.mono hB.out.size))
        have HWT := waitsD w3 d F N dk.off dk.fuse dk.p (DS.bel DB.out HB3.out) kW
        rw [HPW.out, hmW] at HWT
        have HWT := Lib.hid HWT
        unfold kW at HWT
        have z0 : w3.cell? ⟨x, 0, none⟩ = some (.pointer (some ⟨d, 0, none⟩)) := (hS0.out _ HB3.out).1
        have z1 : w3.cell? ⟨g, i, none⟩ = some (.string ⟨#[119, 97, 108]⟩) := (hS0.out _ HB3.out).2
        clear x0' y1 HRD
        have hT0 : Hid (∀ Y, Below w3.heap.size w3 Y → Y.cell? ⟨x, 0, none⟩ = some (.pointer (some ⟨d, 0, none⟩)) ∧ Y.cell? ⟨g, i, none⟩ = some (.string ⟨#[119, 97, 108]⟩)) := Lib.hid (fun Y hY => ⟨(hY.cell (World.block_lt_of_cell? w3 _ z0)).trans z0, (hY.cell (World.block_lt_of_cell? w3 _ z1)).trans z1⟩)
        have HD4 := Lib.hid (below_drewN' (Below.refl w3.heap.size w3) 1)
        have HWT := waitsD w3.drew d F N dk.off dk.fuse dk.p (DS.bel (DS.bel DB.out HB3.out) HD4.out) kW
        rw [HPW.out, hmW] at HWT
        simp only [Int.sub_self] at HWT
        have HWT := Lib.hid HWT
        unfold kW at HWT
        clear z0 z1
        go_wp2_with fail
        go_region_held3 (fun Y => Y.cell? ⟨x, 0, none⟩ = some (.pointer (some ⟨d, 0, none⟩)) ∧ Y.cell? ⟨g, i, none⟩ = some (.string ⟨#[119, 97, 108]⟩)) (first | exact hT0.out _ HD4.out | exact hT0.out _ HB5.out) (first | (go_at_call 37; refine HWT.out.mono ?_; rintro e w5 ⟨rfl, hb5⟩; have HB5 := Lib.hid (HD4.out.trans (hb5.mono HD4.out.size))))
        have hB6 := Lib.hid (hB4.out.trans (HB5.out.mono hB4.out.size))
        have hszI : (size : Int) ≤ 1700000 := by omega
        go_wp2_with fail
        refine ⟨⟨i + 1, by omega, by simp, by rw [HCB.out], hB6⟩, ?_⟩
        simp [intOf]; omega
      · have HCB := Lib.hid (cntW_no (size := size) hik (show ks[i] ≠ kW.data.toList by rw [hk]; decide))
        rw [hk] at y0
        have y1 : wr.cell? ⟨g, i, none⟩ = some (.string ⟨#[111, 116, 104, 101, 114]⟩) := y0
        clear y0 hk x0'
        go_wp2_with fail
        refine ⟨⟨i + 1, by omega, by simp, by rw [HCB.out], hB⟩, ?_⟩
        simp [intOf]; omega
    · obtain rfl : i = nk := by omega
      have hB4 := Lib.hid (B1.out.trans (hB.out.mono B1.out.size))
      have hcnt := cntW_le size ks i
      have hcap := HC.out.full
      have hsm := small_of HC.out.ok (Nat.le_trans hcnt HT.out.small)
      have HWG := HC.out.wgt
      have hsmI : ((cntW size ks i : Nat) : Int) ≤ 8192 + 4 * (wt s : Int) := by omega
      have hwtI : ((wt s : Nat) : Int) ≤ 400000 := by omega
      have hcntI : ((cntW size ks i : Nat) : Int) ≤ 1700000 := by omega
      generalize cntW size ks i = cn at *
      clear hsm hcnt hcap
      have XB := Lib.hid (XB1.out.bel hB.out)
      have DB := Lib.hid (DS.bel DB1.out hB.out)
      have x0' : wr.cell? ⟨x, 0, none⟩ = some (.pointer (some ⟨d, 0, none⟩)) := XB.out.cell 0
      have HRD := read_is wr d F N dk DB.out HOFF.out kO leftA 10 HT.out.other (by decide)
      unfold kO at HRD
      rw [show leftA.length = 10 from rfl] at HRD
      have HRD := Lib.hid HRD
      go_wp2_with fail
      refine HRD.out.mono ?_
      rintro e w3 ⟨A5, c5, rfl, hr5, hb5⟩
      have R5 := Lib.hid hr5
      have B5 := Lib.hid (hB4.out.trans (hb5.mono hB4.out.size))
      have X5 := Lib.hid (HX.out.bel B5.out)
      have L5 := Lib.hid (HL.out.bel B5.out)
      have W5 := Lib.hid (HW.out.bel B5.out)
      have M5 := Lib.hid (HL2.out.bel B5.out)
      clear hr5 hb5 HRD x0'
      generalize hwtn : wt s = wn at *
      have hk5 : Hid (∀ Y, Below w3.heap.size w3 Y → Y.cell? ⟨x, 1, none⟩ = some (.pointer (some ⟨wl, 0, none⟩)) ∧ Y.cell? ⟨x, 2, none⟩ = some (.int .i64 s.term) ∧ Y.cell? ⟨x, 3, none⟩ = some (.int .i64 s.vote) ∧ Y.cell? ⟨x, 4, none⟩ = some (.slice A s.log.length c) ∧ (convert 30 9 (.slice A5 10 c5)).run Tryz.prog Y = .ok (.string ⟨#[108, 101, 102, 116, 32, 97, 108, 111, 110, 101]⟩) Y) := Lib.hid (fun Y hY => ⟨(X5.out.bel hY).cell 1, (X5.out.bel hY).cell 2, (X5.out.bel hY).cell 3, (X5.out.bel hY).cell 4, run_conv_bs ((R5.out.bel hY).inn.bs) _ _ _ Tryz.underlying30 Tryz.underlying5 Tryz.underlying9 c5⟩)
      have HD6 := Lib.hid (below_drewN' (Below.refl w3.heap.size w3) 1)
      have HWG := weight_any w3.drew A s.log.length c s (L5.out.bel HD6.out) (by have := HC.out.wgt; omega)
      rw [hwtn] at HWG
      unfold svV at HWG
      have HWG := Lib.hid HWG
      have HSV : Hid (∀ Y, Below w3.heap.size w3 Y → Calls Tryz.prog 16 #[.pointer (some ⟨wl, 0, none⟩)] Y (SavedY Y s)) := Lib.hid (fun Y hY => saved_any Y wl d s A2 c2 size dn (W5.out.bel hY) (M5.out.bel hY) (by have := HC.out.len; omega))
      have HSM : Hid (∀ Y A6 c6, Below w3.heap.size w3 Y → Lg Y A6 s.log.length c6 s.log → Calls Tryz.prog 15 #[svV s.term s.vote A6 s.log.length c6, .agg #[.int .i64 s.term, .int .i64 s.vote, .slice A s.log.length c]] Y fun e w' => e = .returned (.bool true) ∧ Below Y.heap.size Y w') := Lib.hid (fun Y A6 c6 hY hl6 => (same_any Y A6 A _ c6 _ c s s hl6 (L5.out.bel hY)).mono (fun e w' h => ⟨by rw [h.1]; simp, h.2⟩))
      have wr1 : IntKind.i64.wrap (4 * (wn : Int)) = 4 * (wn : Int) := IntWalk.i64_in _ (by omega)
      have wr2 : IntKind.i64.wrap (8192 + 4 * (wn : Int)) = 8192 + 4 * (wn : Int) := IntWalk.i64_in _ (by omega)
      have dec1 : decide ((cn : Int) ≤ IntKind.i64.wrap (8192 + IntKind.i64.wrap (4 * (wn : Int)))) = true := by rw [wr1, wr2]; exact decide_eq_true hsmI
      clear wr1 wr2
      go_wp2_with fail
      go_region_held3 (fun Y => Y.cell? ⟨x, 1, none⟩ = some (.pointer (some ⟨wl, 0, none⟩)) ∧ Y.cell? ⟨x, 2, none⟩ = some (.int .i64 s.term) ∧ Y.cell? ⟨x, 3, none⟩ = some (.int .i64 s.vote) ∧ Y.cell? ⟨x, 4, none⟩ = some (.slice A s.log.length c) ∧ (convert 30 9 (.slice A5 10 c5)).run Tryz.prog Y = .ok (.string ⟨#[108, 101, 102, 116, 32, 97, 108, 111, 110, 101]⟩) Y) (first | exact hk5.out _ HD6.out | exact hk5.out _ HB7.out | exact hk5.out _ HB8.out | exact hk5.out _ HB9.out) (first | (go_at_call 38; refine HWG.out.mono ?_; rintro e w7 ⟨rfl, hb7⟩; have HB7 := Lib.hid (HD6.out.trans (hb7.mono HD6.out.size))) | (go_at_call 16; refine (HSV.out _ HB7.out).mono ?_; rintro e w8 ⟨A8, c8, rfl, ho8, hb8⟩; have HB8 := Lib.hid (HB7.out.trans (hb8.mono HB7.out.size)); have HL8 := Lib.hid ho8.lg) | (go_at_call 15; refine (HSM.out _ _ _ HB8.out HL8.out).mono ?_; rintro e w9 ⟨rfl, hb9⟩; have HB9 := Lib.hid (HB8.out.trans (hb9.mono HB8.out.size))))
      go_wp2_with fail
      go_ret
      exact ⟨rfl, B5.out.trans (HB9.out.mono B5.out.size)⟩
end Go.Proofs.YteihedfmmiihiaaGreat
