/- WmM: texts of wal, merged (a claim may hold few texts) -/
import Derived.Test.YteihedfmmiihiaaGreatWmJ
import Derived.Test.YteihedfmmiihiaaGreatWmK
import Derived.Lib.SmallJoins
namespace Go.Proofs.YteihedfmmiihiaaGreat
open Go.RowKit Go.Maps Go.Sort Go.Shelf

theorem x_far {w : World} {d F N x : Nat} {dk : Dk} {cs : List Value} (h : dk.Is X0 w d F N) (hb : Blk w x 35 cs) : ¬ DSet d F x := fun e => by
  rcases e with e | e
  · rw [e] at hb
    have := (DS.blk h).symm.trans hb
    simp at this
  · obtain ⟨mv, n, _, hm, _⟩ := DS.files h
    rw [e] at hb
    exact hm.ne_cells hb rfl
theorem wl_far {w : World} {d F N x : Nat} {dk : Dk} {cs : List Value} (h : dk.Is X0 w d F N) (hb : Blk w x 41 cs) : ¬ DSet d F x := fun e => by
  rcases e with e | e
  · rw [e] at hb
    have := (DS.blk h).symm.trans hb
    simp at this
  · obtain ⟨mv, n, _, hm, _⟩ := DS.files h
    rw [e] at hb
    exact hm.ne_cells hb rfl
theorem e_far {w : World} {d F N : Nat} {dk : Dk} (h : dk.Is X0 w d F N) : ∀ g, IsEn w g → ¬ DSet d F g := fun g hg e => by
  rcases e with e | e
  · exact hg.ne (DS.blk h) (by decide) e
  · obtain ⟨cur, hc⟩ := hg
    obtain ⟨mv, n, _, hm, _⟩ := DS.files h
    rw [e] at hc
    exact hm.ne_cells hc rfl
theorem DS.wf {w : World} {d F N : Nat} {off : Bool} {fuse : Int} {p : Fs} (h : DS X0 w d F off fuse p N) (k : ByteArray) : (pl p k).2 ≤ (pl p k).1.length := by
  obtain ⟨mv, n, _, _, hf⟩ := h.files
  exact (hf.get k).2.choose_spec.2.2
theorem AX.turn {w w' : World} {H x d F N M : Nat} {dk dk' : Dk} {s : Sv} {wl : Nat} (h : AX w H x d F N dk s wl) (k : Turns (DSet d F) w w') (hd : dk'.Is X0 w' d F M) (ho : dk'.off = false) (hp : dk'.p = dk.p) : AX w' H x d F M dk' s wl := by
  obtain ⟨A, c, p5, p6, p7, hb, hl⟩ := h.blk
  obtain ⟨A2, c2, size, hw, hl2, ht⟩ := h.wal
  have he := e_far h.is
  exact ⟨h.lo, hd, ho, ⟨A, c, p5, p6, p7, hb.turns k (x_far h.is hb), hl.keep k (fun g cs hg _ => he g ⟨cs, hg⟩)⟩, ⟨A2, c2, size, hw.turns k (wl_far h.is hw), hl2.keep k (fun g cs hg _ => he g ⟨cs, hg⟩), by rw [hp]; exact ht⟩, h.cap⟩
theorem BX.turn {w w' : World} {H x d F N M : Nat} {dk dk' : Dk} {s : Sv} {per : Option Sv} (h : BX w H x d F N dk s per) (k : Turns (DSet d F) w w') (hd : dk'.Is X0 w' d F M) (ho : dk'.off = true) (hp : dk'.p = dk.p) : BX w' H x d F M dk' s per := by
  obtain ⟨A, c, p5, p6, p7, hb, hl, hq⟩ := h.blk
  have he := e_far h.is
  exact ⟨h.lo, hd, ho, by rw [hp]; exact h.good, ⟨A, c, p5, p6, p7, hb.turns k (x_far h.is hb), hl.keep k (fun g cs hg _ => he g ⟨cs, hg⟩), hq.keep k he⟩, h.cap⟩
theorem BX.wide {w : World} {H x d F N M : Nat} {dk : Dk} {s : Sv} {per : Option Sv} (h : BX w H x d F N dk s per) (hM : N ≤ M) : BX w H x d F M dk s per := ⟨h.lo, DS.wide h.is hM, h.off, h.good, h.blk, h.cap⟩
theorem AX.wide {w : World} {H x d F N M : Nat} {dk : Dk} {s : Sv} {wl : Nat} (h : AX w H x d F N dk s wl) (hM : N ≤ M) : AX w H x d F M dk s wl := ⟨h.lo, DS.wide h.is hM, h.off, h.blk, h.wal, h.cap⟩
/-- a wal is open, or the disk is dark -/
def SX (w : World) (H x d F N : Nat) (dk : Dk) (s : Sv) (per : Option Sv) : Prop := (per = none ∧ ∃ wl, AX w H x d F N dk s wl) ∨ BX w H x d F N dk s per
section
variable {w w' : World} {H x d F N M : Nat} {dk dk' : Dk} {s : Sv} {per : Option Sv}
theorem SX.lo (h : SX w H x d F N dk s per) : H ≤ x ∧ H ≤ d ∧ H ≤ F := by
  rcases h with ⟨_, wl, h⟩ | h
  · exact ⟨h.lo.1, h.lo.2.1, h.lo.2.2.1⟩
  · exact h.lo
theorem SX.is (h : SX w H x d F N dk s per) : dk.Is X0 w d F N := by
  rcases h with ⟨_, wl, h⟩ | h
  · exact h.is
  · exact h.is
theorem SX.good (h : SX w H x d F N dk s per) : Good (Told s per) 2000000 dk.p := by
  rcases h with ⟨rfl, wl, h⟩ | h
  · exact h.rx.good
  · exact h.good
theorem SX.blk (h : SX w H x d F N dk s per) : ∃ wv A c p5 p6 p7, Blk w x 35 (xC d wv s A c p5 p6 p7 per.isSome) ∧ Lg w A s.log.length c s.log ∧ PerIs w p5 p6 p7 per := by
  rcases h with ⟨rfl, wl, h⟩ | h
  · exact h.rx.blk
  · obtain ⟨A, c, p5, p6, p7, h⟩ := h.blk
    exact ⟨_, A, c, p5, p6, p7, h⟩
theorem SX.cap (h : SX w H x d F N dk s per) : Cap s ∧ ∀ q, per = some q → Cap q := by
  rcases h with ⟨rfl, wl, h⟩ | h
  · exact h.rx.cap
  · exact h.cap
theorem SX.bel (h : SX w H x d F N dk s per) (k : Below w.heap.size w w') : SX w' H x d F N dk s per := by
  rcases h with ⟨rfl, wl, h⟩ | h
  · exact .inl ⟨rfl, wl, h.bel k⟩
  · exact .inr (h.bel k)
theorem SX.turn (h : SX w H x d F N dk s per) (k : Turns (DSet d F) w w') (hd : dk'.Is X0 w' d F M) (ho : dk'.off = dk.off) (hp : dk'.p = dk.p) : SX w' H x d F M dk' s per := by
  rcases h with ⟨rfl, wl, h⟩ | h
  · exact .inl ⟨rfl, wl, h.turn k hd (ho.trans h.off) hp⟩
  · exact .inr (h.turn k hd (ho.trans h.off) hp)
theorem SX.crash (h : SX w H x d F N dk s per) {n : Nat} {z : Nat → Int} {e : Ending} (hc : CrashY X0 w d F N n z dk.p e w') : e = .returned (.int .i64 0) ∧ Turns (DSet d F) w w' ∧ ∃ dk2, RX w' H x d F N dk2 s per ∧ Lit dk2 := by
  obtain ⟨rfl, ks, hk, hd, ht⟩ := hc
  obtain ⟨hg, ha⟩ := crash_good (n := n) (z := z) hk (DS.wf h.is) h.good
  obtain ⟨wv, A, c, p5, p6, p7, hb, hl, hq⟩ := h.blk
  have he := e_far h.is
  exact ⟨rfl, ht, ⟨false, -1, crashF n z ks 0 dk.p⟩, ⟨h.lo, hd, rfl, hg, ha, ⟨wv, A, c, p5, p6, p7, hb.turns ht (x_far h.is hb), hl.keep ht (fun g cs hg _ => he g ⟨cs, hg⟩), hq.keep ht he⟩, h.cap⟩, rfl⟩
end
theorem XSet.lo {H x d F : Nat} (h : H ≤ x ∧ H ≤ d ∧ H ≤ F) : ∀ g, XSet x d F g → H ≤ g := fun g e => by
  unfold XSet at e
  rcases e with rfl | rfl | rfl
  · exact h.1
  · exact h.2.1
  · exact h.2.2
theorem DSet.lo {H d F : Nat} (h : H ≤ d ∧ H ≤ F) : ∀ g, DSet d F g → H ≤ g := fun g e => by
  unfold DSet at e
  rcases e with rfl | rfl
  · exact h.1
  · exact h.2
end Go.Proofs.YteihedfmmiihiaaGreat

namespace Go.Proofs.YteihedfmmiihiaaGreat
open Go.RowKit Go.Maps Go.Sort Go.Shelf

/-- a literal's bytes, marked -/
theorem bs_left (w : World) : Bs (w.alloc (.cells #[.int .u8 108, .int .u8 101, .int .u8 102, .int .u8 116, .int .u8 32, .int .u8 97, .int .u8 108, .int .u8 111, .int .u8 110, .int .u8 101] 5 (10, 11))) (some ⟨w.heap.size, 0, none⟩) 10 [108, 101, 102, 116, 32, 97, 108, 111, 110, 101] :=
  ⟨rfl, by decide, fun i hi => ⟨_, rfl, by simp, by
    have e : (⟨w.heap.size, 0, none⟩ : Addr).add i = ⟨w.heap.size, i, none⟩ := by simp [Addr.add]; omega
    rw [e, World.cell?_alloc_mark]
    have hi' : i < 10 := hi
    have h10 : i = 0 ∨ i = 1 ∨ i = 2 ∨ i = 3 ∨ i = 4 ∨ i = 5 ∨ i = 6 ∨ i = 7 ∨ i = 8 ∨ i = 9 := by omega
    rcases h10 with rfl | rfl | rfl | rfl | rfl | rfl | rfl | rfl | rfl | rfl <;> rfl⟩⟩
/-- a disk with the other file alone -/
def bA : Dk := apS ⟨false, -1, fun _ => none⟩ kO leftA
def bDk : Dk := syS bA kO
theorem bA_eq : bA = ⟨false, -1, upd (fun _ => none) kO (leftA, 0)⟩ := by simp [bA, apS, pl, lessF]
theorem bDk_eq : bDk = ⟨false, -1, upd (upd (fun _ => none) kO (leftA, 0)) kO (leftA, 10)⟩ := by
  unfold bDk
  rw [bA_eq]
  simp [syS, chS, pl, upd, lessF, leftA]
theorem bDk_p (k : ByteArray) : bDk.p k = if k = kO then some (leftA, 10) else none := by
  rw [bDk_eq]
  simp only [upd]
  split <;> simp_all
theorem bDk_pl (k : ByteArray) (h : k ≠ kO) : pl bDk.p k = ([], 0) := by
  unfold pl
  rw [bDk_p, if_neg h]
  rfl
theorem bDk_good : Good (Told none0 none) 2000000 bDk.p := by
  refine ⟨fun k h1 h2 => ?_, by rw [bDk_p, if_pos rfl], fun k hk => ?_, ?_⟩
  · rw [bDk_pl kW kOW.symm]
    exact ⟨[], [], none0, by simp, FileIs.nil, Rest.nil, .inl rfl, by simp⟩
  · rw [bDk_p] at hk
    by_cases e : k = kO
    · exact .inr (.inr e)
    · rw [if_neg e] at hk
      exact absurd rfl hk
  · rw [bDk_pl kW kOW.symm, bDk_pl kN kON.symm]
    exact ⟨Nat.zero_le _, Nat.zero_le _⟩
def BeginY (w : World) (e : Ending) (w' : World) : Prop :=
  ∃ x d F N dk wl, e = .returned (.tuple #[.pointer (some ⟨x, 0, none⟩), .bool true]) ∧ AX w' w.heap.size x d F N dk none0 wl ∧ Lit dk ∧ N ≤ 10 ∧ Below w.heap.size w w'
set_option maxRecDepth 20000 in
set_option maxHeartbeats 8000000 in
theorem begin_any (w : World) : Calls Tryz.prog 7 #[] w (BeginY w) := by
  have HN := Lib.hid (newD (Xs := X0) w)
  obtain ⟨H, hH⟩ : ∃ H, w.heap.size = H := ⟨_, rfl⟩
  unfold BeginY
  rw [hH]
  rw [hH] at HN
  have HH := Lib.hid hH
  clear hH
  go_enter Tryz.func7, Tryz.ntmps7
  go_wp2_with fail
  refine HN.out.mono ?_
  rintro e w1 ⟨rfl, h1, hb1⟩
  have D1 := Lib.hid h1
  have B1 := Lib.hid hb1
  have HNO := Lib.hid (nothing_any w1)
  clear h1 hb1
  go_wp2_with fail
  refine HNO.out.mono ?_
  rintro e w2 ⟨rfl, hb2⟩
  have D2 := Lib.hid (D1.out.bel hb2)
  have B2 := Lib.hid (B1.out.trans (hb2.mono (by have := B1.out.size; have := HH.out; omega)))
  unfold svV
  clear hb2 D1 HNO
  have BX := Lib.hid (Below.new w2 (.cells #[.pointer (some ⟨H + 1, 0, none⟩), .pointer none, .int .i64 0, .int .i64 (-1), .slice none 0 0, .int .i64 0, .int .i64 0, .slice none 0 0, .bool false] 35))
  have KX := Lib.hid (Blk.new w2 35 [.pointer (some ⟨H + 1, 0, none⟩), .pointer none, .int .i64 0, .int .i64 (-1), .slice none 0 0, .int .i64 0, .int .i64 0, .slice none 0 0, .bool false])
  go_upto_region 2 with (fail)
  obtain ⟨x, hx⟩ : ∃ x, w2.heap.size = x := ⟨_, rfl⟩
  have HXX := Lib.hid hx
  rw [hx] at KX BX ⊢
  have D3 := Lib.hid (D2.out.bel (w' := (w2.alloc (.cells #[.pointer (some ⟨H + 1, 0, none⟩), .pointer none, .int .i64 0, .int .i64 (-1), .slice none 0 0, .int .i64 0, .int .i64 0, .slice none 0 0, .bool false] 35))) (by rw [hx]; exact BX.out))
  have B3 : Hid (Below H w (w2.alloc (.cells #[.pointer (some ⟨H + 1, 0, none⟩), .pointer none, .int .i64 0, .int .i64 (-1), .slice none 0 0, .int .i64 0, .int .i64 0, .slice none 0 0, .bool false] 35))) := Lib.hid (B2.out.trans (BX.out.mono (by have := B2.out.size; have := HH.out; omega)))
  generalize (w2.alloc (.cells #[.pointer (some ⟨H + 1, 0, none⟩), .pointer none, .int .i64 0, .int .i64 (-1), .slice none 0 0, .int .i64 0, .int .i64 0, .slice none 0 0, .bool false] 35)) = W at *
  have kc := fun (w : World) (C : Array Value) (n c : Nat) => Lib.run_convert_bytes_const (P := Tryz.prog) w 30 5 C n c Tryz.underlying30 Tryz.underlying5
  have HBL : Bs (W.alloc (.cells #[.int .u8 108, .int .u8 101, .int .u8 102, .int .u8 116, .int .u8 32, .int .u8 97, .int .u8 108, .int .u8 111, .int .u8 110, .int .u8 101] 5 (10, 11))) (some ⟨W.heap.size, 0, none⟩) 10 leftA := bs_left W
  have BZ := Lib.hid (Below.new W (.cells #[.int .u8 108, .int .u8 101, .int .u8 102, .int .u8 116, .int .u8 32, .int .u8 97, .int .u8 108, .int .u8 111, .int .u8 110, .int .u8 101] 5 (10, 11)))
  have DZ := Lib.hid (D3.out.bel BZ.out)
  have XZ := Lib.hid (KX.out.bel BZ.out)
  have HA := appendD _ (H + 1) H 0 ⟨false, -1, fun _ => none⟩ DZ.out kO (some ⟨W.heap.size, 0, none⟩) 10 10 leftA HBL (Nat.le_refl _) (by decide) x0
  unfold kO at HA
  have HA := Lib.hid HA
  have q0 : W.cell? ⟨x, 0, none⟩ = some (.pointer (some ⟨H + 1, 0, none⟩)) := KX.out.cell 0
  clear HBL hx
  go_wp2_with fail
  refine HA.out.mono ?_
  rintro e w3 ⟨rfl, h1, h2⟩
  have V1 : Hid (bA.Is X0 w3 (H + 1) H 1) := Lib.hid h1
  have T3 := Lib.hid h2
  have X3 := Lib.hid (XZ.out.turns h2 (x_far (dk := ⟨false, -1, fun _ => none⟩) DZ.out XZ.out))
  have HC1 : apC ⟨false, -1, fun _ => none⟩ = 0 := rfl
  rw [HC1]
  clear h1 h2 HA q0 HC1
  have HS := syncD w3 (H + 1) H 1 bA V1.out kO
  have HC2 : chC bA kO = 0 := by rw [bA_eq]; rfl
  rw [HC2] at HS
  unfold kO at HS
  have HS := Lib.hid HS
  have q0 : w3.cell? ⟨x, 0, none⟩ = some (.pointer (some ⟨H + 1, 0, none⟩)) := X3.out.cell 0
  clear HC2
  go_wp2_with fail
  refine HS.out.mono ?_
  rintro e w4 ⟨rfl, h1, h2⟩
  have V4 : Hid (bDk.Is X0 w4 (H + 1) H 1) := Lib.hid h1
  have T4 := Lib.hid h2
  have X4 := Lib.hid (X3.out.turns h2 (x_far V1.out X3.out))
  have TA : Hid (Turns (fun g => H ≤ g) w w4) := Lib.hid ((((Turns.of_below (by rw [HH.out]; exact B3.out)).then (.of_below BZ.out)).then (T3.out.mono (fun i _ e => DSet.lo ⟨by omega, Nat.le_refl _⟩ i e))).then (T4.out.mono (fun i _ e => DSet.lo ⟨by omega, Nat.le_refl _⟩ i e)))
  have HRX : RX w4 H x (H + 1) H 1 bDk none0 none := ⟨⟨by have := B2.out.size; have := HXX.out; have := HH.out; omega, by omega, Nat.le_refl _⟩, V4.out, by rw [bDk_eq], bDk_good, by rw [bDk_pl kW kOW.symm]; rfl, ⟨none, none, 0, _, _, _, X4.out, Lg.none _, PerIs.none _ _ _ _⟩, Few.zero.cap (by omega), fun _ e => by cases e⟩
  have HO := Lib.hid (open_x w4 H x (H + 1) H 1 bDk none0 none HRX (by omega) (by have := TA.out.size; have := HH.out; omega))
  clear h1 h2 HS q0 HRX
  go_wp2_with fail
  refine HO.out.mono ?_
  rintro e w5 ⟨rfl, ht5, hcase⟩
  rcases hcase with ⟨dk', s', wl, ha, hs, _, hl⟩ | ⟨dk', _, hn⟩
  · have hs0 : s' = none0 := by
      rcases hs with e | e
      · exact e
      · cases e
    subst hs0
    have HAX := Lib.hid ha
    have HLT := Lib.hid (hl (by rw [bDk_eq]; rfl))
    have T5 := Lib.hid ht5
    obtain ⟨A, c, p5, p6, p7, hb, _⟩ := ha.blk
    have q1 : w5.cell? ⟨x, 1, none⟩ = some (.pointer (some ⟨wl, 0, none⟩)) := hb.cell 1
    clear ha hb hs hl ht5
    go_upto_region 7 with (fail)
    go_quiet (fail)
    go_wp2_with fail
    go_ret2
    have hdr := below_drewN' (Below.refl w5.heap.size w5) nq
    refine ⟨x, H + 1, H, 1 + 5, dk', wl, rfl, HAX.out.bel hdr, HLT.out, by omega, ?_⟩
    exact ((TA.out.then (T5.out.mono (fun i _ e => XSet.lo ⟨by have := B2.out.size; have := HXX.out; have := HH.out; omega, by omega, Nat.le_refl _⟩ i e))).then (Turns.of_below hdr)).below (by rw [HH.out]; exact Nat.le_refl _) (fun i _ e => e)
  · exact absurd (by rw [bDk_eq]; rfl) hn
end Go.Proofs.YteihedfmmiihiaaGreat
