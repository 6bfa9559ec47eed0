/- WmJ: texts of wal, merged (a claim may hold few texts) -/
import Derived.Test.YteihedfmmiihiaaGreatWlWorld
namespace Go.Proofs.YteihedfmmiihiaaGreat
open Go.RowKit Go.Maps Go.Sort Go.Shelf

/-- what is told perhaps, in memory -/
def PerIs (w : World) (p5 p6 p7 : Value) (per : Option Sv) : Prop := ∀ q, per = some q → p5 = .int .i64 q.term ∧ p6 = .int .i64 q.vote ∧ ∃ B e, p7 = .slice B q.log.length e ∧ Lg w B q.log.length e q.log
theorem PerIs.none (w : World) (p5 p6 p7 : Value) : PerIs w p5 p6 p7 none := fun _ e => by cases e
theorem PerIs.keep {S : Nat → Prop} {w w' : World} {p5 p6 p7 : Value} {per : Option Sv} (h : PerIs w p5 p6 p7 per) (k : Turns S w w') (hS : ∀ g, IsEn w g → ¬ S g) : PerIs w' p5 p6 p7 per := fun q e => by
  obtain ⟨h1, h2, B, c, h3, h4⟩ := h q e
  exact ⟨h1, h2, B, c, h3, h4.keep k (fun g cs hg _ => hS g ⟨cs, hg⟩)⟩
/-- one of these -/
def Told (s : Sv) (per : Option Sv) : Sv → Prop := fun y => y = s ∨ per = some y
/-- the disk is on, and a wal may be opened -/
structure RX (w : World) (H x d F N : Nat) (dk : Dk) (s : Sv) (per : Option Sv) : Prop where
  lo : H ≤ x ∧ H ≤ d ∧ H ≤ F
  is : dk.Is X0 w d F N
  off : dk.off = false
  good : Good (Told s per) 2000000 dk.p
  all : (pl dk.p kW).2 = (pl dk.p kW).1.length
  blk : ∃ wv A c p5 p6 p7, Blk w x 35 (xC d wv s A c p5 p6 p7 per.isSome) ∧ Lg w A s.log.length c s.log ∧ PerIs w p5 p6 p7 per
  cap : Cap s ∧ ∀ q, per = some q → Cap q
/-- a wal is open, and tells what is sure -/
structure AX (w : World) (H x d F N : Nat) (dk : Dk) (s : Sv) (wl : Nat) : Prop where
  lo : H ≤ x ∧ H ≤ d ∧ H ≤ F ∧ H ≤ wl
  is : dk.Is X0 w d F N
  off : dk.off = false
  blk : ∃ A c p5 p6 p7, Blk w x 35 (xC d (some ⟨wl, 0, none⟩) s A c p5 p6 p7 false) ∧ Lg w A s.log.length c s.log
  wal : ∃ A c size, Blk w wl 41 (walC d s.term s.vote (.slice A s.log.length c) false size) ∧ Lg w A s.log.length c s.log ∧ Tidy s size dk.p
  cap : Cap s
/-- the disk is dark, and no wal is open -/
structure BX (w : World) (H x d F N : Nat) (dk : Dk) (s : Sv) (per : Option Sv) : Prop where
  lo : H ≤ x ∧ H ≤ d ∧ H ≤ F
  is : dk.Is X0 w d F N
  off : dk.off = true
  good : Good (Told s per) 2000000 dk.p
  blk : ∃ A c p5 p6 p7, Blk w x 35 (xC d none s A c p5 p6 p7 per.isSome) ∧ Lg w A s.log.length c s.log ∧ PerIs w p5 p6 p7 per
  cap : Cap s ∧ ∀ q, per = some q → Cap q
theorem AX.rx {w : World} {H x d F N : Nat} {dk : Dk} {s : Sv} {wl : Nat} (h : AX w H x d F N dk s wl) : RX w H x d F N dk s none := by
  obtain ⟨A, c, p5, p6, p7, hb, hl⟩ := h.blk
  obtain ⟨A2, c2, size, _, _, ht⟩ := h.wal
  exact ⟨⟨h.lo.1, h.lo.2.1, h.lo.2.2.1⟩, h.is, h.off, ht.good (.inl rfl) (by have := ht.small; have := h.cap.full; omega), ht.all, ⟨_, A, c, p5, p6, p7, hb, hl, .none _ _ _ _⟩, h.cap, fun _ e => by cases e⟩
/-! ### a power that does not fail -/
def Lit (dk : Dk) : Prop := dk.fuse = -1
theorem lessF_1 : lessF (-1) = -1 := rfl
theorem clR_lit {s : Dk} (h : s.off = false) (hl : Lit s) : (clR s).1 = 0 ∧ Lit (clR s).2 := by
  unfold Lit at *
  unfold clR rmS chC chS
  rw [h, hl]
  cases hp : s.p kN <;> simp [hl, lessF_1]
theorem apR_lit {s : Dk} (h : s.off = false) (hl : Lit s) (k : ByteArray) (B : List UInt8) : (apR k B s).1 = 0 ∧ Lit (apR k B s).2 ∧ (apR k B s).2.off = false ∧ ((apR k B s).2.p k).isSome = true := by
  unfold Lit at *
  unfold apR apC apS
  rw [h, hl]
  simp [lessF_1, upd]
theorem syR_lit {s : Dk} (h : s.off = false) (hl : Lit s) (k : ByteArray) (hk : (s.p k).isSome = true) : (syR k s).1 = 0 ∧ Lit (syR k s).2 ∧ (syR k s).2.off = false ∧ ((syR k s).2.p k).isSome = true := by
  unfold Lit at *
  unfold syR syS chC chS
  rw [h, hl, hk]
  simp [lessF_1, upd]
theorem mvR_lit {s : Dk} (h : s.off = false) (hl : Lit s) (hk : (s.p kN).isSome = true) : (mvR s).1 = 0 ∧ Lit (mvR s).2 := by
  unfold Lit at *
  unfold mvR mvS chC chS
  rw [h, hl, hk]
  simp [lessF_1]
theorem anewR_lit {s : Dk} (h : s.off = false) (hl : Lit s) (B : List UInt8) : (anewR s B).1 = 0 ∧ Lit (anewR s B).2 := by
  obtain ⟨a1, a2⟩ := clR_lit h hl
  have a3 : (clR s).2.off = false := by
    rcases clR_says s h with q | q
    · exact q.2.1
    · rw [a1] at q; exact absurd q.1 (by decide)
  obtain ⟨b1, b2, b3, b4⟩ := apR_lit a3 a2 kN B
  obtain ⟨c1, c2, c3, c4⟩ := syR_lit b3 b2 kN b4
  unfold anewR
  rw [thenR_ok a1, thenR_ok b1, thenR_ok c1]
  exact mvR_lit c3 c2 c4
theorem moreR_lit {s : Dk} (h : s.off = false) (hl : Lit s) (B : List UInt8) : (moreR s B).1 = 0 ∧ Lit (moreR s B).2 := by
  obtain ⟨b1, b2, b3, b4⟩ := apR_lit h hl kW B
  obtain ⟨c1, c2, _, _⟩ := syR_lit b3 b2 kW b4
  unfold moreR
  rw [thenR_ok b1]
  exact ⟨c1, c2⟩
theorem openR_lit {s : Dk} (h : s.off = false) (hl : Lit s) (x : Sv) (t : List UInt8) : (openR s x t).1 = 0 ∧ Lit (openR s x t).2 := by
  unfold openR
  split
  · exact clR_lit h hl
  · exact anewR_lit h hl _
theorem keepR_lit {s : Dk} (h : s.off = false) (hl : Lit s) (a b : Sv) (n : Nat) : (keepR s a b n).1 = 0 ∧ Lit (keepR s a b n).2 := by
  unfold keepR
  split
  · exact anewR_lit h hl _
  · split
    · exact ⟨rfl, hl⟩
    · exact moreR_lit h hl _
/-! ### a row that is written over -/
def RowE (w : World) (A : Option Addr) (n : Nat) : Prop := ∀ g, A.map Addr.block = some g → A = some ⟨g, 0, none⟩ ∧ ∃ cs, Blk w g 29 cs ∧ n * 2 ≤ cs.length
theorem OwnE.rowE {w : World} {H c : Nat} {A : Option Addr} {L : List En} (h : OwnE w H A c L) : RowE w A L.length := fun g hg => by
  rcases h.2 with ⟨e, _⟩ | ⟨g', cap, cur, e, _, h4, h5, _, h7, _⟩
  · injection e with e1
    rw [e1] at hg
    cases hg
  · injection e with e1
    rw [e1] at hg ⊢
    injection hg with hg
    subst hg
    refine ⟨rfl, cur.toList, ?_, ?_⟩
    · unfold Blk
      rw [h4]
    · have : cur.toList.length = cur.size := Array.length_toList
      omega
end Go.Proofs.YteihedfmmiihiaaGreat

namespace Go.Proofs.YteihedfmmiihiaaGreat
open Go.RowKit Go.Maps Go.Sort Go.Shelf

theorem Lg.over {w w' : World} {A B : Option Addr} {n c : Nat} {L : List En} (h : Lg w A n c L) (k : Turns (fun q => B.map Addr.block = some q) w w') (hS : 0 < L.length → ∀ g, A.map Addr.block = some g → B.map Addr.block ≠ some g) : Lg w' A n c L := by
  by_cases h0 : 0 < L.length
  · exact h.keep k (fun g _ _ hg => hS h0 g hg)
  · obtain rfl : L = [] := List.eq_nil_of_length_eq_zero (by omega)
    exact ⟨h.len, h.cap, h.nil, .nil _ _⟩
theorem RowE.keep {w w' : World} {S : Nat → Prop} {A : Option Addr} {n : Nat} (h : RowE w A n) (k : Turns S w w') (hS : ∀ g, IsEn w g → ¬ S g) : RowE w' A n := fun g hg => by
  obtain ⟨e, cs, hb, hc⟩ := h g hg
  exact ⟨e, cs, hb.turns k (hS g ⟨_, hb⟩), hc⟩
theorem RowE.set {w : World} {A : Option Addr} {n g : Nat} (h : RowE w A n) (hA : A.map Addr.block = some g) (i : Nat) (u : Value) : RowE (w.setCell ⟨g, i, none⟩ u) A n := fun g' hg => by
  rw [hA] at hg
  injection hg with hg
  subst hg
  obtain ⟨e, cs, hb, hc⟩ := h g hA
  exact ⟨e, cs.set i u, hb.set i u, by rw [List.length_set]; exact hc⟩
/-- the law's own turn -/
def XSet (x d F : Nat) : Nat → Prop := fun i => i = x ∨ i = d ∨ i = F
def OpenX (w : World) (H x d F N : Nat) (dk : Dk) (s : Sv) (per : Option Sv) (e : Ending) (w' : World) : Prop :=
  e = .returned (.bool true) ∧ Turns (XSet x d F) w w' ∧
  ((∃ dk' s' wl, AX w' H x d F (N + 5) dk' s' wl ∧ Told s per s' ∧ w.heap.size ≤ wl ∧ (Lit dk → Lit dk')) ∨ (∃ dk', BX w' H x d F (N + 5) dk' s per ∧ ¬ Lit dk))
theorem turns_x4 (W : World) (g : Nat) (u2 u3 u4 u8 : Value) : Turns (fun i => i = g) W ((((W.setCell ⟨g, 2, none⟩ u2).setCell ⟨g, 3, none⟩ u3).setCell ⟨g, 4, none⟩ u4).setCell ⟨g, 8, none⟩ u8) :=
  Turns.set (S := fun i => i = g) (Turns.set (S := fun i => i = g) (Turns.set (S := fun i => i = g) (Turns.of_set (S := fun i => i = g) W ⟨g, 2, none⟩ u2 rfl) ⟨g, 3, none⟩ u3 (fun _ => rfl)) ⟨g, 4, none⟩ u4 (fun _ => rfl)) ⟨g, 8, none⟩ u8 (fun _ => rfl)
set_option maxRecDepth 20000 in
set_option maxHeartbeats 8000000 in
theorem open_x (w : World) (H x d F N : Nat) (dk : Dk) (s : Sv) (per : Option Sv) (h : RX w H x d F N dk s per) (hN : N ≤ 900000) (hH : H ≤ w.heap.size) :
    Calls Tryz.prog 9 #[.pointer (some ⟨x, 0, none⟩)] w (OpenX w H x d F N dk s per) := by
  have HR := Lib.hid h
  obtain ⟨wv, A0, c0, p5, p6, p7, hb, hl, hp⟩ := h.blk
  have HCAP : Hid (∀ y, Told s per y → Cap y) := Lib.hid (fun y hy => by
    rcases hy with rfl | hy
    · exact h.cap.1
    · exact h.cap.2 y hy)
  obtain ⟨l, t, s', hL, hF, hT, hs', hcase⟩ := open_says h.off h.good h.all (fun y hy => by have := (HCAP.out y hy).full; omega)
  have HC' := Lib.hid (HCAP.out s' hs')
  have HOP := open_on w d F N dk h.is h.off x0 _ l t s' rfl (by have := h.good.short.1; omega) hL hF hT (by have := HC'.out.wgt; omega)
  obtain ⟨rc, rd, hr⟩ : ∃ a b, openR dk s' t = (a, b) := ⟨(openR dk s' t).1, (openR dk s' t).2, rfl⟩
  obtain ⟨sz, hsz⟩ : ∃ n, openN s' l t = n := ⟨_, rfl⟩
  have HLIT : Hid (Lit dk → rc = 0 ∧ Lit rd) := Lib.hid (fun hl => by have := openR_lit h.off hl s' t; rw [hr] at this; exact this)
  rw [hr, hsz] at HOP hcase
  unfold OpenY at HOP
  simp only at hcase
  have HOP := Lib.hid HOP
  have HCASE := Lib.hid hcase
  have HTOLD := Lib.hid hs'
  have HB := Lib.hid hb
  have HL := Lib.hid hl
  have HP := Lib.hid hp
  have x0' : w.cell? ⟨x, 0, none⟩ = some (.pointer (some ⟨d, 0, none⟩)) := hb.cell 0
  have HNE : Hid (x ≠ d ∧ x ≠ F ∧ d ≠ F) := Lib.hid ⟨fun e => by
      have h1 := DS.blk h.is
      rw [← e] at h1
      have := h1.symm.trans hb
      simp at this, fun e => by
      obtain ⟨mv, n, _, hm, _⟩ := DS.files h.is
      rw [← e] at hm
      exact hm.ne_cells hb rfl, (DS.ne h.is).symm⟩
  have HDF : Hid (∀ g, IsEn w g → ¬ DSet d F g) := Lib.hid (fun g hg e => by
    rcases e with e | e
    · exact hg.ne (DS.blk h.is) (by decide) e
    · subst e
      obtain ⟨cur, hc⟩ := hg
      obtain ⟨mv, n, _, hm, _⟩ := DS.files h.is
      exact hm.ne_cells hc rfl)
  have hxl := hb.lt
  clear h hb hl hp hcase hs' hL hF hT hr hsz
  go_enter Tryz.func9, Tryz.ntmps9
  go_wp2_with fail
  refine HOP.out.mono ?_
  rintro e W1 ⟨hdk, htt, hres⟩
  have D1 := Lib.hid hdk
  have T1 := Lib.hid htt
  have X1 := Lib.hid (HB.out.turns htt (by have := HNE.out; unfold DSet; omega))
  have L1 := Lib.hid (HL.out.keep htt (fun g cs hg _ => HDF.out g ⟨cs, hg⟩))
  have P1 := Lib.hid (HP.out.keep htt HDF.out)
  have hsz1 := Lib.hid htt.size
  clear hdk htt x0' HOP
  rcases hres with ⟨hr0, wl, A, c, A2, c2, HH, rfl, hwl, hbw, hlw, hown, hHH, hwH, hAH⟩ | ⟨hr0, rfl⟩
  · have hN' : Hid (Tidy s' sz rd.p ∧ rd.off = false) := Lib.hid (by
      rcases HCASE.out with q | q
      · exact ⟨q.2.2, q.2.1⟩
      · rw [hr0] at q; exact absurd q.1 (by decide))
    have HWB := Lib.hid hbw
    have HLW := Lib.hid hlw
    have HOWN := Lib.hid hown
    have HAH := Lib.hid hAH
    have HGE := Lib.hid hown.ge
    have HEN := Lib.hid hown.is
    clear hbw hlw hown hAH HCASE
    unfold svV
    obtain ⟨z, hz⟩ : ∃ z, W1.heap.size = z := ⟨_, rfl⟩
    have HZ := Lib.hid hz
    have KS0 := Lib.hid (Blk.new W1 27 [.int .i64 s'.term, .int .i64 s'.vote, .slice A2 s'.log.length c2])
    have XY0 := Lib.hid (X1.out.alloc (.cells #[.int .i64 s'.term, .int .i64 s'.vote, .slice A2 s'.log.length c2] 27))
    have TY0 := Lib.hid (Turns.alloc (Turns.refl (XSet x d F) W1) (.cells #[.int .i64 s'.term, .int .i64 s'.vote, .slice A2 s'.log.length c2] 27))
    have TY0x := Lib.hid (Turns.alloc (Turns.refl (fun i => i = x) W1) (.cells #[.int .i64 s'.term, .int .i64 s'.vote, .slice A2 s'.log.length c2] 27))
    have hxz : x < z := by have := X1.out.lt; omega
    go_upto_region 2 with (fail)
    rw [hz] at KS0 hsz1
    clear hz
    generalize (W1.alloc (.cells #[.int .i64 s'.term, .int .i64 s'.vote, .slice A2 s'.log.length c2] 27)) = Y0 at *
    have KS := Lib.hid (KS0.out.far (p := ⟨x, 1, none⟩) (show z ≠ x by omega) (.pointer (some ⟨wl, 0, none⟩)))
    have XY := Lib.hid (XY0.out.set 1 (.pointer (some ⟨wl, 0, none⟩)))
    have TY := Lib.hid (Turns.set (S := XSet x d F) TY0.out ⟨x, 1, none⟩ (.pointer (some ⟨wl, 0, none⟩)) (fun _ => .inl rfl))
    have TYx := Lib.hid (Turns.set (S := fun i => i = x) TY0x.out ⟨x, 1, none⟩ (.pointer (some ⟨wl, 0, none⟩)) (fun _ => rfl))
    have xc1 : Y0.cell? ⟨x, 1, none⟩ = some (.pointer wv) := XY0.out.cell 1
    have xf1 := XY0.out.fz 1
    go_upto_region 3 with (fail)
    clear xc1 xf1
    generalize (Y0.setCell ⟨x, 1, none⟩ (.pointer (some ⟨wl, 0, none⟩))) = Y at *
    have LY := Lib.hid (L1.out.keep TY.out (fun g cs hg _ e => by
      rcases e with e | e
      · exact IsEn.ne ⟨cs, hg⟩ X1.out (by decide) e
      · rcases e with e | e
        · exact IsEn.ne ⟨cs, hg⟩ (DS.blk D1.out) (by decide) e
        · obtain ⟨mv, n, _, hm, _⟩ := DS.files D1.out
          rw [e] at hg
          exact hm.ne_cells hg rfl))
    have TYN := Lib.hid (show ∀ g, IsEn W1 g → ¬ XSet x d F g from fun g hg e => by
      rcases e with e | e
      · exact hg.ne X1.out (by decide) e
      · rcases e with e | e
        · exact hg.ne (DS.blk D1.out) (by decide) e
        · obtain ⟨cs, hg⟩ := hg
          obtain ⟨mv, n, _, hm, _⟩ := DS.files D1.out
          rw [e] at hg
          exact hm.ne_cells hg rfl)
    have PY := Lib.hid (P1.out.keep TY.out TYN.out)
    have OY := Lib.hid (HOWN.out.keep TY.out (fun g hg => TYN.out g (HEN.out g hg)))
    have WY := Lib.hid (HWB.out.turns TY.out (fun e => by
      rcases e with e | e
      · have := hxl; omega
      · rcases e with e | e
        · have h1 := HWB.out; rw [e] at h1; exact no_wal D1.out h1
        · have h1 := HWB.out; rw [e] at h1; exact no_wal2 D1.out h1))
    have MY := Lib.hid (HLW.out.keep TY.out (fun g cs hg _ => TYN.out g ⟨cs, hg⟩))
    have k0 : Y.cell? ⟨z, 0, none⟩ = some (.int .i64 s'.term) := KS.out.cell 0
    have k1 : Y.cell? ⟨z, 1, none⟩ = some (.int .i64 s'.vote) := KS.out.cell 1
    have k2 : Y.cell? ⟨z, 2, none⟩ = some (.slice A2 s'.log.length c2) := KS.out.cell 2
    have q2 : Y.cell? ⟨x, 2, none⟩ = some (.int .i64 s.term) := XY.out.cell 2
    have q3 : Y.cell? ⟨x, 3, none⟩ = some (.int .i64 s.vote) := XY.out.cell 3
    have q4 : Y.cell? ⟨x, 4, none⟩ = some (.slice A0 s.log.length c0) := XY.out.cell 4
    have LS := Lib.hid (OY.out.lg)
    have qk0 := fun p : BelowW Y => (p.h.cell (World.block_lt_of_cell? Y _ k0)).trans k0
    have qk1 := fun p : BelowW Y => (p.h.cell (World.block_lt_of_cell? Y _ k1)).trans k1
    have qk2 := fun p : BelowW Y => (p.h.cell (World.block_lt_of_cell? Y _ k2)).trans k2
    have qq2 := fun p : BelowW Y => (p.h.cell (World.block_lt_of_cell? Y _ q2)).trans q2
    have qq3 := fun p : BelowW Y => (p.h.cell (World.block_lt_of_cell? Y _ q3)).trans q3
    have qq4 := fun p : BelowW Y => (p.h.cell (World.block_lt_of_cell? Y _ q4)).trans q4
    by_cases he : s' = s
    · have HSM : Hid (∀ p : BelowW Y, Calls Tryz.prog 15 #[.agg #[.int .i64 s'.term, .int .i64 s'.vote, .slice A2 s'.log.length c2], .agg #[.int .i64 s.term, .int .i64 s.vote, .slice A0 s.log.length c0]] p.w fun e w' => e = .returned (.bool true) ∧ Below p.w.heap.size p.w w') := Lib.hid (fun p => (same_any p.w A2 A0 _ c2 _ c0 s' s (LS.out.bel p.h) (LY.out.bel p.h)).mono (fun e w' h => ⟨by rw [h.1, decide_eq_true he], h.2⟩))
      clear he
      go_wp2_with fail
      refine wp_region_quiet_below (by kernel_rfl) (by kernel_rfl) ?_
      iterate 23 (go_big_quiet_step ((go_at_call 15; exact Calls.below_of (HSM.out _))))
      refine wpQuiet_nil ?_
      intro V hw'
      have BV := Lib.hid (belowW_out hw')
      clear hw' qk0 qk1 qk2 qq2 qq3 qq4 k0 k1 k2 q2 q3 q4 HSM
      have KSV := Lib.hid (KS.out.bel BV.out)
      have XV := Lib.hid (XY.out.bel BV.out)
      have OV := Lib.hid (OY.out.bel BV.out)
      have WV := Lib.hid (WY.out.bel BV.out)
      have MV := Lib.hid (MY.out.bel BV.out)
      have HCP := copy_any V A2 s'.log.length c2 s' OV.out.lg (by have := HC'.out.len; omega)
      unfold SavedY svV at HCP
      have HCP := Lib.hid HCP
      have k0 : V.cell? ⟨z, 0, none⟩ = some (.int .i64 s'.term) := KSV.out.cell 0
      have k1 : V.cell? ⟨z, 1, none⟩ = some (.int .i64 s'.vote) := KSV.out.cell 1
      have k2 : V.cell? ⟨z, 2, none⟩ = some (.slice A2 s'.log.length c2) := KSV.out.cell 2
      go_wp2_with fail
      refine HCP.out.mono ?_
      rintro e V1 ⟨A9, c9, rfl, ho9, hb9⟩
      have O9 := Lib.hid ho9
      have B9 := Lib.hid hb9
      have KS1 := Lib.hid (KSV.out.bel hb9)
      have X9 := Lib.hid (XV.out.bel hb9)
      clear ho9 hb9 HCP k0 k1 k2
      have q2 : V1.cell? ⟨x, 2, none⟩ = some (.int .i64 s.term) := X9.out.cell 2
      have q3 : V1.cell? ⟨x, 3, none⟩ = some (.int .i64 s.vote) := X9.out.cell 3
      have q4 : V1.cell? ⟨x, 4, none⟩ = some (.slice A0 s.log.length c0) := X9.out.cell 4
      have q8 : V1.cell? ⟨x, 8, none⟩ = some (.bool per.isSome) := X9.out.cell 8
      have f2 := X9.out.fz 2
      have f3 := X9.out.fz 3
      have f4 := X9.out.fz 4
      have f8 := X9.out.fz 8
      go_upto_region 11 with (fail)
      have TU := Lib.hid (turns_x4 V1 x (.int .i64 s'.term) (.int .i64 s'.vote) (.slice A9 s'.log.length c9) (.bool false))
      have XU := Lib.hid ((((X9.out.set 2 (.int .i64 s'.term)).set 3 (.int .i64 s'.vote)).set 4 (.slice A9 s'.log.length c9)).set 8 (.bool false))
      generalize ((((V1.setCell ⟨x, 2, none⟩ (.int .i64 s'.term)).setCell ⟨x, 3, none⟩ (.int .i64 s'.vote)).setCell ⟨x, 4, none⟩ (.slice A9 s'.log.length c9)).setCell ⟨x, 8, none⟩ (.bool false)) = U at *
      have EX : Hid (∀ g, IsEn V1 g → ¬ g = x) := Lib.hid (fun g hg e => hg.ne X9.out (by decide) e)
      have KSU := Lib.hid (KS1.out.turns TU.out (show ¬ z = x by omega))
      have OVU := Lib.hid ((OV.out.bel B9.out).keep TU.out (fun g hg => EX.out g ((OV.out.bel B9.out).is g hg)))
      have O9U := Lib.hid (O9.out.keep TU.out (fun g hg => EX.out g (O9.out.is g hg)))
      have WU := Lib.hid ((WV.out.bel B9.out).turns TU.out (show ¬ wl = x by omega))
      have MU := Lib.hid ((MV.out.bel B9.out).keep TU.out (fun g cs hg _ => EX.out g ⟨cs, hg⟩))
      have RU := Lib.hid OVU.out.rowE
      have TXU := Lib.hid (TYx.out.then ((Turns.of_below (S := fun i => i = x) BV.out).then ((Turns.of_below (S := fun i => i = x) B9.out).then TU.out)))
      have T1U := Lib.hid ((Turns.of_below (S := XSet x d F) BV.out).then ((Turns.of_below (S := XSet x d F) B9.out).then (TU.out.mono (fun i _ e => .inl e))))
      clear q2 q3 q4 q8 f2 f3 f4 f8
      have k2 : U.cell? ⟨z, 2, none⟩ = some (.slice A2 s'.log.length c2) := KSU.out.cell 2
      obtain ⟨nl, hnl⟩ : ∃ m, s'.log.length = m := ⟨_, rfl⟩
      have HNL := Lib.hid hnl
      have hnlI : (nl : Int) ≤ 4096 := by have := HC'.out.len; omega
      rw [hnl] at k2 RU
      clear hnl
      go_wp2_with fail
      go_loopw [6] (fun iv wr => ∃ i : Nat, i ≤ nl ∧ iv = .int .i64 (i : Int) ∧ Hid (Turns (fun q => A2.map Addr.block = some q) U wr) ∧ Hid (RowE wr A2 nl)) (fun iv _ => nl - (intOf iv).toNat)
      case atStart => exact ⟨0, by omega, rfl, Lib.hid (Turns.refl _ _), RU⟩
      case round =>
        obtain ⟨i, hi, rfl, hT, hR⟩ := hrel
        have KW := Lib.hid (KSU.out.turns hT.out (fun e => IsEn.ne (OVU.out.is z e) KSU.out (by decide) rfl))
        have k2' : wr.cell? ⟨z, 2, none⟩ = some (.slice A2 nl c2) := by rw [← HNL.out]; exact KW.out.cell 2
        by_cases hlt : i < nl
        · have hlt1 : (i : Int) < (nl : Int) := by omega
          obtain ⟨g, o, rfl⟩ := OVU.out.lg.ens.some_at (by rw [HNL.out]; omega)
          obtain ⟨e0, cs, hbc, hcl⟩ := hR.out g rfl
          injection e0 with e0
          injection e0 with _ e0 _
          subst e0
          obtain ⟨u0, hu0⟩ : ∃ u, cs[i * 2]? = some u := ⟨cs[i * 2], List.getElem?_eq_getElem (by omega)⟩
          obtain ⟨u1, hu1⟩ : ∃ u, cs[i * 2 + 1]? = some u := ⟨cs[i * 2 + 1], List.getElem?_eq_getElem (by omega)⟩
          have c0' : wr.cell? ⟨g, i * 2, none⟩ = some u0 := (hbc.cell (i * 2)).trans hu0
          have c1' : wr.cell? ⟨g, i * 2 + 1, none⟩ = some u1 := (hbc.cell (i * 2 + 1)).trans hu1
          have z0' := hbc.fz (i * 2)
          have z1' := hbc.fz (i * 2 + 1)
          have hT2 := Lib.hid ((hT.out.set ⟨g, i * 2, none⟩ (.int .i64 99) (fun _ => rfl)).set ⟨g, i * 2 + 1, none⟩ (.string ⟨#[119, 114, 105, 116, 116, 101, 110, 32, 111, 118, 101, 114]⟩) (fun _ => rfl))
          have hR2 := Lib.hid ((hR.out.set (g := g) rfl (i * 2) (.int .i64 99)).set (g := g) rfl (i * 2 + 1) (.string ⟨#[119, 114, 105, 116, 116, 101, 110, 32, 111, 118, 101, 114]⟩))
          clear hbc hcl hu0 hu1
          go_wp2_with fail
          refine ⟨⟨i + 1, by omega, by simp, hT2, hR2⟩, ?_⟩
          simp [intOf]; omega
        · obtain rfl : i = nl := by omega
          have hEA : Hid (∀ q, A2.map Addr.block = some q → IsEn U q) := Lib.hid (fun q hq => OVU.out.is q hq)
          have DU := Lib.hid (DS.keep D1.out TXU.out (show ¬ d = x from fun e => HNE.out.1 e.symm) (show ¬ F = x from fun e => HNE.out.2.1 e.symm) (fun q cur hq _ e => IsU8.ne ⟨cur, hq⟩ X1.out (by decide) e))
          have DW := Lib.hid (DS.keep DU.out hT.out (fun e => (hEA.out _ e).ne (DS.blk DU.out) (by decide) rfl) (fun e => by
            obtain ⟨cur, hc⟩ := hEA.out _ e
            obtain ⟨mv, n, _, hm, _⟩ := DS.files DU.out
            exact hm.ne_cells hc rfl) (fun q cur hq _ e => (hEA.out _ e).ne8 ⟨cur, hq⟩ rfl))
          have XW := Lib.hid (XU.out.turns hT.out (fun e => (hEA.out _ e).ne XU.out (by decide) rfl))
          have WW := Lib.hid (WU.out.turns hT.out (fun e => (hEA.out _ e).ne WU.out (by decide) rfl))
          have LW := Lib.hid (O9U.out.lg.over hT.out (fun _ q hq e => by
            have h1 := O9.out.ge q hq
            have h2 := ((Array.getElem?_eq_some_iff.1 ((OV.out.is q e).choose_spec)).1)
            omega))
          have MW := Lib.hid (MU.out.over hT.out (fun h0 q hq e => by
            have h1 := HAH.out h0 q hq
            have h2 := HGE.out q e
            omega))
          have HTD := Lib.hid (tidy_any wr x d F (N + 5) wl rd DW.out hN'.out.2 (by omega) s' A9 c9 _ _ _ false XW.out LW.out false A c sz WW.out MW.out hN'.out.1 HC'.out)
          go_wp2_with fail
          refine HTD.out.mono ?_
          rintro e V9 ⟨rfl, hb9⟩
          have BZ := Lib.hid hb9
          clear hb9
          go_wp2_with fail
          go_ret
          refine ⟨rfl, ?_, .inl ⟨rd, s', wl, ⟨⟨HR.out.lo.1, HR.out.lo.2.1, HR.out.lo.2.2, by omega⟩, DS.bel DW.out BZ.out, hN'.out.2, ⟨A9, c9, _, _, _, XW.out.bel BZ.out, LW.out.bel BZ.out⟩, ⟨A, c, sz, WW.out.bel BZ.out, MW.out.bel BZ.out, hN'.out.1⟩, HC'.out⟩, HTOLD.out, hwl, fun hl => (HLIT.out hl).2⟩⟩
          refine ((T1.out.mono (T := XSet x d F) (fun i _ e => by rcases e with e | e; exact .inr (.inl e); exact .inr (.inr e))).then (TXU.out.mono (fun i _ e => .inl e))).trans (hT.out.then (Turns.of_below BZ.out)) (fun q hq e => ?_)
          have h2 := HGE.out q e
          omega
    · have hps : per = some s' := by
        rcases HTOLD.out with e | e
        · exact absurd e he
        · exact e
      obtain ⟨rfl, rfl, Bp, ep, rfl, _⟩ := HP.out s' hps
      have LP := Lib.hid (show Lg Y Bp s'.log.length ep s'.log from by
        obtain ⟨_, _, B', e', h3, h4⟩ := PY.out s' hps
        injection h3 with g1 g2 g3
        subst g1 g3
        exact h4)
      have HSM : Hid (∀ p : BelowW Y, Calls Tryz.prog 15 #[.agg #[.int .i64 s'.term, .int .i64 s'.vote, .slice A2 s'.log.length c2], .agg #[.int .i64 s.term, .int .i64 s.vote, .slice A0 s.log.length c0]] p.w fun e w' => e = .returned (.bool false) ∧ Below p.w.heap.size p.w w') := Lib.hid (fun p => (same_any p.w A2 A0 _ c2 _ c0 s' s (LS.out.bel p.h) (LY.out.bel p.h)).mono (fun e w' h => ⟨by rw [h.1, decide_eq_false he], h.2⟩))
      have HSM2 : Hid (∀ p : BelowW Y, Calls Tryz.prog 15 #[.agg #[.int .i64 s'.term, .int .i64 s'.vote, .slice A2 s'.log.length c2], .agg #[.int .i64 s'.term, .int .i64 s'.vote, .slice Bp s'.log.length ep]] p.w fun e w' => e = .returned (.bool true) ∧ Below p.w.heap.size p.w w') := Lib.hid (fun p => (same_any p.w A2 Bp _ c2 _ ep s' s' (LS.out.bel p.h) (LP.out.bel p.h)).mono (fun e w' h => ⟨by rw [h.1]; simp, h.2⟩))
      have q5 : Y.cell? ⟨x, 5, none⟩ = some (.int .i64 s'.term) := XY.out.cell 5
      have q6 : Y.cell? ⟨x, 6, none⟩ = some (.int .i64 s'.vote) := XY.out.cell 6
      have q7 : Y.cell? ⟨x, 7, none⟩ = some (.slice Bp s'.log.length ep) := XY.out.cell 7
      have q8 : Y.cell? ⟨x, 8, none⟩ = some (.bool true) := by rw [XY.out.cell 8, hps]; rfl
      have qq5 := fun p : BelowW Y => (p.h.cell (World.block_lt_of_cell? Y _ q5)).trans q5
      have qq6 := fun p : BelowW Y => (p.h.cell (World.block_lt_of_cell? Y _ q6)).trans q6
      have qq7 := fun p : BelowW Y => (p.h.cell (World.block_lt_of_cell? Y _ q7)).trans q7
      have qq8 := fun p : BelowW Y => (p.h.cell (World.block_lt_of_cell? Y _ q8)).trans q8
      clear he hps
      go_wp2_with fail
      refine wp_region_quiet_below (by kernel_rfl) (by kernel_rfl) ?_
      iterate 7 (go_big_quiet_step ((go_at_call 15; exact Calls.below_of (HSM.out _))))
      iterate 16 (go_big_quiet_step ((go_at_call 15; exact Calls.below_of (HSM2.out _))))
      refine wpQuiet_nil ?_
      intro V hw'
      have BV := Lib.hid (belowW_out hw')
      clear hw' qk0 qk1 qk2 qq2 qq3 qq4 qq5 qq6 qq7 qq8 q5 q6 q7 q8 k0 k1 k2 q2 q3 q4 HSM HSM2
      have KSV := Lib.hid (KS.out.bel BV.out)
      have XV := Lib.hid (XY.out.bel BV.out)
      have OV := Lib.hid (OY.out.bel BV.out)
      have WV := Lib.hid (WY.out.bel BV.out)
      have MV := Lib.hid (MY.out.bel BV.out)
      have HCP := copy_any V A2 s'.log.length c2 s' OV.out.lg (by have := HC'.out.len; omega)
      unfold SavedY svV at HCP
      have HCP := Lib.hid HCP
      have k0 : V.cell? ⟨z, 0, none⟩ = some (.int .i64 s'.term) := KSV.out.cell 0
      have k1 : V.cell? ⟨z, 1, none⟩ = some (.int .i64 s'.vote) := KSV.out.cell 1
      have k2 : V.cell? ⟨z, 2, none⟩ = some (.slice A2 s'.log.length c2) := KSV.out.cell 2
      go_wp2_with fail
      refine HCP.out.mono ?_
      rintro e V1 ⟨A9, c9, rfl, ho9, hb9⟩
      have O9 := Lib.hid ho9
      have B9 := Lib.hid hb9
      have KS1 := Lib.hid (KSV.out.bel hb9)
      have X9 := Lib.hid (XV.out.bel hb9)
      clear ho9 hb9 HCP k0 k1 k2
      have q2 : V1.cell? ⟨x, 2, none⟩ = some (.int .i64 s.term) := X9.out.cell 2
      have q3 : V1.cell? ⟨x, 3, none⟩ = some (.int .i64 s.vote) := X9.out.cell 3
      have q4 : V1.cell? ⟨x, 4, none⟩ = some (.slice A0 s.log.length c0) := X9.out.cell 4
      have q8 : V1.cell? ⟨x, 8, none⟩ = some (.bool per.isSome) := X9.out.cell 8
      have f2 := X9.out.fz 2
      have f3 := X9.out.fz 3
      have f4 := X9.out.fz 4
      have f8 := X9.out.fz 8
      go_upto_region 11 with (fail)
      have TU := Lib.hid (turns_x4 V1 x (.int .i64 s'.term) (.int .i64 s'.vote) (.slice A9 s'.log.length c9) (.bool false))
      have XU := Lib.hid ((((X9.out.set 2 (.int .i64 s'.term)).set 3 (.int .i64 s'.vote)).set 4 (.slice A9 s'.log.length c9)).set 8 (.bool false))
      generalize ((((V1.setCell ⟨x, 2, none⟩ (.int .i64 s'.term)).setCell ⟨x, 3, none⟩ (.int .i64 s'.vote)).setCell ⟨x, 4, none⟩ (.slice A9 s'.log.length c9)).setCell ⟨x, 8, none⟩ (.bool false)) = U at *
      have EX : Hid (∀ g, IsEn V1 g → ¬ g = x) := Lib.hid (fun g hg e => hg.ne X9.out (by decide) e)
      have KSU := Lib.hid (KS1.out.turns TU.out (show ¬ z = x by omega))
      have OVU := Lib.hid ((OV.out.bel B9.out).keep TU.out (fun g hg => EX.out g ((OV.out.bel B9.out).is g hg)))
      have O9U := Lib.hid (O9.out.keep TU.out (fun g hg => EX.out g (O9.out.is g hg)))
      have WU := Lib.hid ((WV.out.bel B9.out).turns TU.out (show ¬ wl = x by omega))
      have MU := Lib.hid ((MV.out.bel B9.out).keep TU.out (fun g cs hg _ => EX.out g ⟨cs, hg⟩))
      have RU := Lib.hid OVU.out.rowE
      have TXU := Lib.hid (TYx.out.then ((Turns.of_below (S := fun i => i = x) BV.out).then ((Turns.of_below (S := fun i => i = x) B9.out).then TU.out)))
      have T1U := Lib.hid ((Turns.of_below (S := XSet x d F) BV.out).then ((Turns.of_below (S := XSet x d F) B9.out).then (TU.out.mono (fun i _ e => .inl e))))
      clear q2 q3 q4 q8 f2 f3 f4 f8
      have k2 : U.cell? ⟨z, 2, none⟩ = some (.slice A2 s'.log.length c2) := KSU.out.cell 2
      obtain ⟨nl, hnl⟩ : ∃ m, s'.log.length = m := ⟨_, rfl⟩
      have HNL := Lib.hid hnl
      have hnlI : (nl : Int) ≤ 4096 := by have := HC'.out.len; omega
      rw [hnl] at k2 RU
      clear hnl
      go_wp2_with fail
      go_loopw [6] (fun iv wr => ∃ i : Nat, i ≤ nl ∧ iv = .int .i64 (i : Int) ∧ Hid (Turns (fun q => A2.map Addr.block = some q) U wr) ∧ Hid (RowE wr A2 nl)) (fun iv _ => nl - (intOf iv).toNat)
      case atStart => exact ⟨0, by omega, rfl, Lib.hid (Turns.refl _ _), RU⟩
      case round =>
        obtain ⟨i, hi, rfl, hT, hR⟩ := hrel
        have KW := Lib.hid (KSU.out.turns hT.out (fun e => IsEn.ne (OVU.out.is z e) KSU.out (by decide) rfl))
        have k2' : wr.cell? ⟨z, 2, none⟩ = some (.slice A2 nl c2) := by rw [← HNL.out]; exact KW.out.cell 2
        by_cases hlt : i < nl
        · have hlt1 : (i : Int) < (nl : Int) := by omega
          obtain ⟨g, o, rfl⟩ := OVU.out.lg.ens.some_at (by rw [HNL.out]; omega)
          obtain ⟨e0, cs, hbc, hcl⟩ := hR.out g rfl
          injection e0 with e0
          injection e0 with _ e0 _
          subst e0
          obtain ⟨u0, hu0⟩ : ∃ u, cs[i * 2]? = some u := ⟨cs[i * 2], List.getElem?_eq_getElem (by omega)⟩
          obtain ⟨u1, hu1⟩ : ∃ u, cs[i * 2 + 1]? = some u := ⟨cs[i * 2 + 1], List.getElem?_eq_getElem (by omega)⟩
          have c0' : wr.cell? ⟨g, i * 2, none⟩ = some u0 := (hbc.cell (i * 2)).trans hu0
          have c1' : wr.cell? ⟨g, i * 2 + 1, none⟩ = some u1 := (hbc.cell (i * 2 + 1)).trans hu1
          have z0' := hbc.fz (i * 2)
          have z1' := hbc.fz (i * 2 + 1)
          have hT2 := Lib.hid ((hT.out.set ⟨g, i * 2, none⟩ (.int .i64 99) (fun _ => rfl)).set ⟨g, i * 2 + 1, none⟩ (.string ⟨#[119, 114, 105, 116, 116, 101, 110, 32, 111, 118, 101, 114]⟩) (fun _ => rfl))
          have hR2 := Lib.hid ((hR.out.set (g := g) rfl (i * 2) (.int .i64 99)).set (g := g) rfl (i * 2 + 1) (.string ⟨#[119, 114, 105, 116, 116, 101, 110, 32, 111, 118, 101, 114]⟩))
          clear hbc hcl hu0 hu1
          go_wp2_with fail
          refine ⟨⟨i + 1, by omega, by simp, hT2, hR2⟩, ?_⟩
          simp [intOf]; omega
        · obtain rfl : i = nl := by omega
          have hEA : Hid (∀ q, A2.map Addr.block = some q → IsEn U q) := Lib.hid (fun q hq => OVU.out.is q hq)
          have DU := Lib.hid (DS.keep D1.out TXU.out (show ¬ d = x from fun e => HNE.out.1 e.symm) (show ¬ F = x from fun e => HNE.out.2.1 e.symm) (fun q cur hq _ e => IsU8.ne ⟨cur, hq⟩ X1.out (by decide) e))
          have DW := Lib.hid (DS.keep DU.out hT.out (fun e => (hEA.out _ e).ne (DS.blk DU.out) (by decide) rfl) (fun e => by
            obtain ⟨cur, hc⟩ := hEA.out _ e
            obtain ⟨mv, n, _, hm, _⟩ := DS.files DU.out
            exact hm.ne_cells hc rfl) (fun q cur hq _ e => (hEA.out _ e).ne8 ⟨cur, hq⟩ rfl))
          have XW := Lib.hid (XU.out.turns hT.out (fun e => (hEA.out _ e).ne XU.out (by decide) rfl))
          have WW := Lib.hid (WU.out.turns hT.out (fun e => (hEA.out _ e).ne WU.out (by decide) rfl))
          have LW := Lib.hid (O9U.out.lg.over hT.out (fun _ q hq e => by
            have h1 := O9.out.ge q hq
            have h2 := ((Array.getElem?_eq_some_iff.1 ((OV.out.is q e).choose_spec)).1)
            omega))
          have MW := Lib.hid (MU.out.over hT.out (fun h0 q hq e => by
            have h1 := HAH.out h0 q hq
            have h2 := HGE.out q e
            omega))
          have HTD := Lib.hid (tidy_any wr x d F (N + 5) wl rd DW.out hN'.out.2 (by omega) s' A9 c9 _ _ _ false XW.out LW.out false A c sz WW.out MW.out hN'.out.1 HC'.out)
          go_wp2_with fail
          refine HTD.out.mono ?_
          rintro e V9 ⟨rfl, hb9⟩
          have BZ := Lib.hid hb9
          clear hb9
          go_wp2_with fail
          go_ret
          refine ⟨rfl, ?_, .inl ⟨rd, s', wl, ⟨⟨HR.out.lo.1, HR.out.lo.2.1, HR.out.lo.2.2, by omega⟩, DS.bel DW.out BZ.out, hN'.out.2, ⟨A9, c9, _, _, _, XW.out.bel BZ.out, LW.out.bel BZ.out⟩, ⟨A, c, sz, WW.out.bel BZ.out, MW.out.bel BZ.out, hN'.out.1⟩, HC'.out⟩, HTOLD.out, hwl, fun hl => (HLIT.out hl).2⟩⟩
          refine ((T1.out.mono (T := XSet x d F) (fun i _ e => by rcases e with e | e; exact .inr (.inl e); exact .inr (.inr e))).then (TXU.out.mono (fun i _ e => .inl e))).trans (hT.out.then (Turns.of_below BZ.out)) (fun q hq e => ?_)
          have h2 := HGE.out q e
          omega
  · have h250 : rc = 250 ∧ rd.off = true ∧ Good (Told s per) 2000000 rd.p := by
      rcases HCASE.out with q | q
      · exact absurd q.1 hr0
      · exact q
    obtain ⟨rfl, hoff2, hgood⟩ := h250
    have HOF2 := Lib.hid hoff2
    have HGD := Lib.hid hgood
    have HNL := Lib.hid (show ¬ Lit dk from fun hl => absurd (HLIT.out hl).1 (by decide))
    clear HCASE hoff2 hgood HLIT hr0
    unfold svV
    obtain ⟨z, hz⟩ : ∃ z, W1.heap.size = z := ⟨_, rfl⟩
    have KS0 := Lib.hid (Blk.new W1 27 [.int .i64 0, .int .i64 0, .slice none 0 0])
    have XY0 := Lib.hid (X1.out.alloc (.cells #[.int .i64 0, .int .i64 0, .slice none 0 0] 27))
    have TY0x := Lib.hid (Turns.alloc (Turns.refl (fun i => i = x) W1) (.cells #[.int .i64 0, .int .i64 0, .slice none 0 0] 27))
    have hxz : x < z := by have := X1.out.lt; omega
    go_upto_region 2 with (fail)
    rw [hz] at KS0 hsz1
    clear hz
    generalize (W1.alloc (.cells #[.int .i64 0, .int .i64 0, .slice none 0 0] 27)) = Y0 at *
    have KS := Lib.hid (KS0.out.far (p := ⟨x, 1, none⟩) (show z ≠ x by omega) (.pointer none))
    have XY := Lib.hid (XY0.out.set 1 (.pointer none))
    have TYx := Lib.hid (Turns.set (S := fun i => i = x) TY0x.out ⟨x, 1, none⟩ (.pointer none) (fun _ => rfl))
    have xc1 : Y0.cell? ⟨x, 1, none⟩ = some (.pointer wv) := XY0.out.cell 1
    have xf1 := XY0.out.fz 1
    go_upto_region 3 with (fail)
    clear xc1 xf1
    generalize (Y0.setCell ⟨x, 1, none⟩ (.pointer none)) = Y at *
    have DY := Lib.hid (DS.keep D1.out TYx.out (show ¬ d = x from fun e => HNE.out.1 e.symm) (show ¬ F = x from fun e => HNE.out.2.1 e.symm) (fun q cur hq _ e => IsU8.ne ⟨cur, hq⟩ X1.out (by decide) e))
    have EX : Hid (∀ g, IsEn W1 g → ¬ g = x) := Lib.hid (fun g hg e => hg.ne X1.out (by decide) e)
    have LY := Lib.hid (L1.out.keep TYx.out (fun g cs hg _ => EX.out g ⟨cs, hg⟩))
    have PY := Lib.hid (P1.out.keep TYx.out EX.out)
    have HO := offD Y d F (N + 5) rd.off rd.fuse rd.p DY.out
    rw [HOF2.out] at HO
    have HO := Lib.hid HO
    have HSM := Lib.hid (show Calls Tryz.prog 15 #[.agg #[.int .i64 0, .int .i64 0, .slice none 0 0], .agg #[.int .i64 0, .int .i64 0, .slice none 0 0]] Y (fun e w' => e = .returned (.bool true) ∧ Below Y.heap.size Y w') from (same_any Y none none 0 0 0 0 ⟨0, 0, []⟩ ⟨0, 0, []⟩ (.none _) (.none _)).mono (fun e w' h => ⟨by rw [h.1]; rfl, h.2⟩))
    have k0 : Y.cell? ⟨z, 0, none⟩ = some (.int .i64 0) := KS.out.cell 0
    have k1 : Y.cell? ⟨z, 1, none⟩ = some (.int .i64 0) := KS.out.cell 1
    have k2 : Y.cell? ⟨z, 2, none⟩ = some (.slice none 0 0) := KS.out.cell 2
    have q0 : Y.cell? ⟨x, 0, none⟩ = some (.pointer (some ⟨d, 0, none⟩)) := XY.out.cell 0
    go_wp2_with fail
    refine HO.out.mono ?_
    rintro e W5 ⟨rfl, rfl⟩
    go_wp2_with fail
    refine HSM.out.mono ?_
    rintro e W6 ⟨rfl, hb6⟩
    have B6 := Lib.hid hb6
    clear hb6
    go_wp2_with fail
    go_ret
    refine ⟨rfl, ?_, .inr ⟨rd, ⟨HR.out.lo, DS.bel DY.out B6.out, HOF2.out, HGD.out, ⟨A0, c0, p5, p6, p7, XY.out.bel B6.out, LY.out.bel B6.out, PY.out.keep (.of_below (S := fun _ => False) B6.out) (fun _ _ => id)⟩, HR.out.cap⟩, HNL.out⟩⟩
    exact ((T1.out.mono (T := XSet x d F) (fun i _ e => by rcases e with e | e; exact .inr (.inl e); exact .inr (.inr e))).then (TYx.out.mono (fun i _ e => .inl e))).then (Turns.of_below B6.out)
end Go.Proofs.YteihedfmmiihiaaGreat

namespace Go.Proofs.YteihedfmmiihiaaGreat
open Go.RowKit Go.Maps Go.Sort Go.Shelf

/-- no wal is open: nothing is kept -/
theorem keep_b (w : World) (H x d F N : Nat) (dk : Dk) (s : Sv) (per : Option Sv) (h : BX w H x d F N dk s per) (t v : Int) (A : Option Addr) (n c : Nat) :
    Calls Tryz.prog 8 #[.pointer (some ⟨x, 0, none⟩), svV t v A n c] w fun e w' => e = .returned (.bool true) ∧ Below w.heap.size w w' := by
  obtain ⟨A0, c0, p5, p6, p7, hb, _⟩ := h.blk
  have B0 := Lib.hid (Below.new w (.cells #[.int .i64 t, .int .i64 v, .slice A n c] 27))
  have q1 : w.cell? ⟨x, 1, none⟩ = some (.pointer none) := hb.cell 1
  have hlt := hb.lt
  clear h hb
  unfold svV
  go_enter Tryz.func8, Tryz.ntmps8
  go_wp2_with fail
  go_ret
  exact ⟨rfl, B0.out⟩
/-- no wal is open on a dark disk: opened once more it tells so -/
theorem dark_b (w : World) (H x d F N : Nat) (dk : Dk) (s : Sv) (per : Option Sv) (h : BX w H x d F N dk s per) :
    Calls Tryz.prog 17 #[.pointer (some ⟨d, 0, none⟩)] w fun e w' => e = .returned (.tuple #[.pointer none, svV 0 0 none 0 0, .int .i64 250]) ∧ Below w.heap.size w w' :=
  open_off w d F N dk h.is h.off (by have := h.good.short.1; omega)
theorem BX.bel {w w' : World} {H x d F N : Nat} {dk : Dk} {s : Sv} {per : Option Sv} (h : BX w H x d F N dk s per) (k : Below w.heap.size w w') : BX w' H x d F N dk s per := by
  obtain ⟨A, c, p5, p6, p7, hb, hl, hp⟩ := h.blk
  exact ⟨h.lo, DS.bel h.is k, h.off, h.good, ⟨A, c, p5, p6, p7, hb.bel k, hl.bel k, hp.keep (.of_below (S := fun _ => False) k) (fun _ _ => id)⟩, h.cap⟩
theorem AX.bel {w w' : World} {H x d F N : Nat} {dk : Dk} {s : Sv} {wl : Nat} (h : AX w H x d F N dk s wl) (k : Below w.heap.size w w') : AX w' H x d F N dk s wl := by
  obtain ⟨A, c, p5, p6, p7, hb, hl⟩ := h.blk
  obtain ⟨A2, c2, size, hw, hl2, ht⟩ := h.wal
  exact ⟨h.lo, DS.bel h.is k, h.off, ⟨A, c, p5, p6, p7, hb.bel k, hl.bel k⟩, ⟨A2, c2, size, hw.bel k, hl2.bel k, ht⟩, h.cap⟩
end Go.Proofs.YteihedfmmiihiaaGreat
