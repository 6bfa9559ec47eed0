/- WmH: texts of wal, merged (a claim may hold few texts) -/
import Derived.Test.YteihedfmmiihiaaGreatWmG
import Derived.Laws.Externs
import Derived.Laws.Cover3
namespace Go.Proofs.YteihedfmmiihiaaGreat
open Go.RowKit
variable {Xs : Nat → Prop}

theorem u8_far {W : World} {d F N wl : Nat} {dk : Dk} {cs : List Value} (h : dk.Is Xs W d F N) (hw : Blk W wl 41 cs) : ∀ g, IsU8 W g → ¬ AnS d F wl g := fun g hg e => by
  rcases e with e | e | e
  · exact hg.ne (DS.blk h) (by decide) e
  · subst e
    obtain ⟨cur, hc⟩ := hg
    obtain ⟨mv, n, _, hm, _⟩ := DS.files h
    exact hm.ne_cells hc rfl
  · exact hg.ne hw (by decide) e
def moF : Nat → FuncId
  | 0 => 63
  | 1 => 64
  | _ => 65
def moC (g g5 : Nat) : Nat → Array Value
  | 0 => #[.pointer (some ⟨g, 0, none⟩), .pointer (some ⟨g5, 0, none⟩)]
  | 1 => #[.pointer (some ⟨g, 0, none⟩)]
  | _ => #[.pointer (some ⟨g, 0, none⟩), .pointer (some ⟨g5, 0, none⟩)]
theorem moEnt (g g5 : Nat) : ∀ i, i < 3 → Enters (moF i) (moC g g5 i) := fun i hi => by
  match i, hi with
  | 0, _ => exact fun w => enters_of Tryz.func63 (by kernel_rfl) rfl _ w
  | 1, _ => exact fun w => enters_of Tryz.func64 (by kernel_rfl) rfl _ w
  | 2, _ => exact fun w => enters_of Tryz.func65 (by kernel_rfl) rfl _ w
def moRow (g g5 : Nat) : List Value := [.func (.func 63) #[] #[.pointer (some ⟨g, 0, none⟩), .pointer (some ⟨g5, 0, none⟩)], .func (.func 64) #[] #[.pointer (some ⟨g, 0, none⟩)], .func (.func 65) #[] #[.pointer (some ⟨g, 0, none⟩), .pointer (some ⟨g5, 0, none⟩)]]
theorem mo_chain (Z : World) (d F N wl : Nat) (dk : Dk) (hd : dk.Is Xs Z d F N) (hxs : ∀ g, Xs g → g < Z.heap.size) (t v : Int) (sl : Value) (dn : Bool) (sz : Nat) (hb : Blk Z wl 41 (walC d t v sl dn sz)) (H g g5 g6 : Nat) (hlt : d < H ∧ F < H ∧ wl < H) (hge : H ≤ g ∧ H ≤ g5 ∧ H ≤ g6)
    (h2 : Blk Z g 33 [.pointer (some ⟨wl, 0, none⟩)]) (A : Option Addr) (c : Nat) (B : List UInt8) (h5 : Blk Z g5 30 [.slice A B.length c]) (hB : Rb Z A c B) (hBl : (pl dk.p kW).1.length + B.length ≤ 100000000) (hsz : sz ≤ 100000000) (h6 : Blk Z g6 77 (moRow g g5)) (hne : wl ≠ d ∧ wl ≠ F) :
    Calls Tryz.prog 56 #[.slice (some ⟨g6, 0, none⟩) 3 3] Z (ChainY 3 (AnJ (moSt dk B) (moCd dk B) Xs d F N wl t v sl dn sz (sz + B.length) 3 Z) (AnX (moSt dk B) (moCd dk B) Xs d F N wl t v sl dn sz 3 Z)) := by
  have hfar := u8_far hd hb
  refine chain_any g6 3 3 (by omega) moF (moC g g5) _ _ (moEnt g g5) ?_ ?_ Z ⟨fun k hk => absurd hk (Nat.not_lt_zero _), hd, by rw [if_neg (by decide)]; exact hb, Turns.refl _ _⟩
  · intro i W hJ k hk
    have := h6.turns hJ.tr (anS_of hlt hge.2.2)
    rw [this.cell k]
    match k, hk with
    | 0, _ => rfl
    | 1, _ => rfl
    | 2, _ => rfl
  · intro i hi W hJ
    have M2 := h2.turns hJ.tr (anS_of hlt hge.1)
    have M5 := h5.turns hJ.tr (anS_of hlt hge.2.1)
    have MB := hB.keep hJ.tr hfar
    have hw := hJ.wal
    rw [if_neg (by omega)] at hw
    match i, hi with
    | 0, _ =>
      refine (mo1 W g g5 wl d F (N + 0) _ hJ.ds M2 A c B M5 MB.inn.bs MB.inn.cap_le.1 hBl (fun g hg => Nat.lt_of_lt_of_le (hxs g hg) hJ.tr.size) t v sl dn sz hw).mono ?_
      rintro e w' ⟨he, h1, h2⟩
      exact hJ.step (by omega) he rfl (DS.wide h1 (by omega)) h2 hne
    | 1, _ =>
      refine (mo2 W g wl d F (N + 1) _ hJ.ds M2 t v sl dn sz hw).mono ?_
      rintro e w' ⟨he, h1, h2⟩
      exact hJ.step (by omega) he rfl (DS.wide h1 (by omega)) h2 hne
    | 2, _ =>
      refine (mo3 W g g5 wl d M2 A c B.length M5 t v sl dn sz (by omega) hw).mono ?_
      rintro e w' ⟨he, h1, h2⟩
      exact hJ.last (by omega) he rfl rfl h1 h2 hne (fun q cur hq e => IsU8.ne ⟨cur, hq⟩ hw (by decide) e)
theorem mo_end {Z W : World} {d F N wl sz : Nat} {dk : Dk} {B : List UInt8} {t v : Int} {sl : Value} {dn : Bool} {e : Ending} (h : ChainY 3 (AnJ (moSt dk B) (moCd dk B) Xs d F N wl t v sl dn sz (sz + B.length) 3 Z) (AnX (moSt dk B) (moCd dk B) Xs d F N wl t v sl dn sz 3 Z) e W) :
    WroteY Xs Z d F N wl t v sl dn sz (sz + B.length) (moreR dk B) e W := by
  obtain ⟨c, rfl, ⟨rfl, hj⟩ | ⟨hc, i, hi, h1, h2, h3, h4, h5⟩⟩ := h
  · rw [moreR_ok dk B hj.ok]
    have := hj.wal
    rw [if_pos rfl] at this
    exact ⟨rfl, DS.wide hj.ds (by omega), by rw [if_pos rfl]; exact this, hj.tr⟩
  · rw [moreR_bad dk B i hi h1 (by rw [h2]; exact hc)]
    refine ⟨by rw [h2], DS.wide h3 (by omega), ?_, h5⟩
    rw [if_neg (by rw [h2]; exact hc)]
    exact h4
set_option maxRecDepth 20000 in
set_option maxHeartbeats 4000000 in
theorem more_any (w : World) (d F N wl : Nat) (dk : Dk) (hd : dk.Is Xs w d F N) (hxs : ∀ g, Xs g → g < w.heap.size) (t v : Int) (sl : Value) (dn : Bool) (sz : Nat) (hb : Blk w wl 41 (walC d t v sl dn sz)) (A : Option Addr) (c : Nat) (B : List UInt8) (hB : Rb w A c B) (hBl : (pl dk.p kW).1.length + B.length ≤ 100000000) (hsz : sz ≤ 100000000) :
    Calls Tryz.prog 33 #[.pointer (some ⟨wl, 0, none⟩), .slice A B.length c] w (WroteY Xs w d F N wl t v sl dn sz (sz + B.length) (moreR dk B)) := by
  have B0 := Lib.hid (Below.new2 w (.cells #[.pointer (some ⟨wl, 0, none⟩)] 33) (.cells #[.slice A B.length c] 30))
  have K2 := Lib.hid ((Blk.new w 33 [.pointer (some ⟨wl, 0, none⟩)]).alloc (.cells #[.slice A B.length c] 30))
  have K3 := Lib.hid (Blk.new2 w (.cells #[.pointer (some ⟨wl, 0, none⟩)] 33) 30 [.slice A B.length c])
  have HG5 : Hid (((w.alloc (.cells #[.pointer (some ⟨wl, 0, none⟩)] 33)).alloc (.cells #[.slice A B.length c] 30)).heap.size = w.heap.size + 2) := Lib.hid (by simp)
  have HD := Lib.hid hd
  have HB := Lib.hid hb
  have HRB := Lib.hid hB
  have HXS := Lib.hid hxs
  have HBL := Lib.hid hBl
  have HSZ := Lib.hid hsz
  have hlts := hd.lts
  have hwl := hb.lt
  clear hd hb hB hxs hBl hsz
  go_enter Tryz.func33, Tryz.ntmps33
  go_upto_region 1 with (fail)
  generalize ((w.alloc (.cells #[.pointer (some ⟨wl, 0, none⟩)] 33)).alloc (.cells #[.slice A B.length c] 30)) = Y at *
  have HB0 : Hid (Below w.heap.size w Y) := B0
  generalize hg : w.heap.size = g at *
  have K6 := Lib.hid (Blk.new Y 77 (moRow g (g + 1)))
  rw [HG5.out] at K6
  have BZ := Lib.hid (Below.new Y (.cells (moRow g (g + 1)).toArray 77))
  obtain ⟨Z, hZ⟩ : ∃ Z, Y.alloc (.cells (moRow g (g + 1)).toArray 77) = Z := ⟨_, rfl⟩
  rw [hZ] at K6 BZ
  have HWZ : Hid (Below g w Z) := Lib.hid (HB0.out.trans (BZ.out.mono (by have := HG5.out; omega)))
  have HT0 : Hid (Turns (fun i => g ≤ i) w Z) := Lib.hid ⟨HWZ.out.os, HWZ.out.tape, HWZ.out.output, HWZ.out.size, fun i _ hn => HWZ.out.block i (by omega)⟩
  have Q1 : Hid (dk.Is Xs Z d F N) := Lib.hid (DS.keep HD.out HT0.out (by omega) (by omega) (fun q cur hq _ => by have := (Array.getElem?_eq_some_iff.1 hq).1; omega))
  have Q2 : Hid (∀ q, Xs q → q < Z.heap.size) := Lib.hid (fun q hq => by have h1 := HXS.out q hq; have h2 := HWZ.out.size; omega)
  have Q3 : Hid (Blk Z wl 41 (walC d t v sl dn sz)) := Lib.hid (HB.out.turns HT0.out (by omega))
  have Q4 : Hid (Blk Z g 33 [.pointer (some ⟨wl, 0, none⟩)]) := Lib.hid (K2.out.bel BZ.out)
  have Q5 : Hid (Blk Z (g + 1) 30 [.slice A B.length c]) := Lib.hid (K3.out.bel BZ.out)
  have Q6 : Hid (Rb Z A c B) := Lib.hid (HRB.out.keep HT0.out (fun q hq => by obtain ⟨cur, hc⟩ := hq; have := (Array.getElem?_eq_some_iff.1 hc).1; omega))
  have Q7 : Hid (wl ≠ d ∧ wl ≠ F) := Lib.hid ⟨fun e => by have h1 := HB.out; rw [e] at h1; exact no_wal HD.out h1, fun e => by have h1 := HB.out; rw [e] at h1; exact no_wal2 HD.out h1⟩
  have HCH := Lib.hid (mo_chain (Xs := Xs) Z d F N wl dk Q1.out Q2.out t v sl dn sz Q3.out g g (g + 1) (g + 2) (by omega) (by omega) Q4.out A c B Q5.out Q6.out HBL.out HSZ.out K6.out Q7.out)
  unfold moRow at hZ
  clear K6 hlts hwl
  go_wp2_with fail
  rw [HG5.out]
  refine HCH.out.mono ?_
  rintro e W hch
  obtain ⟨rfl, h1, h2, h3⟩ := mo_end hch
  have H1 := Lib.hid h1
  have H2 := Lib.hid h2
  have H3 : Hid (Turns (AnS d F wl) w W) := Lib.hid (((HT0.out.mono (T := fun _ => False) (fun i hi e => by omega)).mono (T := AnS d F wl) (fun _ _ e => e.elim)).then h3)
  clear hch h1 h2 h3 HCH
  go_wp2_with fail
  go_ret
  exact ⟨rfl, H1.out, H2.out, H3.out⟩
end Go.Proofs.YteihedfmmiihiaaGreat

namespace Go.Proofs.YteihedfmmiihiaaGreat
open Go.RowKit Go.Maps Go.Sort Go.Shelf

theorem eql_nilE (w : World) (a : Option Addr) (l c : Nat) : (binOp .eql 25 (.slice a l c) (.slice none 0 0)).run Tryz.prog w = .ok (.bool a.isNone) w := by
  simp only [binOp]
  simp [run_equal_slice_nil w 25 _ a l c Tryz.underlying25]
def CloneE (w : World) (L : List En) (e : Ending) (w' : World) : Prop := ∃ A c, e = .returned (.slice A L.length c) ∧ OwnE w' w.heap.size A c L ∧ Below w.heap.size w w'
set_option maxRecDepth 20000 in
set_option maxHeartbeats 1000000 in
theorem clone_en (w : World) (A : Option Addr) (n c : Nat) (L : List En) (h : Lg w A n c L) (hL : L.length ≤ 1000000) : Calls Tryz.prog 34 #[.slice A n c] w (CloneE w L) := by
  cases A with
  | none =>
    obtain ⟨h1, h2⟩ := h.nil rfl
    have hl : L = [] := List.eq_nil_of_length_eq_zero (by have := h.len; omega)
    subst hl
    subst h1 h2
    have hq := fun w => eql_nilE w none 0 0
    clear h
    go_enter Tryz.func34, Tryz.ntmps34
    go_wp2_with fail
    go_ret
    exact ⟨none, 0, rfl, .nil _ _, Below.refl _ _⟩
  | some a =>
    have hq := fun w => eql_nilE w (some a) n c
    have hB := Below.new w (.cells #[] 29)
    obtain ⟨A', c', w3, hrun, ho, hb3, _⟩ := append_own_en (w.alloc (.cells #[] 29)) w.heap.size (some ⟨w.heap.size, 0, none⟩) 0 [] (own_empty w w.heap.size 29 2 (Nat.le_refl _)) (by simp) (some a) n c L (h.bel hB) (by simp; omega) 25 L rfl
    have HR := Lib.hid hrun
    have HO := Lib.hid ho
    have HB3 := Lib.hid (hB.trans hb3)
    clear hrun ho hb3 h hB
    go_enter Tryz.func34, Tryz.ntmps34
    go_wp2_with (at_builtin; refine wpl_append_run rfl _ _ 25 rfl _ _ rfl rfl _ _ HR.out ?_)
    go_ret
    exact ⟨A', c', rfl, HO.out, HB3.out⟩
theorem eq_lists {L M : List En} (hl : L.length = M.length) (h : ∀ j, j < L.length → enG L j = enG M j) : L = M := by
  apply List.ext_getElem hl
  intro i h1 h2
  rw [enG_of h1, enG_of h2]
  exact h i h1
set_option maxRecDepth 20000 in
set_option maxHeartbeats 4000000 in
theorem equal_en (w : World) (A1 A2 : Option Addr) (n1 c1 n2 c2 : Nat) (L M : List En) (h1 : Lg w A1 n1 c1 L) (h2 : Lg w A2 n2 c2 M) (hn : L.length ≤ 1000000) :
    Calls Tryz.prog 32 #[.slice A1 n1 c1, .slice A2 n2 c2] w fun e w' => e = .returned (.bool (decide (L = M))) ∧ Below w.heap.size w w' := by
  have HN1 := Lib.hid h1.len
  have HN2 := Lib.hid h2.len
  have L1 := Lib.hid h1
  have L2 := Lib.hid h2
  have hmx : (n1 : Int) ≤ 1000000 := by have := h1.len; omega
  clear h1 h2 hn
  by_cases hne : n1 = n2
  · subst hne
    go_enter Tryz.func32, Tryz.ntmps32
    go_wp2_with fail
    go_loopw [13] (fun iv wr => ∃ (i k : Nat), i ≤ n1 ∧ iv = .int .i64 (i : Int) ∧ wr = w.drewN k ∧ Hid (∀ j, j < i → enG L j = enG M j)) (fun iv _ => n1 - (intOf iv).toNat)
    case atStart => exact ⟨0, 0, Nat.zero_le _, rfl, rfl, Lib.hid (fun j hj => absurd hj (Nat.not_lt_zero _))⟩
    case round =>
      obtain ⟨i, k, hi, rfl, rfl, hj⟩ := hrel
      by_cases hlt : i < n1
      · have q1 : (i : Int) < (n1 : Int) := by omega
        obtain ⟨g1, o1, rfl, hl1, p0, p1⟩ := lg_at L1.out i (by rw [← HN1.out]; exact hlt)
        obtain ⟨g2, o2, rfl, hl2, r0, r1⟩ := lg_at L2.out i (by rw [← HN2.out]; exact hlt)
        rw [enG_of] at p0 p1 r0 r1
        by_cases he : enG L i = enG M i
        · have hq := eq_en2 (enG L i) (enG M i) true (by simpa using he)
          have HE := Lib.hid (show ∀ j, j < i + 1 → enG L j = enG M j from fun j h => by
            by_cases e : j = i
            · subst e; exact he
            · exact hj.out j (by omega))
          clear he
          generalize enG L i = x at *
          generalize enG M i = y at *
          go_wp2_with fail
          refine wp_region_quiet_lit (by kernel_rfl) (by kernel_rfl) ?_
          repeat (go_big_quiet_step (fail))
          refine wpQuiet_nil ?_
          rintro _ ⟨nq, rfl⟩
          go_wp2_with fail
          refine ⟨⟨i + 1, k + nq, by omega, by rw [Int.natCast_add]; rfl, rfl, HE⟩, ?_⟩
          simp [intOf]; omega
        · have hq := eq_en2 (enG L i) (enG M i) false (by simpa using he)
          have HE : Hid (L ≠ M) := Lib.hid (fun e => he (by rw [e]))
          clear he
          generalize enG L i = x at *
          generalize enG M i = y at *
          go_wp2_with fail
          refine wp_region_quiet_lit (by kernel_rfl) (by kernel_rfl) ?_
          repeat (go_big_quiet_step (fail))
          refine wpQuiet_nil ?_
          rintro _ ⟨nq, rfl⟩
          go_wp2_with fail
          go_ret
          exact ⟨by rw [decide_eq_false HE.out]; rfl, below_drewN' (below_drewN' (Below.refl _ w) k) nq⟩
      · obtain rfl : i = n1 := by omega
        have HE : Hid (L = M) := Lib.hid (eq_lists (by rw [← HN1.out, ← HN2.out]) (fun j h => hj.out j (by rw [HN1.out]; exact h)))
        go_wp2_with fail
        go_ret
        exact ⟨by rw [decide_eq_true HE.out]; rfl, below_drewN' (Below.refl _ w) k⟩
  · have HE : Hid (L ≠ M) := Lib.hid (fun e => hne (by rw [HN1.out, HN2.out, e]))
    have hb : ¬ (n1 : Int) = (n2 : Int) := by omega
    go_enter Tryz.func32, Tryz.ntmps32
    go_wp2_with fail
    go_ret
    exact ⟨by rw [decide_eq_false HE.out]; rfl, Below.refl _ w⟩
/-! ### Saved -/
def SavedY (w : World) (s : Sv) (e : Ending) (w' : World) : Prop := ∃ A c, e = .returned (svV s.term s.vote A s.log.length c) ∧ OwnE w' w.heap.size A c s.log ∧ Below w.heap.size w w'
set_option maxRecDepth 20000 in
set_option maxHeartbeats 4000000 in
theorem saved_any (w : World) (wl d : Nat) (s : Sv) (A : Option Addr) (c sz : Nat) (dn : Bool) (hb : Blk w wl 41 (walC d s.term s.vote (.slice A s.log.length c) dn sz)) (hl : Lg w A s.log.length c s.log) (hL : s.log.length ≤ 1000000) :
    Calls Tryz.prog 16 #[.pointer (some ⟨wl, 0, none⟩)] w (SavedY w s) := by
  have c0 : w.cell? ⟨wl, 0, none⟩ = some (.pointer (some ⟨d, 0, none⟩)) := hb.cell 0
  have c1 : w.cell? ⟨wl, 1, none⟩ = some (.int .i64 s.term) := hb.cell 1
  have c2 : w.cell? ⟨wl, 2, none⟩ = some (.int .i64 s.vote) := hb.cell 2
  have c3 : w.cell? ⟨wl, 3, none⟩ = some (.slice A s.log.length c) := hb.cell 3
  have HB := Lib.hid hb
  have HL := Lib.hid hl
  have hwl := hb.lt
  obtain ⟨n, hn⟩ : ∃ n, s.log.length = n := ⟨_, rfl⟩
  have HN := Lib.hid hn
  clear hb hl
  go_enter Tryz.func16, Tryz.ntmps16
  go_upto_region 4 with (fail)
  clear c0 c1 c2 c3
  have B0 := Lib.hid (Below.new2 w (.cells #[.int .i64 0, .int .i64 0, .slice none 0 0] 27) (.cells #[.int .i64 s.term, .int .i64 s.vote, .slice A n c] 27))
  have K0 := Lib.hid ((Blk.new w 27 [.int .i64 0, .int .i64 0, .slice none 0 0]).alloc (.cells #[.int .i64 s.term, .int .i64 s.vote, .slice A n c] 27))
  have K1 := Lib.hid (Blk.new2 w (.cells #[.int .i64 0, .int .i64 0, .slice none 0 0] 27) 27 [.int .i64 s.term, .int .i64 s.vote, .slice A n c])
  have HL1 := HL.out.bel B0.out
  rw [hn] at HL1
  generalize ((w.alloc (.cells #[.int .i64 0, .int .i64 0, .slice none 0 0] 27)).alloc (.cells #[.int .i64 s.term, .int .i64 s.vote, .slice A n c] 27)) = X at *
  generalize hg : w.heap.size = g at *
  have HCL := Lib.hid (clone_en X A n c s.log HL1 hL)
  clear HL1
  have k2 : X.cell? ⟨g + 1, 2, none⟩ = some (.slice A n c) := K1.out.cell 2
  have hgX : Hid (g + 2 ≤ X.heap.size) := Lib.hid (by have := K1.out.lt; omega)
  go_wp2_with fail
  refine HCL.out.mono ?_
  rintro e W ⟨A2, c2, rfl, ho, hb⟩
  have HO := Lib.hid ho
  have HBW := Lib.hid (show Below g w W from B0.out.trans (hb.mono (by have := hgX.out; omega)))
  have N0 := Lib.hid (K0.out.bel hb)
  have N1 := Lib.hid (K1.out.bel hb)
  clear ho hb k2
  have d0 : W.cell? ⟨g + 1, 0, none⟩ = some (.int .i64 s.term) := N1.out.cell 0
  have d1 : W.cell? ⟨g + 1, 1, none⟩ = some (.int .i64 s.vote) := N1.out.cell 1
  have d2 : W.cell? ⟨g + 1, 2, none⟩ = some (.slice A n c) := N1.out.cell 2
  have z2 := N1.out.fz 2
  have e0 : W.cell? ⟨g, 0, none⟩ = some (.int .i64 0) := N0.out.cell 0
  have e1 : W.cell? ⟨g, 1, none⟩ = some (.int .i64 0) := N0.out.cell 1
  have e2 : W.cell? ⟨g, 2, none⟩ = some (.slice none 0 0) := N0.out.cell 2
  have y0 := N0.out.fz 0
  have y1 := N0.out.fz 1
  have y2 := N0.out.fz 2
  go_wp2_with fail
  have PK := (((N0.out.far (p := ⟨g + 1, 2, none⟩) (by simp only; omega) (.slice A2 n c2)).set 0 (.int .i64 s.term)).set 1 (.int .i64 s.vote)).set 2 (.slice A2 n c2)
  have TT : Turns (fun i => i = g ∨ i = g + 1) W ((((W.setCell ⟨g + 1, 2, none⟩ (.slice A2 n c2)).setCell ⟨g, 0, none⟩ (.int .i64 s.term)).setCell ⟨g, 1, none⟩ (.int .i64 s.vote)).setCell ⟨g, 2, none⟩ (.slice A2 n c2)) :=
    ((((Turns.refl _ W).set _ _ (fun _ => .inr rfl)).set _ _ (fun _ => .inl rfl)).set _ _ (fun _ => .inl rfl)).set _ _ (fun _ => .inl rfl)
  refine bodyPost_ret (results_cell_row (h := rfl) (g := g) (t := 27) (cs := ([.int .i64 s.term, .int .i64 s.vote, .slice A2 n c2] : List Value).toArray) (fr := (0, 0)) (hp := rfl) (hg := PK) (hu := Tryz.underlying27) (hd := rfl) (hi := by kernel_rfl) _ _) rfl ?_
  refine ⟨A2, c2, by rw [HN.out]; rfl, ?_, ?_⟩
  · exact (HO.out.keep TT (fun q hq e => by have := HO.out.ge q hq; have := hgX.out; omega)).weak (by have := hgX.out; omega)
  · rw [hg]
    exact HBW.out.trans (TT.below (by have := HBW.out.size; omega) (fun i _ e => by omega))
/-- a wal that nobody made tells nothing -/
def NoWal (w : World) (a : Option Addr) : Prop := a = none ∨ ∃ wl, a = some ⟨wl, 0, none⟩ ∧ w.cell? ⟨wl, 0, none⟩ = some (.pointer none)
set_option maxRecDepth 20000 in
set_option maxHeartbeats 4000000 in
theorem saved_no (w : World) (a : Option Addr) (h : NoWal w a) :
    Calls Tryz.prog 16 #[.pointer a] w fun e w' => e = .returned (svV 0 0 none 0 0) ∧ Below w.heap.size w w' := by
  have K0 := Blk.new w 27 [.int .i64 0, .int .i64 0, .slice none 0 0]
  have B0 := Lib.hid (Below.new w (.cells #[.int .i64 0, .int .i64 0, .slice none 0 0] 27))
  have KK := Lib.hid K0
  have e0 : (w.alloc (.cells #[.int .i64 0, .int .i64 0, .slice none 0 0] 27)).cell? ⟨w.heap.size, 0, none⟩ = some (.int .i64 0) := K0.cell 0
  have e1 : (w.alloc (.cells #[.int .i64 0, .int .i64 0, .slice none 0 0] 27)).cell? ⟨w.heap.size, 1, none⟩ = some (.int .i64 0) := K0.cell 1
  have e2 : (w.alloc (.cells #[.int .i64 0, .int .i64 0, .slice none 0 0] 27)).cell? ⟨w.heap.size, 2, none⟩ = some (.slice none 0 0) := K0.cell 2
  have y0 := K0.fz 0
  have y1 := K0.fz 1
  have y2 := K0.fz 2
  clear K0
  rcases h with rfl | ⟨wl, rfl, hc⟩
  · go_enter Tryz.func16, Tryz.ntmps16
    go_wp2_with fail
    refine bodyPost_ret (results_cell_row (h := rfl) (g := w.heap.size) (t := 27) (cs := ([.int .i64 0, .int .i64 0, .slice none 0 0] : List Value).toArray) (fr := (0, 0)) (hp := rfl) (hg := KK.out) (hu := Tryz.underlying27) (hd := rfl) (hi := by kernel_rfl) _ _) rfl ?_
    exact ⟨rfl, B0.out⟩
  · have hc2 := (B0.out.cell (p := ⟨wl, 0, none⟩) (World.block_lt_of_cell? w _ hc)).trans hc
    have hlt := World.block_lt_of_cell? w _ hc
    go_enter Tryz.func16, Tryz.ntmps16
    go_wp2_with fail
    refine bodyPost_ret (results_cell_row (h := rfl) (g := w.heap.size) (t := 27) (cs := ([.int .i64 0, .int .i64 0, .slice none 0 0] : List Value).toArray) (fr := (0, 0)) (hp := rfl) (hg := KK.out) (hu := Tryz.underlying27) (hd := rfl) (hi := by kernel_rfl) _ _) rfl ?_
    exact ⟨rfl, B0.out⟩
end Go.Proofs.YteihedfmmiihiaaGreat
