/- DiskFuse: the walk. -/
import Derived.Test.YtoljnklceghcdaaDkChangeL
import Derived.Test.YtoljnklceghcdaaDkLasts
namespace Go.Proofs.Ytoljnklceghcdaa
open Go.RowKit Go.Maps Go.Sort Go.Shelf
variable {Xs : Nat → Prop}

abbrev Nx : Nat → Prop := fun _ => False
/-- both disks -/
structure FuS (H : Nat) (w : World) (d F t G i : Nat) (off : Bool) (f : Int) (q p : Fs) : Prop where
  dd : DS Nx w d F off f q i
  dt : DS Nx w t G false (-1) p i
  ne : d ≠ t ∧ F ≠ G
  lo : H ≤ d ∧ H ≤ F ∧ H ≤ t ∧ H ≤ G
  sq : Short q (5000 * i)
  sp : Short p (5000 * i)
theorem FuS.bel {H d F t G i : Nat} {w w' : World} {off : Bool} {f : Int} {q p : Fs} (h : FuS H w d F t G i off f q p) (b : Below w.heap.size w w') : FuS H w' d F t G i off f q p := ⟨h.dd.bel b, h.dt.bel b, h.ne, h.lo, h.sq, h.sp⟩
theorem FuS.wide {H d F t G i : Nat} {w : World} {off : Bool} {f : Int} {q p : Fs} (h : FuS H w d F t G i off f q p) : FuS H w d F t G (i + 1) off f q p := ⟨h.dd.wide (by omega), h.dt.wide (by omega), h.ne, h.lo, fun k => by have := h.sq k; omega, fun k => by have := h.sp k; omega⟩
theorem FuS.hd {H d F t G i : Nat} {w w' : World} {off : Bool} {f : Int} {q p : Fs} (h : FuS H w d F t G i off f q p) {off' : Bool} {f' : Int} {q' : Fs} (hd : DS Nx w' d F off' f' q' (i + 1)) (b : Turns (DSet d F) w w') (hs : Short q' (5000 * (i + 1))) : FuS H w' d F t G (i + 1) off' f' q' p :=
  ⟨hd, (h.dt.other h.dd b (fun e => h.ne.1 e.symm) (fun e => h.ne.2 e.symm)).wide (by omega), h.ne, h.lo, hs, fun k => by have := h.sp k; omega⟩
theorem FuS.ht {H d F t G i : Nat} {w w' : World} {off : Bool} {f : Int} {q p : Fs} (h : FuS H w d F t G i off f q p) {p' : Fs} (hd : DS Nx w' t G false (-1) p' (i + 1)) (b : Turns (DSet t G) w w') (hs : Short p' (5000 * (i + 1))) : FuS H w' d F t G (i + 1) off f q p' :=
  ⟨(h.dd.other h.dt b h.ne.1 h.ne.2).wide (by omega), hd, h.ne, h.lo, fun k => by have := h.sq k; omega, hs⟩
theorem FuS.low {H d F t G i : Nat} {w w1 w2 : World} {off : Bool} {f : Int} {q p : Fs} (h : FuS H w1 d F t G i off f q p) (hH : w.heap.size = H) (b : Below H w w1) (c : Turns (DSet d F) w1 w2) : Below H w w2 := by
  subst hH
  exact ((Turns.of_below (S := fun r => w.heap.size ≤ r) b).then (c.mono (fun r _ e => by have := h.lo; rcases e with e | e <;> omega))).below (Nat.le_refl _) (fun _ _ e => e)
theorem FuS.low2 {H d F t G i : Nat} {w w1 w2 : World} {off : Bool} {f : Int} {q p : Fs} (h : FuS H w1 d F t G i off f q p) (hH : w.heap.size = H) (b : Below H w w1) (c : Turns (DSet t G) w1 w2) : Below H w w2 := by
  subst hH
  exact ((Turns.of_below (S := fun r => w.heap.size ≤ r) b).then (c.mono (fun r _ e => by have := h.lo; rcases e with e | e <;> omega))).below (Nat.le_refl _) (fun _ _ e => e)
theorem DS.count {w : World} {d F N : Nat} {off : Bool} {fuse : Int} {p : Fs} (h : DS Xs w d F off fuse p N) {ks : List (List UInt8)} (hk : KeysOf p ks) : ks.length ≤ N := by
  obtain ⟨mv, n, hN, ⟨es, clock, hb, S, hs, hkv, hm⟩, hf⟩ := h.files
  have h1 : (ks.map encStr).Nodup := List.Pairwise.map _ (fun a b hab e => hab (encStr_inj e)) hk.nodup
  have h2 : ks.map encStr ⊆ es.toList.map (·.key) := fun v hv => by
    obtain ⟨x, hx, rfl⟩ := List.mem_map.1 hv
    have hp : p (keyB x) ≠ none := (hk.2 (keyB x)).1 hx
    have hmv : mv (keyB x) ≠ none := by
      rcases hf (keyB x) with ⟨e, _⟩ | ⟨l, m, v, _, e, _⟩
      · exact absurd e hp
      · rw [e]; simp
    obtain ⟨v, hv2⟩ := Option.ne_none_iff_exists'.1 hmv
    obtain ⟨i, e, he, hek, _⟩ := (hm (keyB x) v).1 hv2
    exact List.mem_map.2 ⟨e, Array.mem_toList_iff.2 (Array.mem_of_getElem? he), hek⟩
  have := List.Nodup.length_le_of_subset h1 h2
  simp at this
  omega
/-- Names of a disk that is on -/
theorem namesOk (w : World) (d F N : Nat) (s : Dk) (h : s.Is Xs w d F N) (hN : N ≤ 1000000) (ho : s.off = false) :
    Calls Try.prog 19 #[.pointer (some ⟨d, 0, none⟩)] w fun e w' => ∃ A c ks, e = .returned (.tuple #[.slice A ks.length c, .int .i64 0]) ∧ KeysOf s.p ks ∧ w'.ownsRow w.heap.size 9 1 (.slice A ks.length c) ks.length (ks.map encStr) ∧ Below w.heap.size w w' := by
  refine (namesD w d F N s h hN).mono ?_
  rintro e w' ⟨v, rfl, hb, _, h2⟩
  obtain ⟨ks, hk, hr⟩ := h2 ho
  obtain ⟨A, c, rfl⟩ := own_slice' hr
  exact ⟨A, c, ks, by rw [ho]; rfl, hk, hr, hb⟩
theorem low_of {H a b : Nat} {w w1 w2 : World} (h : H ≤ a ∧ H ≤ b) (hH : w.heap.size = H) (B : Below H w w1) (c : Turns (DSet a b) w1 w2) : Below H w w2 := by
  subst hH
  exact ((Turns.of_below (S := fun r => w.heap.size ≤ r) B).then (c.mono (fun r _ e => by rcases e with e | e <;> omega))).below (Nat.le_refl _) (fun _ _ e => e)
theorem below_more {H : Nat} {w w1 w2 : World} (hH : w.heap.size = H) (b : Below H w w1) (c : Below w1.heap.size w1 w2) : Below H w w2 := by
  subst hH
  exact below_trans' b c

set_option maxRecDepth 20000 in
set_option maxHeartbeats 8000000 in
theorem fuse_in (w : World) (a : Option Addr) (len c : Nat) (S : Nat → Stp) (n : Int) (h : Stps w a len S) (hn40 : len ≤ 40) (hn0 : 0 ≤ n) (hnM : n ≤ 9223372036854775807) : Calls Try.prog 4 #[.slice a len c, .int .i64 n] w fun e w' => e = .returned (.bool true) ∧ Below w.heap.size w w' := by
  have HS := Lib.hid h
  have HA := Lib.hid (awake_any w)
  have hn41 : decide (40 < (len : Int)) = false := decide_eq_false (by omega)
  have hn42 : decide (n < 0) = false := decide_eq_false (by omega)
  clear h
  go_enter Try.func4, Try.ntmps4
  go_upto_region 3 with (go_at_call 7; refine HA.out.mono ?_; rintro e w1 ⟨rfl, hb1⟩; have HB1 := Lib.hid hb1; clear hb1)
  have HL := Lib.hid (long_any w1 a len c S (HS.out.bel HB1.out))
  go_wp2_with (go_at_call 8; refine HL.out.mono ?_; rintro e w1' ⟨b, rfl, hb, rfl⟩; have HBL := Lib.hid hb; clear hb)
  · go_ret
    exact ⟨rfl, HB1.out⟩
  refine (newD (Xs := Nx) w1').mono ?_
  rintro e w2 ⟨rfl, d2, b2⟩
  obtain ⟨hn80, hSd⟩ := HBL.out (by simpa using (by assumption : ¬ b = true))
  have HSD := Lib.hid hSd
  obtain ⟨d, hd0⟩ : ∃ d, d = w1'.heap.size + 1 := ⟨_, rfl⟩
  obtain ⟨F, hF0⟩ : ∃ F, F = w1'.heap.size := ⟨_, rfl⟩
  rw [← hd0, ← hF0] at d2
  rw [← hd0]
  have hlo : w.heap.size ≤ d ∧ w.heap.size ≤ F := by have := HB1.out.size; omega
  have D2 := Lib.hid d2
  have B2 := Lib.hid (below_trans' HB1.out b2)
  have hl2 := d2.lts
  clear d2 b2 hSd hn80 hd0 hF0
  go_wp2_with fail
  refine (newD (Xs := Nx) w2).mono ?_
  rintro e w3 ⟨rfl, d3, b3⟩
  obtain ⟨t, ht0⟩ : ∃ t, t = w2.heap.size + 1 := ⟨_, rfl⟩
  obtain ⟨G, hG0⟩ : ∃ G, G = w2.heap.size := ⟨_, rfl⟩
  rw [← ht0, ← hG0] at d3
  rw [← ht0]
  have hne : d ≠ t ∧ F ≠ G := by omega
  have hlo2 : w.heap.size ≤ t ∧ w.heap.size ≤ G := by have := B2.out.size; omega
  have HFu := Lib.hid (fuseD w3 d F 0 false (-1) _ (D2.out.bel b3) n hnM)
  rw [show fuC false n = 0 from (if_neg (by decide)).trans (if_neg (by omega)), show fuN false (-1) n = n from (if_neg (by decide)).trans (if_neg (by omega))] at HFu
  have D3 := Lib.hid d3
  have D2' := Lib.hid (D2.out.bel b3)
  have B3 := Lib.hid (below_trans' B2.out b3)
  clear d3 b3 ht0 hG0 hl2
  go_upto_region 10 with (go_at_call 16; refine HFu.out.mono ?_; rintro e w4 ⟨rfl, s4, t4⟩; have S4 := Lib.hid s4; have T4 := Lib.hid t4; clear s4 t4)
  have hF0 : FuS w.heap.size w4 d F t G 0 false n (fun _ => none) (fun _ => none) := ⟨S4.out, D3.out.other D2'.out T4.out (fun e => hne.1 e.symm) (fun e => hne.2 e.symm), hne, by omega, fun k => by simp [pl], fun k => by simp [pl]⟩
  have hK : Below w.heap.size w w4 := (((Turns.of_below (S := fun g => w.heap.size ≤ g) B3.out).then (T4.out.mono (fun g _ e => by rcases e with e | e <;> (have := hlo; omega))))).below (Nat.le_refl _) (fun _ _ e => e)
  have HF0 := Lib.hid hF0
  have HK := Lib.hid hK
  clear hK hF0 hlo hlo2 hne
  generalize hH : w.heap.size = H at *
  have HH := Lib.hid hH
  clear hH
  go_wp2_with fail
  go_loopw [7, 8] (fun nv iv wr => ∃ (i done : Nat) (p : Fs), i ≤ len ∧ done ≤ i ∧ (done : Int) ≤ n ∧ nv = .int .i64 (done : Int) ∧ iv = .int .i64 (i : Int) ∧ Hid (FuS H wr d F t G i false (n - (done : Int)) p p) ∧ Hid (Below H w wr)) (fun _ iv _ => len - (intOf iv).toNat)
  case atStart => exact ⟨0, 0, fun _ => none, by omega, by omega, by omega, rfl, rfl, by simpa using HF0, HK⟩
  case round =>
    obtain ⟨i, done, p, hi, hdi, hdn, rfl, rfl, HFs, HBe⟩ := hrel
    by_cases hlt : i < len
    · have hlt1 : (i : Int) < (len : Int) := by omega
      obtain ⟨b, o, rfl, hbl, c0, c1, c2, c3, c4, c5⟩ := (HS.out.bel (by rw [HH.out]; exact HBe.out)).cell i hlt
      have KW : Hid (Blk (wr.alloc (.cells #[.int .u8 (S i).d, .string (S i).name, .string (S i).to_, .slice (S i).dA (S i).dn (S i).dc, .int .i64 (S i).num, .slice (S i).kA (S i).kn (S i).kc] 32)) wr.heap.size 32 [.int .u8 (S i).d, .string (S i).name, .string (S i).to_, .slice (S i).dA (S i).dn (S i).dc, .int .i64 (S i).num, .slice (S i).kA (S i).kn (S i).kc]) := Lib.hid (Blk.new wr 32 [.int .u8 (S i).d, .string (S i).name, .string (S i).to_, .slice (S i).dA (S i).dn (S i).dc, .int .i64 (S i).num, .slice (S i).kA (S i).kn (S i).kc])
      have LW : Hid (FuS H (wr.alloc (.cells #[.int .u8 (S i).d, .string (S i).name, .string (S i).to_, .slice (S i).dA (S i).dn (S i).dc, .int .i64 (S i).num, .slice (S i).kA (S i).kn (S i).kc] 32)) d F t G i false (n - (done : Int)) p p) := Lib.hid (HFs.out.bel (Below.new wr (.cells #[.int .u8 (S i).d, .string (S i).name, .string (S i).to_, .slice (S i).dA (S i).dn (S i).dc, .int .i64 (S i).num, .slice (S i).kA (S i).kn (S i).kc] 32)))
      have BW : Hid (Below H w (wr.alloc (.cells #[.int .u8 (S i).d, .string (S i).name, .string (S i).to_, .slice (S i).dA (S i).dn (S i).dc, .int .i64 (S i).num, .slice (S i).kA (S i).kn (S i).kc] 32))) := Lib.hid (below_more HH.out HBe.out (Below.new wr (.cells #[.int .u8 (S i).d, .string (S i).name, .string (S i).to_, .slice (S i).dA (S i).dn (S i).dc, .int .i64 (S i).num, .slice (S i).kA (S i).kn (S i).kc] 32)))
      obtain ⟨hbs, hdc, hdm⟩ := HS.out.data i hlt
      have HBs := Lib.hid hbs
      have hnum := (HS.out.num i hlt).1
      have hdl := (HSD.out i hlt).1
      have hdF := HFs.out.dd.lts
      have htG := HFs.out.dt.lts
      unfold maxLen at hdm
      obtain ⟨op, hop, hop3⟩ : ∃ op : Nat, (S i).d % 4 = (op : Int) ∧ op ≤ 3 := ⟨((S i).d % 4).toNat, by omega, by omega⟩
      clear hbs
      go_upto_region 14 with (fail)
      generalize wr.alloc (.cells #[.int .u8 (S i).d, .string (S i).name, .string (S i).to_, .slice (S i).dA (S i).dn (S i).dc, .int .i64 (S i).num, .slice (S i).kA (S i).kn (S i).kc] 32) = W at *
      generalize wr.heap.size = g at *
      clear c0 c1 c2 c3 c4 c5
      have k0 := KW.out.cell 0
      have z0 := KW.out.fz 0
      have kl := KW.out.lt
      simp only [List.getElem?_cons_succ, List.getElem?_cons_zero] at k0
      go_upto_region 15 with (fail)
      have KV := Lib.hid (KW.out.set 0 (.int .u8 (op : Int)))
      have TV := (Turns.refl (fun j => j = g) W).set ⟨g, 0, none⟩ (.int .u8 (op : Int)) (fun _ => rfl)
      have hu8 : ∀ r cur, W.heap[r]? = some (.cells cur 5 (0, 0)) → ¬ Nx r → ¬ r = g := fun r cur hr _ e => by
        subst e
        have := KW.out
        unfold Blk at this
        rw [hr] at this
        injection this with this
        injection this with _ this _
        exact absurd this (by decide)
      have LV : Hid (FuS H (W.setCell ⟨g, 0, none⟩ (.int .u8 (op : Int))) d F t G i false (n - (done : Int)) p p) := Lib.hid ⟨LW.out.dd.keep TV (by omega) (by omega) hu8, LW.out.dt.keep TV (by omega) (by omega) hu8, LW.out.ne, LW.out.lo, LW.out.sq, LW.out.sp⟩
      have BV : Hid (Below H w (W.setCell ⟨g, 0, none⟩ (.int .u8 (op : Int)))) := Lib.hid (by
        have h1 := BW.out
        have hgH : H ≤ g := by have := LW.out.lo; omega
        have hHq := HH.out
        subst hHq
        exact ((Turns.of_below (S := fun r => w.heap.size ≤ r) h1).then (TV.mono (fun r _ e => by subst e; exact hgH))).below (Nat.le_refl _) (fun _ _ e => e))
      simp only [List.set_cons_zero] at KV
      clear hu8 TV k0 z0
      generalize W.setCell ⟨g, 0, none⟩ (.int .u8 (op : Int)) = V at *
      have hbsV := HBs.out.below (by rw [HH.out]; exact BV.out)
      have HBsV := Lib.hid hbsV
      have k0 := KV.out.cell 0
      have k1 := KV.out.cell 1
      have k2 := KV.out.cell 2
      have k3 := KV.out.cell 3
      have k4 := KV.out.cell 4
      have k5 := KV.out.cell 5
      simp only [List.getElem?_cons_succ, List.getElem?_cons_zero] at k0 k1 k2 k3 k4 k5
      have hsh := LV.out.sq
      have HCd := Lib.hid (changeL V d F i ⟨false, n - (done : Int), p⟩ LV.out.dd (fun g hg => hg.elim) op hop3 (S i).name (S i).to_ (S i).dA (S i).dn (S i).dc (S i).data hbsV hdc (by have := hsh (S i).name; simp only; omega) (S i).num (S i).kA (S i).kn (S i).kc)
      have HSm := Lib.hid (op_same (n - (done : Int)) (by omega) p op (S i).name (S i).to_ (S i).data)
      clear hbsV hsh hop
      rcases HSm.out with ⟨hf, hc, hc2, q, hs1, hs2⟩ | ⟨hc, hs1⟩ | ⟨hf, hc, q, hs1, hq⟩
      · rw [hc, hs1] at HCd
        have HC2 := Lib.hid hc2
        have HS2 := Lib.hid hs2
        have hshq : Short q (5000 * (i + 1)) := by
          have := short_op (s := ⟨false, -1, p⟩) LV.out.sp op (S i).name (S i).to_ (S i).data (5000 * (i + 1)) (by omega)
          rw [hs2] at this
          exact this
        have HSQ := Lib.hid hshq
        have hd1 : (done : Int) + 1 ≤ n := by omega
        clear hc hs1 hc2 hs2 hshq
        go_upto_region 16 with (go_at_call 17; refine HCd.out.mono ?_; rintro e W2 ⟨rfl, h2, t2⟩; have H2 := Lib.hid h2; have T2 := Lib.hid t2; clear h2 t2)
        clear k0 k1 k2 k3 k4 k5
        have B2' := Lib.hid (LV.out.low HH.out BV.out T2.out)
        have K2 := Lib.hid (KV.out.turns T2.out (by unfold DSet; omega))
        have HOf := Lib.hid (offD W2 d F (i + 1) false _ _ H2.out)
        have hdt2 := LV.out.dt.other LV.out.dd T2.out (fun e => LV.out.ne.1 e.symm) (fun e => LV.out.ne.2 e.symm)
        have HDT2 := Lib.hid hdt2
        have HCt := Lib.hid (changeL W2 t G i ⟨false, -1, p⟩ hdt2 (fun g hg => hg.elim) op hop3 (S i).name (S i).to_ (S i).dA (S i).dn (S i).dc (S i).data (HBs.out.below (by rw [HH.out]; exact B2'.out)) hdc (by have := LV.out.sp (S i).name; simp only; omega) (S i).num (S i).kA (S i).kn (S i).kc)
        rw [HC2.out, HS2.out] at HCt
        clear hdt2
        have k0 := K2.out.cell 0
        have k1 := K2.out.cell 1
        have k2 := K2.out.cell 2
        have k3 := K2.out.cell 3
        have k4 := K2.out.cell 4
        have k5 := K2.out.cell 5
        simp only [List.getElem?_cons_succ, List.getElem?_cons_zero] at k0 k1 k2 k3 k4 k5
        have hd2 : ¬ n < (done : Int) + 1 := by omega
        go_wp2_with (first | (go_at_call 18; refine HOf.out.mono ?_; rintro e W2' ⟨rfl, rfl⟩) | (go_at_call 17; refine HCt.out.mono ?_; rintro e W3 ⟨rfl, h3, t3⟩; have H3 := Lib.hid h3; have T3 := Lib.hid t3; clear h3 t3))
        have hfin : FuS H W3 d F t G (i + 1) false (n - ((done + 1 : Nat) : Int)) q q := by
          have e1 : n - ((done + 1 : Nat) : Int) = n - (done : Int) - 1 := by omega
          rw [e1]
          exact ⟨DS.other H2.out HDT2.out T3.out LV.out.ne.1 LV.out.ne.2, H3.out, LV.out.ne, LV.out.lo, HSQ.out, HSQ.out⟩
        have HFin := Lib.hid hfin
        have BFin := Lib.hid (low_of ⟨LV.out.lo.2.2.1, LV.out.lo.2.2.2⟩ HH.out B2'.out T3.out)
        clear hfin k0 k1 k2 k3 k4 k5
        go_roundw
        case measure => simp only [intOf]; omega
        case rel => first | exact ⟨i + 1, done + 1, q, by omega, by omega, by omega, by go_num, by go_num, HFin, BFin⟩ | ((repeat apply Exists.intro); exact ⟨⟨i + 1, done + 1, q, by omega, by omega, by omega, by go_num, by go_num, HFin, BFin⟩, rfl⟩)
      · rw [hc, hs1] at HCd
        clear hc hs1
        go_upto_region 16 with (go_at_call 17; refine HCd.out.mono ?_; rintro e W2 ⟨rfl, h2, t2⟩; have H2 := Lib.hid h2; have T2 := Lib.hid t2; clear h2 t2)
        clear k0 k1 k2 k3 k4 k5
        have B2' := Lib.hid (LV.out.low HH.out BV.out T2.out)
        have HOf := Lib.hid (offD W2 d F (i + 1) false _ _ H2.out)
        have HFin := Lib.hid (LV.out.hd H2.out T2.out (fun k => by have := LV.out.sq k; show (pl p k).1.length ≤ _; omega))
        have hd2 : ¬ n < (done : Int) := by omega
        go_wp2_with (go_at_call 18; refine HOf.out.mono ?_; rintro e W2' ⟨rfl, rfl⟩)
        go_roundw
        case measure => simp only [intOf]; omega
        case rel => first | exact ⟨i + 1, done, p, by omega, by omega, by omega, rfl, by go_num, HFin, B2'⟩ | ((repeat apply Exists.intro); exact ⟨⟨i + 1, done, p, by omega, by omega, by omega, rfl, by go_num, HFin, B2'⟩, rfl⟩)
      · rw [hc, hs1] at HCd
        have HQ := Lib.hid hq
        have hshq : Short q (5000 * (i + 1)) := by
          rcases hq with hq | hq
          · rw [hq]; exact fun k => by have := LV.out.sq k; omega
          · rw [hq]; exact short_upd LV.out.sq _ _ (by have := LV.out.sq (S i).name; rw [List.length_append]; omega) (by omega)
        have HSQ := Lib.hid hshq
        have hnd : (done : Int) = n := by omega
        clear hc hs1 hq hshq
        go_upto_region 16 with (go_at_call 17; refine HCd.out.mono ?_; rintro e W2 ⟨rfl, h2, t2⟩; have H2 := Lib.hid h2; have T2 := Lib.hid t2; clear h2 t2)
        clear k0 k1 k2 k3 k4 k5
        have B2' := Lib.hid (LV.out.low HH.out BV.out T2.out)
        have K2 := Lib.hid (KV.out.turns T2.out (by unfold DSet; omega))
        have HOf := Lib.hid (offD W2 d F (i + 1) true _ _ H2.out)
        have F2 := Lib.hid (LV.out.hd H2.out T2.out HSQ.out)
        have HC3 := Lib.hid (changeL W2 d F (i + 1) ⟨true, -1, q⟩ H2.out (fun g hg => hg.elim) op hop3 (S i).name (S i).to_ (S i).dA (S i).dn (S i).dc (S i).data (HBs.out.below (by rw [HH.out]; exact B2'.out)) hdc (by have := HSQ.out (S i).name; simp only; omega) (S i).num (S i).kA (S i).kn (S i).kc)
        rw [(op_off (-1) q op (S i).name (S i).to_ (S i).data).1, (op_off (-1) q op (S i).name (S i).to_ (S i).data).2] at HC3
        have k0 := K2.out.cell 0
        have k1 := K2.out.cell 1
        have k2 := K2.out.cell 2
        have k3 := K2.out.cell 3
        have k4 := K2.out.cell 4
        have k5 := K2.out.cell 5
        simp only [List.getElem?_cons_succ, List.getElem?_cons_zero] at k0 k1 k2 k3 k4 k5
        have hnd1 : ((done : Int) == n) = true := beq_iff_eq.2 hnd
        have hnd2 : ((done : Int) != n) = false := by simp [hnd]
        clear hnd hf
        go_upto_region 27 with (first | (go_at_call 18; refine HOf.out.mono ?_; rintro e W2' ⟨rfl, rfl⟩) | (go_at_call 17; refine HC3.out.mono ?_; rintro e W3 ⟨rfl, h3, t3⟩; have H3 := Lib.hid h3; have T3 := Lib.hid t3; have HFu3 := Lib.hid (fuseD W3 d F (i + 1 + 1) true (-1) q h3 1 (by omega)); clear h3 t3) | (go_at_call 16; refine HFu3.out.mono ?_; rintro e W4 ⟨rfl, h4, t4⟩; have H4 := Lib.hid h4; have T4 := Lib.hid t4; clear h4 t4))
        clear k0 k1 k2 k3 k4 k5
        have F3 := Lib.hid (F2.out.hd H3.out T3.out (fun k => by have := HSQ.out k; show (pl q k).1.length ≤ _; omega))
        have F4 := Lib.hid (F3.out.hd (H4.out.wide (by omega)) T4.out (fun k => by have := HSQ.out k; omega))
        have B4 := Lib.hid (low_of ⟨LV.out.lo.1, LV.out.lo.2.1⟩ HH.out (low_of ⟨LV.out.lo.1, LV.out.lo.2.1⟩ HH.out B2'.out T3.out) T4.out)
        rw [show fuN true (-1) 1 = -1 from rfl] at F4
        have hnear : Near q p := by rcases HQ.out with e | e; exact .inl e; exact .inr ⟨_, _, e⟩
        have hi50 : (i + 1 + 1 + 1) ≤ 50 := by omega
        have hwf := DS.wf F4.out.dt
        have HNear := Lib.hid hnear
        have HWf := Lib.hid hwf
        clear hnear hwf
        have HC1 := Lib.hid (crashD W4 d F (i + 1 + 1 + 1) ⟨true, (-1), q⟩ F4.out.dd (by omega) none 0 0 (fun _ => 0) (KeepR.nil _ _) (fun b o e => by cases e) (Nat.zero_le _) (fun k => by have := F4.out.sq k; simp only; omega))
        go_upto_region 29 with (first
          | (go_at_call 12; refine HC1.out.mono ?_; rintro e X1 ⟨rfl, ka, hka, x1, tx1⟩; have hx1 := x1; rw [crash_lastF (fun _ => 0) ka _ hka] at hx1; have HX1 := Lib.hid hx1; have TX1 := Lib.hid tx1; have hdt1 := F4.out.dt.other F4.out.dd tx1 (fun e => F4.out.ne.1 e.symm) (fun e => F4.out.ne.2 e.symm); have HDT1 := Lib.hid hdt1; have HC2 := Lib.hid (crashD X1 t G (i + 1 + 1 + 1) ⟨false, -1, p⟩ hdt1 (by omega) none 0 0 (fun _ => 0) (KeepR.nil _ _) (fun b o e => by cases e) (Nat.zero_le _) (fun k => by have := F4.out.sp k; simp only; omega)); clear hx1 hka tx1 hdt1 x1 HC1)
          | (go_at_call 12; refine HC2.out.mono ?_; rintro e X2 ⟨rfl, kb, hkb, x2, tx2⟩; have hx2 := x2; rw [crash_lastF (fun _ => 0) kb _ hkb] at hx2; have HX2 := Lib.hid hx2; have TX2 := Lib.hid tx2; have hdd2 := HX1.out.other HDT1.out tx2 F4.out.ne.1 F4.out.ne.2; have HDD2 := Lib.hid hdd2; have HOf := Lib.hid (offD X2 d F (i + 1 + 1 + 1) false (-1) _ hdd2); clear hx2 hkb tx2 hdd2 x2 HC2)
          | (go_at_call 18; refine HOf.out.mono ?_; rintro e X3 ⟨rfl, rfl⟩; clear HOf))
        have hB3 : Below H w X3 := low_of ⟨F4.out.lo.2.2.1, F4.out.lo.2.2.2⟩ HH.out (low_of ⟨F4.out.lo.1, F4.out.lo.2.1⟩ HH.out B4.out TX1.out) TX2.out
        have HB3 := Lib.hid hB3
        have HN1 := Lib.hid (namesOk X3 d F (i + 1 + 1 + 1) ⟨false, -1, lastF q⟩ HDD2.out (by omega) rfl)
        clear hB3
        go_upto_region 30 with (go_at_call 19; refine HN1.out.mono ?_; rintro e X4 ⟨A4, c4, ka, rfl, hka, ho4, hb4⟩; have HKA := Lib.hid (lastF_keys.1 hka); have HB4 := Lib.hid hb4; have hc4 := own_caps ho4; have hct4 := DS.count HDD2.out hka; clear hka ho4 hb4 HN1)
        have HN2 := Lib.hid (namesOk X4 t G (i + 1 + 1 + 1) ⟨false, -1, lastF p⟩ (DS.bel HX2.out HB4.out) (by omega) rfl)
        go_upto_region 31 with (go_at_call 19; refine HN2.out.mono ?_; rintro e X5 ⟨A5, c5, kb, rfl, hkb, ho5, hb5⟩; have HKB := Lib.hid (lastF_keys.1 hkb); have HB5 := Lib.hid hb5; have HO5 := Lib.hid ho5; have hc5 := own_caps ho5; have hct5 := DS.count HX2.out hkb; clear hkb ho5 hb5 HN2)
        have hnk := near_keys HNear.out HKA.out HKB.out
        have hl1 : ¬ (ka.length : Int) < (kb.length : Int) := by have := hnk.2.1; omega
        have hl2 : ¬ (kb.length : Int) + 1 < (ka.length : Int) := by have := hnk.2.2; omega
        have hl3 : decide (ka.length < kb.length) = false := decide_eq_false (by have := hnk.2.1; omega)
        have hc4a := hc4.2
        have hc5a := hc5.2
        have hc4b := hc4.1
        have hc5b := hc5.1
        unfold maxLen at hc4a hc5a
        have B5 := Lib.hid (below_more HH.out (below_more HH.out HB3.out HB4.out) HB5.out)
        have DD5 := Lib.hid ((HDD2.out.bel HB4.out).bel HB5.out)
        have DT5 := Lib.hid ((HX2.out.bel HB4.out).bel HB5.out)
        clear hnk
        go_wp2_with fail
        go_loopw [15] (fun iv wr => ∃ j : Nat, j ≤ kb.length ∧ iv = .int .i64 (j : Int) ∧ Hid (Below X5.heap.size X5 wr)) (fun iv _ => kb.length - (intOf iv).toNat)
        case atStart => exact ⟨0, by omega, rfl, Lib.hid (Below.refl _ _)⟩
        case round =>
          obtain ⟨j, hj, rfl, hBj⟩ := hrel
          by_cases hltj : j < kb.length
          · have hltj1 : (j : Int) < (kb.length : Int) := by omega
            obtain ⟨g5, hA5, hg5, gc, _, _⟩ := row_at (own_turns HO5.out (.of_below (S := fun _ => False) hBj.out) (fun _ _ => id)) j hltj
            rw [hA5] at HO5
            have hpk : p (keyB kb[j]) ≠ none := (HKB.out.2 (keyB kb[j])).1 (List.getElem_mem hltj)
            obtain ⟨⟨l, m⟩, hlm⟩ := Option.ne_none_iff_exists'.1 hpk
            have hq1 : lastF p (keyB kb[j]) = some (l.take m, m) := by simp [lastF, hlm]
            have hq2 : lastF q (keyB kb[j]) = some (l.take m, m) := (near_last HNear.out HWf.out _ hpk).trans hq1
            have hll : l.length ≤ 100000000 := by
              have := F4.out.sp (keyB kb[j])
              simp only [pl, hlm, Option.getD_some] at this
              omega
            have HR1 := Lib.hid (readOk wr d F (i + 1 + 1 + 1) ⟨false, -1, lastF q⟩ (DS.bel DD5.out hBj.out) (keyB kb[j]) (l.take m) m rfl hq2 (by rw [List.length_take]; omega))
            have HDTj := Lib.hid (DT5.out.bel hBj.out)
            have HQ1 := Lib.hid hq1
            have hlmL : (l.take m).length ≤ 100000000 := by rw [List.length_take]; omega
            clear hpk hlm hq1 hq2
            generalize keyB kb[j] = kj at *
            generalize l.take m = lm at *
            subst hA5
            go_upto_region 37 with (go_at_call 13; refine HR1.out.mono ?_; rintro e Y1 ⟨A7, c7, rfl, hb7, ho7⟩; have HO7 := Lib.hid ho7; have HB7 := Lib.hid hb7; clear hb7 ho7 HR1)
            have HR2 := Lib.hid (readOk Y1 t G (i + 1 + 1 + 1) ⟨false, -1, lastF p⟩ (DS.bel HDTj.out HB7.out) kj lm m rfl HQ1.out hlmL)
            have gc' := (HB7.out.cell (p := ⟨g5, j, none⟩) hg5).trans gc
            go_upto_region 38 with (go_at_call 13; refine HR2.out.mono ?_; rintro e Y2 ⟨A8, c8, rfl, hb8, ho8⟩; have HO8 := Lib.hid ho8; have HB8 := Lib.hid hb8; clear hb8 ho8 HR2)
            have q1 := run_conv_bs (P := Try.prog) ((Bs.of_own HO7.out rfl).below HB8.out) 29 9 5 Try.underlying29 Try.underlying5 Try.underlying9 c7
            have q2 := run_conv_bs (P := Try.prog) (Bs.of_own HO8.out rfl) 29 9 5 Try.underlying29 Try.underlying5 Try.underlying9 c8
            unfold strV at q1 q2
            have HBe2 := Lib.hid (below_trans' (below_trans' hBj.out HB7.out) HB8.out)
            clear gc gc' hg5
            go_wp2_with fail
            clear q1 q2
            go_roundw
            case measure => simp only [intOf]; omega
            case rel => first | exact ⟨j + 1, by omega, by go_num, HBe2⟩ | ((repeat apply Exists.intro); exact ⟨⟨j + 1, by omega, by go_num, HBe2⟩, rfl⟩)
          · obtain rfl : j = kb.length := by omega
            have hltj1 : ¬ (kb.length : Int) < (kb.length : Int) := by omega
            go_wp2_with fail
            go_ret
            refine ⟨rfl, ?_⟩
            have := below_more HH.out B5.out hBj.out
            rw [HH.out]
            exact this
    · obtain rfl : i = len := by omega
      have hlt1 : ¬ (i : Int) < (i : Int) := by omega
      go_upto_region 27 with (fail)
      have hnear : Near p p := .inl rfl
      have hi50 : i ≤ 50 := by omega
      have hwf := DS.wf HFs.out.dt
      have HNear := Lib.hid hnear
      have HWf := Lib.hid hwf
      clear hnear hwf
      have HC1 := Lib.hid (crashD wr d F i ⟨false, (n - (done : Int)), p⟩ HFs.out.dd (by omega) none 0 0 (fun _ => 0) (KeepR.nil _ _) (fun b o e => by cases e) (Nat.zero_le _) (fun k => by have := HFs.out.sq k; simp only; omega))
      go_upto_region 29 with (first
        | (go_at_call 12; refine HC1.out.mono ?_; rintro e X1 ⟨rfl, ka, hka, x1, tx1⟩; have hx1 := x1; rw [crash_lastF (fun _ => 0) ka _ hka] at hx1; have HX1 := Lib.hid hx1; have TX1 := Lib.hid tx1; have hdt1 := HFs.out.dt.other HFs.out.dd tx1 (fun e => HFs.out.ne.1 e.symm) (fun e => HFs.out.ne.2 e.symm); have HDT1 := Lib.hid hdt1; have HC2 := Lib.hid (crashD X1 t G i ⟨false, -1, p⟩ hdt1 (by omega) none 0 0 (fun _ => 0) (KeepR.nil _ _) (fun b o e => by cases e) (Nat.zero_le _) (fun k => by have := HFs.out.sp k; simp only; omega)); clear hx1 hka tx1 hdt1 x1 HC1)
        | (go_at_call 12; refine HC2.out.mono ?_; rintro e X2 ⟨rfl, kb, hkb, x2, tx2⟩; have hx2 := x2; rw [crash_lastF (fun _ => 0) kb _ hkb] at hx2; have HX2 := Lib.hid hx2; have TX2 := Lib.hid tx2; have hdd2 := HX1.out.other HDT1.out tx2 HFs.out.ne.1 HFs.out.ne.2; have HDD2 := Lib.hid hdd2; have HOf := Lib.hid (offD X2 d F i false (-1) _ hdd2); clear hx2 hkb tx2 hdd2 x2 HC2)
        | (go_at_call 18; refine HOf.out.mono ?_; rintro e X3 ⟨rfl, rfl⟩; clear HOf))
      have hB3 : Below H w X3 := low_of ⟨HFs.out.lo.2.2.1, HFs.out.lo.2.2.2⟩ HH.out (low_of ⟨HFs.out.lo.1, HFs.out.lo.2.1⟩ HH.out HBe.out TX1.out) TX2.out
      have HB3 := Lib.hid hB3
      have HN1 := Lib.hid (namesOk X3 d F i ⟨false, -1, lastF p⟩ HDD2.out (by omega) rfl)
      clear hB3
      go_upto_region 30 with (go_at_call 19; refine HN1.out.mono ?_; rintro e X4 ⟨A4, c4, ka, rfl, hka, ho4, hb4⟩; have HKA := Lib.hid (lastF_keys.1 hka); have HB4 := Lib.hid hb4; have hc4 := own_caps ho4; have hct4 := DS.count HDD2.out hka; clear hka ho4 hb4 HN1)
      have HN2 := Lib.hid (namesOk X4 t G i ⟨false, -1, lastF p⟩ (DS.bel HX2.out HB4.out) (by omega) rfl)
      go_upto_region 31 with (go_at_call 19; refine HN2.out.mono ?_; rintro e X5 ⟨A5, c5, kb, rfl, hkb, ho5, hb5⟩; have HKB := Lib.hid (lastF_keys.1 hkb); have HB5 := Lib.hid hb5; have HO5 := Lib.hid ho5; have hc5 := own_caps ho5; have hct5 := DS.count HX2.out hkb; clear hkb ho5 hb5 HN2)
      have hnk := near_keys HNear.out HKA.out HKB.out
      have hl1 : ¬ (ka.length : Int) < (kb.length : Int) := by have := hnk.2.1; omega
      have hl2 : ¬ (kb.length : Int) + 1 < (ka.length : Int) := by have := hnk.2.2; omega
      have hl3 : decide (ka.length < kb.length) = false := decide_eq_false (by have := hnk.2.1; omega)
      have hc4a := hc4.2
      have hc5a := hc5.2
      have hc4b := hc4.1
      have hc5b := hc5.1
      unfold maxLen at hc4a hc5a
      have B5 := Lib.hid (below_more HH.out (below_more HH.out HB3.out HB4.out) HB5.out)
      have DD5 := Lib.hid ((HDD2.out.bel HB4.out).bel HB5.out)
      have DT5 := Lib.hid ((HX2.out.bel HB4.out).bel HB5.out)
      clear hnk
      go_wp2_with fail
      go_loopw [15] (fun iv wr => ∃ j : Nat, j ≤ kb.length ∧ iv = .int .i64 (j : Int) ∧ Hid (Below X5.heap.size X5 wr)) (fun iv _ => kb.length - (intOf iv).toNat)
      case atStart => exact ⟨0, by omega, rfl, Lib.hid (Below.refl _ _)⟩
      case round =>
        obtain ⟨j, hj, rfl, hBj⟩ := hrel
        by_cases hltj : j < kb.length
        · have hltj1 : (j : Int) < (kb.length : Int) := by omega
          obtain ⟨g5, hA5, hg5, gc, _, _⟩ := row_at (own_turns HO5.out (.of_below (S := fun _ => False) hBj.out) (fun _ _ => id)) j hltj
          rw [hA5] at HO5
          have hpk : p (keyB kb[j]) ≠ none := (HKB.out.2 (keyB kb[j])).1 (List.getElem_mem hltj)
          obtain ⟨⟨l, m⟩, hlm⟩ := Option.ne_none_iff_exists'.1 hpk
          have hq1 : lastF p (keyB kb[j]) = some (l.take m, m) := by simp [lastF, hlm]
          have hq2 : lastF p (keyB kb[j]) = some (l.take m, m) := (near_last HNear.out HWf.out _ hpk).trans hq1
          have hll : l.length ≤ 100000000 := by
            have := HFs.out.sp (keyB kb[j])
            simp only [pl, hlm, Option.getD_some] at this
            omega
          have HR1 := Lib.hid (readOk wr d F i ⟨false, -1, lastF p⟩ (DS.bel DD5.out hBj.out) (keyB kb[j]) (l.take m) m rfl hq2 (by rw [List.length_take]; omega))
          have HDTj := Lib.hid (DT5.out.bel hBj.out)
          have HQ1 := Lib.hid hq1
          have hlmL : (l.take m).length ≤ 100000000 := by rw [List.length_take]; omega
          clear hpk hlm hq1 hq2
          generalize keyB kb[j] = kj at *
          generalize l.take m = lm at *
          subst hA5
          go_upto_region 37 with (go_at_call 13; refine HR1.out.mono ?_; rintro e Y1 ⟨A7, c7, rfl, hb7, ho7⟩; have HO7 := Lib.hid ho7; have HB7 := Lib.hid hb7; clear hb7 ho7 HR1)
          have HR2 := Lib.hid (readOk Y1 t G i ⟨false, -1, lastF p⟩ (DS.bel HDTj.out HB7.out) kj lm m rfl HQ1.out hlmL)
          have gc' := (HB7.out.cell (p := ⟨g5, j, none⟩) hg5).trans gc
          go_upto_region 38 with (go_at_call 13; refine HR2.out.mono ?_; rintro e Y2 ⟨A8, c8, rfl, hb8, ho8⟩; have HO8 := Lib.hid ho8; have HB8 := Lib.hid hb8; clear hb8 ho8 HR2)
          have q1 := run_conv_bs (P := Try.prog) ((Bs.of_own HO7.out rfl).below HB8.out) 29 9 5 Try.underlying29 Try.underlying5 Try.underlying9 c7
          have q2 := run_conv_bs (P := Try.prog) (Bs.of_own HO8.out rfl) 29 9 5 Try.underlying29 Try.underlying5 Try.underlying9 c8
          unfold strV at q1 q2
          have HBe2 := Lib.hid (below_trans' (below_trans' hBj.out HB7.out) HB8.out)
          clear gc gc' hg5
          go_wp2_with fail
          clear q1 q2
          go_roundw
          case measure => simp only [intOf]; omega
          case rel => first | exact ⟨j + 1, by omega, by go_num, HBe2⟩ | ((repeat apply Exists.intro); exact ⟨⟨j + 1, by omega, by go_num, HBe2⟩, rfl⟩)
        · obtain rfl : j = kb.length := by omega
          have hltj1 : ¬ (kb.length : Int) < (kb.length : Int) := by omega
          go_wp2_with fail
          go_ret
          refine ⟨rfl, ?_⟩
          have := below_more HH.out B5.out hBj.out
          rw [HH.out]
          exact this
end Go.Proofs.Ytoljnklceghcdaa
