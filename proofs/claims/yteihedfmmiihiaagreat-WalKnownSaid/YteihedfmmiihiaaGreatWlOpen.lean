/- wal: Open. -/
import Derived.Test.YteihedfmmiihiaaGreatWmH
namespace Go.Proofs.YteihedfmmiihiaaGreat
open Go.RowKit
variable {Xs : Nat → Prop}

theorem results_tct {P : Program} {fn : Func} {u p v : Tmp} {ty : TypeId} (h : fn.results = #[.tmp u, .cell p ty, .tmp v]) (tmps : Array Value) (w : World) (g : Nat) (t : TypeId) (cs : Array Value) (fr : Nat × Nat) (d : TypeDesc)
    (hp : tmps.getD p undef = .pointer (some ⟨g, 0, none⟩)) (hg : w.heap[g]? = some (.cells cs t fr))
    (hu : P.underlying ty = some d) (hd : (match d with | .struct _ | .array _ _ => true | _ => false) = true) (hi : (P.info? ty).map (·.size) = some cs.size) :
    (results fn tmps).run P w = .ok (.tuple #[tmps.getD u undef, .agg cs, tmps.getD v undef]) w := by
  have hp' : tmps[p]?.getD undef = .pointer (some ⟨g, 0, none⟩) := by simpa using hp
  simp [results, h, hp', asAddr, run_loadVar_row w g t ty cs fr d hg hu hd hi]
theorem en_far {W : World} {d F N wl : Nat} {dk : Dk} {cs : List Value} (h : dk.Is Xs W d F N) (hw : Blk W wl 41 cs) : ∀ g, IsEn W g → ¬ AnS d F wl g := fun g hg e => by
  rcases e with e | e | e
  · exact hg.ne (DS.blk h) (by decide) e
  · subst e
    obtain ⟨cur, hc⟩ := hg
    obtain ⟨mv, n, _, hm, _⟩ := DS.files h
    exact hm.ne_cells hc rfl
  · exact hg.ne hw (by decide) e
theorem turns_set3 (W : World) (g : Nat) (u0 u1 u2 : Value) : Turns (fun i => i = g) W (((W.setCell ⟨g, 0, none⟩ u0).setCell ⟨g, 1, none⟩ u1).setCell ⟨g, 2, none⟩ u2) :=
  Turns.set (S := fun i => i = g) (Turns.set (S := fun i => i = g) (Turns.of_set (S := fun i => i = g) W ⟨g, 0, none⟩ u0 rfl) ⟨g, 1, none⟩ u1 (fun _ => rfl)) ⟨g, 2, none⟩ u2 (fun _ => rfl)
theorem Rb.nil (w : World) : Rb w none 0 [] := ⟨⟨Bs.nil _, (fun ad e _ => by cases e), ⟨Nat.le_refl _, Nat.zero_le _⟩⟩, fun ad e _ => by cases e⟩
/-- the file is read -/
theorem read_w (w : World) (d F N : Nat) (dk : Dk) (h : dk.Is Xs w d F N) (hoff : dk.off = false) (k : ByteArray) (L : List UInt8) (hL : (pl dk.p k).1 = L) (hLl : L.length ≤ 100000000) :
    Calls Tryz.prog 36 #[.pointer (some ⟨d, 0, none⟩), .string k] w fun e w' => ∃ (A : Option Addr) (c : Nat) (q : Int), e = .returned (.tuple #[.slice A L.length c, .int .i64 q]) ∧ (q = 0 ∨ q = 5) ∧ Rb w' A c L ∧ Below w.heap.size w w' := by
  refine (readD w d F N dk h k (by rw [hL]; exact hLl)).mono ?_
  rintro e w' ⟨v, rfl, hb, h1, h2⟩
  unfold thC at h1 h2 ⊢
  rw [hoff] at h1 h2 ⊢
  cases hp : dk.p k with
  | none =>
    rw [hp] at h1 h2
    have hv := h1 (by simp)
    subst hv
    have hl0 : L = [] := by rw [← hL, pl_none hp]
    subst hl0
    exact ⟨none, 0, 5, by simp, .inr rfl, .nil _, hb⟩
  | some f =>
    rw [hp] at h1 h2
    have ho := h2 (by simp)
    rw [hL] at ho
    obtain ⟨A, c, rfl⟩ := own_slice' ho
    exact ⟨A, c, 0, by simp, .inl rfl, Rb.of_own (H := w.heap.size) ho, hb⟩
def OpenY (Xs : Nat → Prop) (w : World) (d F N : Nat) (s : Sv) (size : Nat) (r : Int × Dk) (e : Ending) (w' : World) : Prop :=
  r.2.Is Xs w' d F (N + 5) ∧ Turns (DSet d F) w w' ∧
  ((r.1 = 0 ∧ ∃ wl A c A2 c2 H, e = .returned (.tuple #[.pointer (some ⟨wl, 0, none⟩), svV s.term s.vote A2 s.log.length c2, .int .i64 0]) ∧ w.heap.size ≤ wl ∧ Blk w' wl 41 (walC d s.term s.vote (.slice A s.log.length c) false size) ∧ Lg w' A s.log.length c s.log ∧ OwnE w' H A2 c2 s.log ∧ w.heap.size ≤ H ∧ wl < H ∧ (0 < s.log.length → ∀ g, A.map Addr.block = some g → g < H)) ∨
   (r.1 ≠ 0 ∧ e = .returned (.tuple #[.pointer none, svV 0 0 none 0 0, .int .i64 r.1])))
set_option maxRecDepth 20000 in
set_option maxHeartbeats 4000000 in
theorem open_off (w : World) (d F N : Nat) (dk : Dk) (h : dk.Is Xs w d F N) (hoff : dk.off = true) (hL : (pl dk.p kW).1.length ≤ 100000000) :
    Calls Tryz.prog 17 #[.pointer (some ⟨d, 0, none⟩)] w fun e w' => e = .returned (.tuple #[.pointer none, svV 0 0 none 0 0, .int .i64 250]) ∧ Below w.heap.size w w' := by
  have B0 := Below.new w (.cells #[.int .i64 0, .int .i64 0, .slice none 0 0] 27)
  have K0 := Lib.hid (Blk.new w 27 [.int .i64 0, .int .i64 0, .slice none 0 0])
  have HR := readD _ d F N dk (DS.bel h B0) kW hL
  unfold kW at HR
  have HR := Lib.hid HR
  have HB0 := Lib.hid B0
  have HOF := Lib.hid hoff
  clear h hoff B0
  go_enter Tryz.func17, Tryz.ntmps17
  go_wp2_with fail
  refine HR.out.mono ?_
  rintro e W ⟨v, rfl, hb, h1, h2⟩
  have hth : thC dk.off (dk.p ⟨#[119, 97, 108]⟩).isSome = 250 := by unfold thC; rw [HOF.out]; rfl
  rw [hth] at h1 ⊢
  have hv := h1 (by decide)
  subst hv
  have N0 := Lib.hid (K0.out.bel hb)
  have HB := Lib.hid (below_trans' HB0.out hb)
  clear hb h1 h2 hth
  have e0 : W.cell? ⟨w.heap.size, 0, none⟩ = some (.int .i64 0) := N0.out.cell 0
  have e1 : W.cell? ⟨w.heap.size, 1, none⟩ = some (.int .i64 0) := N0.out.cell 1
  have e2 : W.cell? ⟨w.heap.size, 2, none⟩ = some (.slice none 0 0) := N0.out.cell 2
  have y0 := N0.out.fz 0
  have y1 := N0.out.fz 1
  have y2 := N0.out.fz 2
  go_wp2_with fail
  have PK := ((N0.out.set 0 (.int .i64 0)).set 1 (.int .i64 0)).set 2 (.slice none 0 0)
  refine bodyPost_ret (results_tct (h := rfl) (g := w.heap.size) (t := 27) (cs := ([.int .i64 0, .int .i64 0, .slice none 0 0] : List Value).toArray) (fr := (0, 0)) (hp := rfl) (hg := PK) (hu := Tryz.underlying27) (hd := rfl) (hi := by kernel_rfl) _ _) rfl ?_
  exact ⟨rfl, ((HB.out.setCell (p := ⟨w.heap.size, 0, none⟩) (Nat.le_refl _) _).setCell (p := ⟨w.heap.size, 1, none⟩) (Nat.le_refl _) _).setCell (p := ⟨w.heap.size, 2, none⟩) (Nat.le_refl _) _⟩
/-- what the opening does to the disk -/
def openR (dk : Dk) (s : Sv) (t : List UInt8) : Int × Dk := if t = [] then clR dk else anewR dk (runB (recB none0 s))
def openN (s : Sv) (l t : List UInt8) : Nat := if t = [] then l.length else full s
set_option maxRecDepth 20000 in
set_option maxHeartbeats 4000000 in
theorem open_on (w : World) (d F N : Nat) (dk : Dk) (h : dk.Is Xs w d F N) (hoff : dk.off = false) (hxs : ∀ g, Xs g → g < w.heap.size) (L l t : List UInt8) (s : Sv) (hL : (pl dk.p kW).1 = L) (hLl : L.length ≤ 100000000) (hLt : L = l ++ t) (hF : FileIs l s) (hT : Rest t) (hwt : wt s ≤ 20000000) :
    Calls Tryz.prog 17 #[.pointer (some ⟨d, 0, none⟩)] w (OpenY Xs w d F N s (openN s l t) (openR dk s t)) := by
  have B0 := Below.new w (.cells #[.int .i64 0, .int .i64 0, .slice none 0 0] 27)
  have K0 := Lib.hid (Blk.new w 27 [.int .i64 0, .int .i64 0, .slice none 0 0])
  have HR := read_w _ d F N dk (DS.bel h B0) hoff kW L hL hLl
  unfold kW at HR
  have HR := Lib.hid HR
  have HB0 := Lib.hid B0
  have HD := Lib.hid h
  have HXS := Lib.hid hxs
  have HLL := Lib.hid hLl
  have HLT := Lib.hid hLt
  have HF := Lib.hid hF
  have HT := Lib.hid hT
  have HW := Lib.hid hwt
  have HSO := Lib.hid hF.ok
  clear h hoff B0 hxs hLl hLt hF hT hwt hL
  go_enter Tryz.func17, Tryz.ntmps17
  go_wp2_with fail
  refine HR.out.mono ?_
  rintro e W1 ⟨A, c, q, rfl, hq, hrb, hb1⟩
  have N0 := Lib.hid (K0.out.bel hb1)
  have B1 := Lib.hid (below_trans' HB0.out hb1)
  have HLD := Lib.hid (load_any W1 A c L l t s hrb HLL.out HLT.out HF.out HT.out)
  clear hrb hb1
  obtain ⟨nl, hnl⟩ : ∃ n, s.log.length = n := ⟨_, rfl⟩
  rcases hq with rfl | rfl
  all_goals
    go_wp2_with fail
    refine HLD.out.mono ?_
    rintro e W2 ⟨A2, c2, rfl, hl2, hb2⟩
    have N2 := Lib.hid (N0.out.bel hb2)
    have B2 := Lib.hid (below_trans' B1.out hb2)
    have L2 := Lib.hid hl2
    clear hl2 hb2
    unfold svV
    go_upto_region 8 with (fail)
    have BN := Lib.hid (Below.new2 W2 (.cells #[.int .i64 s.term, .int .i64 s.vote, .slice A2 nl c2] 27) (.cells #[.pointer (some ⟨d, 0, none⟩), .int .i64 s.term, .int .i64 s.vote, .slice A2 nl c2, .int .i64 (l.length : Int), .bool false] 41))
    have KS := Lib.hid ((Blk.new W2 27 [.int .i64 s.term, .int .i64 s.vote, .slice A2 nl c2]).alloc (.cells #[.pointer (some ⟨d, 0, none⟩), .int .i64 s.term, .int .i64 s.vote, .slice A2 nl c2, .int .i64 (l.length : Int), .bool false] 41))
    have KW := Lib.hid (Blk.new2 W2 (.cells #[.int .i64 s.term, .int .i64 s.vote, .slice A2 nl c2] 27) 41 [.pointer (some ⟨d, 0, none⟩), .int .i64 s.term, .int .i64 s.vote, .slice A2 nl c2, .int .i64 (l.length : Int), .bool false])
    have NX := Lib.hid (N2.out.bel BN.out)
    have LX := L2.out.bel BN.out
    rw [hnl] at LX
    have LX := Lib.hid LX
    have BX := Lib.hid (below_trans' B2.out BN.out)
    have HW2 : Hid (w.heap.size + 1 ≤ W2.heap.size) := Lib.hid (by have := N2.out.lt; omega)
    have hlts := HD.out.lts
    generalize ((W2.alloc (.cells #[.int .i64 s.term, .int .i64 s.vote, .slice A2 nl c2] 27)).alloc (.cells #[.pointer (some ⟨d, 0, none⟩), .int .i64 s.term, .int .i64 s.vote, .slice A2 nl c2, .int .i64 (l.length : Int), .bool false] 41)) = X at *
    generalize W2.heap.size = z2 at *
    have k0 : X.cell? ⟨z2, 0, none⟩ = some (.int .i64 s.term) := KS.out.cell 0
    have k1 : X.cell? ⟨z2, 1, none⟩ = some (.int .i64 s.vote) := KS.out.cell 1
    have k2 : X.cell? ⟨z2, 2, none⟩ = some (.slice A2 nl c2) := KS.out.cell 2
    have HDX := Lib.hid (DS.bel HD.out BX.out)
    have HXX : Hid (∀ g, Xs g → g < X.heap.size) := Lib.hid (fun g hg => Nat.lt_of_lt_of_le (HXS.out g hg) BX.out.size)
    have HKW : Hid (Blk X (z2 + 1) 41 (walC d s.term s.vote (.slice A2 nl c2) false l.length)) := KW
    obtain ⟨rc, rd, hr⟩ : ∃ a b, openR dk s t = (a, b) := ⟨(openR dk s t).1, (openR dk s t).2, rfl⟩
    obtain ⟨sz, hsz⟩ : ∃ n, openN s l t = n := ⟨_, rfl⟩
    have HSZ := Lib.hid hsz
    have HRR := Lib.hid hr
    try rw [hr, hsz]
    clear hsz
    by_cases ht : t = []
    · have hlL : ¬ (l.length : Int) < (L.length : Int) := by have := HLT.out; rw [this, ht]; simp
      have HC := clear_any X d F N dk HDX.out
      have hr2 : openR dk s t = clR dk := by unfold openR; rw [if_pos ht]
      have hsz2 : sz = l.length := by rw [← HSZ.out]; unfold openN; rw [if_pos ht]
      rw [← hr2, hr] at HC
      dsimp only at HC
      have HC := Lib.hid HC
      clear hr hr2 ht
      go_wp2_with fail
      refine HC.out.mono ?_
      rintro e W3 ⟨rfl, h1, h2⟩
      have R1 := Lib.hid (show rd.Is Xs W3 d F (N + 5) from DS.wide h1 (by omega))
      have R2 := Lib.hid (show Blk W3 (z2 + 1) 41 (walC d s.term s.vote (.slice A2 nl c2) false (if rc = 0 then sz else l.length)) from by rw [hsz2, ite_self]; exact HKW.out.turns h2 (fun e => by have := HW2.out; rcases e with e | e <;> omega))
      have R3 := Lib.hid (h2.mono (T := AnS d F (z2 + 1)) (fun i _ e => by rcases e with e | e; exact .inl e; exact .inr (.inl e)))
      clear h1 h2 hsz2 HC
      have L3 := Lib.hid (LX.out.keep R3.out (fun g cs hg _ => en_far HDX.out HKW.out g ⟨cs, hg⟩))
      have N3 := Lib.hid (NX.out.turns R3.out (by have := HW2.out; unfold AnS; omega))
      have S3 := Lib.hid (KS.out.turns R3.out (by have := HW2.out; unfold AnS; omega))
      have TW : Hid (Turns (DSet d F) w W3) := Lib.hid (((Turns.of_below (S := AnS d F (z2 + 1)) BX.out).then R3.out).mono (fun i hi e => by rcases e with e | e | e; exact .inl e; exact .inr e; have := HW2.out; omega))
      clear k0 k1 k2
      have e0 : W3.cell? ⟨w.heap.size, 0, none⟩ = some (.int .i64 0) := N3.out.cell 0
      have e1 : W3.cell? ⟨w.heap.size, 1, none⟩ = some (.int .i64 0) := N3.out.cell 1
      have e2 : W3.cell? ⟨w.heap.size, 2, none⟩ = some (.slice none 0 0) := N3.out.cell 2
      have y0 := N3.out.fz 0
      have y1 := N3.out.fz 1
      have y2 := N3.out.fz 2
      by_cases hc : rc = 0
      · have R2b := R2.out
        rw [if_pos hc, ← hnl] at R2b
        have HSV := saved_any W3 (z2 + 1) d s A2 c2 sz false R2b (by rw [hnl]; exact L3.out) (by have := HSO.out.log; omega)
        have HSV := Lib.hid HSV
        have R2b := Lib.hid R2b
        clear hlL
        go_wp2_with fail
        refine HSV.out.mono ?_
        rintro e W4 ⟨A5, c5, rfl, ho5, hb5⟩
        have O5 := Lib.hid ho5
        have B5 := Lib.hid hb5
        have N4 := Lib.hid (N3.out.bel hb5)
        clear ho5 hb5 e0 e1 e2 y0 y1 y2
        have e0 : W4.cell? ⟨w.heap.size, 0, none⟩ = some (.int .i64 0) := N4.out.cell 0
        have e1 : W4.cell? ⟨w.heap.size, 1, none⟩ = some (.int .i64 0) := N4.out.cell 1
        have e2 : W4.cell? ⟨w.heap.size, 2, none⟩ = some (.slice none 0 0) := N4.out.cell 2
        have y0 := N4.out.fz 0
        have y1 := N4.out.fz 1
        have y2 := N4.out.fz 2
        unfold svV
        go_wp2_with fail
        have PK := ((N4.out.set 0 (.int .i64 s.term)).set 1 (.int .i64 s.vote)).set 2 (.slice A5 nl c5)
        have T5 := turns_set3 W4 w.heap.size (.int .i64 s.term) (.int .i64 s.vote) (.slice A5 nl c5)
        have T6 := (Turns.of_below (S := fun i => i = w.heap.size) B5.out).then T5
        refine bodyPost_ret (results_tct (h := rfl) (g := w.heap.size) (t := 27) (cs := ([.int .i64 s.term, .int .i64 s.vote, .slice A5 nl c5] : List Value).toArray) (fr := (0, 0)) (hp := rfl) (hg := PK) (hu := Tryz.underlying27) (hd := rfl) (hi := by kernel_rfl) _ _) rfl ?_
        have hz2 : z2 + 1 < W3.heap.size := R2b.out.lt
        rw [HRR.out, HSZ.out]
        refine ⟨DS.keep R1.out T6 (by omega) (by omega) (fun g cur hg _ e => by subst e; exact IsU8.ne ⟨cur, hg⟩ N3.out (by decide) rfl), TW.out.trans T6 (fun i hi e => by omega), .inl ⟨hc, z2 + 1, A2, c2, A5, c5, W3.heap.size, ?_, by have := HW2.out; omega, R2b.out.turns T6 (by have := HW2.out; omega), ?_, ?_, ?_, hz2, ?_⟩⟩
        · rw [hnl]; rfl
        · rw [hnl]; exact L3.out.keep T6 (fun g cs hg _ e => IsEn.ne ⟨cs, hg⟩ N3.out (by decide) e)
        · exact O5.out.keep T5 (fun g hg e => by have := O5.out.ge g hg; have := N3.out.lt; omega)
        · have := N3.out.lt; omega
        · intro h0 g hg
          obtain ⟨g', o', cs, e, hh, _⟩ := L3.out.ens 0 h0
          have := (Array.getElem?_eq_some_iff.1 hh).1
          rw [e] at hg
          injection hg with hg
          subst hg
          exact this
      · have hb : (rc == 0) = false := by simpa using hc
        clear hlL
        go_wp2_with fail
        have PK := ((N3.out.set 0 (.int .i64 0)).set 1 (.int .i64 0)).set 2 (.slice none 0 0)
        have T5 := turns_set3 W3 w.heap.size (.int .i64 0) (.int .i64 0) (.slice none 0 0)
        refine bodyPost_ret (results_tct (h := rfl) (g := w.heap.size) (t := 27) (cs := ([.int .i64 0, .int .i64 0, .slice none 0 0] : List Value).toArray) (fr := (0, 0)) (hp := rfl) (hg := PK) (hu := Tryz.underlying27) (hd := rfl) (hi := by kernel_rfl) _ _) rfl ?_
        rw [HRR.out, HSZ.out]
        exact ⟨DS.keep R1.out T5 (by omega) (by omega) (fun g cur hg _ e => by subst e; exact IsU8.ne ⟨cur, hg⟩ N3.out (by decide) rfl), TW.out.trans T5 (fun i hi e => by omega), .inr ⟨hc, rfl⟩⟩
    · have hlL : (l.length : Int) < (L.length : Int) := by
        have := HLT.out
        have h0 := List.length_pos_iff.2 ht
        rw [this, List.length_append]
        omega
      have HC := anew_any X d F N (z2 + 1) dk HDX.out HXX.out s.term s.vote (.slice A2 nl c2) false l.length HKW.out A2 nl c2 s LX.out HSO.out HW.out
      have hr2 : openR dk s t = anewR dk (runB (recB none0 s)) := by unfold openR; rw [if_neg ht]
      have hsz2 : full s = sz := by rw [← HSZ.out]; unfold openN; rw [if_neg ht]
      rw [← hr2, hr, hsz2] at HC
      unfold svV WroteY at HC
      dsimp only at HC
      have HC := Lib.hid HC
      clear hr hr2 ht hsz2
      go_wp2_with fail
      refine HC.out.mono ?_
      rintro e W3 ⟨rfl, h1, h2, h3⟩
      have R1 := Lib.hid h1
      have R2 := Lib.hid h2
      have R3 := Lib.hid h3
      clear h1 h2 h3 HC
      have L3 := Lib.hid (LX.out.keep R3.out (fun g cs hg _ => en_far HDX.out HKW.out g ⟨cs, hg⟩))
      have N3 := Lib.hid (NX.out.turns R3.out (by have := HW2.out; unfold AnS; omega))
      have S3 := Lib.hid (KS.out.turns R3.out (by have := HW2.out; unfold AnS; omega))
      have TW : Hid (Turns (DSet d F) w W3) := Lib.hid (((Turns.of_below (S := AnS d F (z2 + 1)) BX.out).then R3.out).mono (fun i hi e => by rcases e with e | e | e; exact .inl e; exact .inr e; have := HW2.out; omega))
      clear k0 k1 k2
      have e0 : W3.cell? ⟨w.heap.size, 0, none⟩ = some (.int .i64 0) := N3.out.cell 0
      have e1 : W3.cell? ⟨w.heap.size, 1, none⟩ = some (.int .i64 0) := N3.out.cell 1
      have e2 : W3.cell? ⟨w.heap.size, 2, none⟩ = some (.slice none 0 0) := N3.out.cell 2
      have y0 := N3.out.fz 0
      have y1 := N3.out.fz 1
      have y2 := N3.out.fz 2
      by_cases hc : rc = 0
      · have R2b := R2.out
        rw [if_pos hc, ← hnl] at R2b
        have HSV := saved_any W3 (z2 + 1) d s A2 c2 sz false R2b (by rw [hnl]; exact L3.out) (by have := HSO.out.log; omega)
        have HSV := Lib.hid HSV
        have R2b := Lib.hid R2b
        clear hlL
        go_wp2_with fail
        refine HSV.out.mono ?_
        rintro e W4 ⟨A5, c5, rfl, ho5, hb5⟩
        have O5 := Lib.hid ho5
        have B5 := Lib.hid hb5
        have N4 := Lib.hid (N3.out.bel hb5)
        clear ho5 hb5 e0 e1 e2 y0 y1 y2
        have e0 : W4.cell? ⟨w.heap.size, 0, none⟩ = some (.int .i64 0) := N4.out.cell 0
        have e1 : W4.cell? ⟨w.heap.size, 1, none⟩ = some (.int .i64 0) := N4.out.cell 1
        have e2 : W4.cell? ⟨w.heap.size, 2, none⟩ = some (.slice none 0 0) := N4.out.cell 2
        have y0 := N4.out.fz 0
        have y1 := N4.out.fz 1
        have y2 := N4.out.fz 2
        unfold svV
        go_wp2_with fail
        have PK := ((N4.out.set 0 (.int .i64 s.term)).set 1 (.int .i64 s.vote)).set 2 (.slice A5 nl c5)
        have T5 := turns_set3 W4 w.heap.size (.int .i64 s.term) (.int .i64 s.vote) (.slice A5 nl c5)
        have T6 := (Turns.of_below (S := fun i => i = w.heap.size) B5.out).then T5
        refine bodyPost_ret (results_tct (h := rfl) (g := w.heap.size) (t := 27) (cs := ([.int .i64 s.term, .int .i64 s.vote, .slice A5 nl c5] : List Value).toArray) (fr := (0, 0)) (hp := rfl) (hg := PK) (hu := Tryz.underlying27) (hd := rfl) (hi := by kernel_rfl) _ _) rfl ?_
        have hz2 : z2 + 1 < W3.heap.size := R2b.out.lt
        rw [HRR.out, HSZ.out]
        refine ⟨DS.keep R1.out T6 (by omega) (by omega) (fun g cur hg _ e => by subst e; exact IsU8.ne ⟨cur, hg⟩ N3.out (by decide) rfl), TW.out.trans T6 (fun i hi e => by omega), .inl ⟨hc, z2 + 1, A2, c2, A5, c5, W3.heap.size, ?_, by have := HW2.out; omega, R2b.out.turns T6 (by have := HW2.out; omega), ?_, ?_, ?_, hz2, ?_⟩⟩
        · rw [hnl]; rfl
        · rw [hnl]; exact L3.out.keep T6 (fun g cs hg _ e => IsEn.ne ⟨cs, hg⟩ N3.out (by decide) e)
        · exact O5.out.keep T5 (fun g hg e => by have := O5.out.ge g hg; have := N3.out.lt; omega)
        · have := N3.out.lt; omega
        · intro h0 g hg
          obtain ⟨g', o', cs, e, hh, _⟩ := L3.out.ens 0 h0
          have := (Array.getElem?_eq_some_iff.1 hh).1
          rw [e] at hg
          injection hg with hg
          subst hg
          exact this
      · have hb : (rc == 0) = false := by simpa using hc
        clear hlL
        go_wp2_with fail
        have PK := ((N3.out.set 0 (.int .i64 0)).set 1 (.int .i64 0)).set 2 (.slice none 0 0)
        have T5 := turns_set3 W3 w.heap.size (.int .i64 0) (.int .i64 0) (.slice none 0 0)
        refine bodyPost_ret (results_tct (h := rfl) (g := w.heap.size) (t := 27) (cs := ([.int .i64 0, .int .i64 0, .slice none 0 0] : List Value).toArray) (fr := (0, 0)) (hp := rfl) (hg := PK) (hu := Tryz.underlying27) (hd := rfl) (hi := by kernel_rfl) _ _) rfl ?_
        rw [HRR.out, HSZ.out]
        exact ⟨DS.keep R1.out T5 (by omega) (by omega) (fun g cur hg _ e => by subst e; exact IsU8.ne ⟨cur, hg⟩ N3.out (by decide) rfl), TW.out.trans T5 (fun i hi e => by omega), .inr ⟨hc, rfl⟩⟩
end Go.Proofs.YteihedfmmiihiaaGreat
