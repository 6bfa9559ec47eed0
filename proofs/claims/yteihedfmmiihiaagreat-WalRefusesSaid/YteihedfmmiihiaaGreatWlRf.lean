/- wal: WalRefuses. -/
import Derived.Test.YteihedfmmiihiaaGreatWmM
import Derived.Test.YteihedfmmiihiaaGreatWlAw
import Derived.Test.YteihedfmmiihiaaGreatWlNo
import Derived.Test.YteihedfmmiihiaaGreatWlKy
import Derived.Test.YteihedfmmiihiaaGreatWlDo
namespace Go.Proofs.YteihedfmmiihiaaGreat
open Go.RowKit Go.Maps Go.Sort Go.Shelf

theorem tidy_x (w : World) (H x d F N : Nat) (dk : Dk) (s : Sv) (wl : Nat) (h : AX w H x d F N dk s wl) (hN : N ≤ 1000000) :
    Calls Tryz.prog 14 #[.pointer (some ⟨x, 0, none⟩)] w fun e w' => e = .returned (.bool true) ∧ Below w.heap.size w w' := by
  obtain ⟨A, c, p5, p6, p7, hb, hl⟩ := h.blk
  obtain ⟨A2, c2, size, hw, hl2, ht⟩ := h.wal
  exact tidy_any w x d F N wl dk h.is h.off hN s A c p5 p6 p7 false hb hl false A2 c2 size hw hl2 ht h.cap
theorem x_ent {w : World} {x d F N : Nat} {dk : Dk} {cs : List Value} (h : dk.Is X0 w d F N) (hb : Blk w x 35 cs) : ∀ g, IsEn w g → ¬ XSet x d F g := fun g hg e => by
  rcases e with e | e
  · exact hg.ne hb (by decide) e
  · exact e_far h g hg e
theorem fuC_ok {off : Bool} {n : Int} (ho : off = false) (hn : 0 ≤ n) : fuC off n = 0 := by
  unfold fuC
  rw [ho, if_neg (by decide), if_neg (by omega)]
theorem turns_x3 (W : World) (g : Nat) (u2 u3 u4 : Value) : Turns (fun i => i = g) W (((W.setCell ⟨g, 2, none⟩ u2).setCell ⟨g, 3, none⟩ u3).setCell ⟨g, 4, none⟩ u4) :=
  Turns.set (S := fun i => i = g) (Turns.set (S := fun i => i = g) (Turns.of_set (S := fun i => i = g) W ⟨g, 2, none⟩ u2 rfl) ⟨g, 3, none⟩ u3 (fun _ => rfl)) ⟨g, 4, none⟩ u4 (fun _ => rfl)
/-- few entries, none of them long -/
theorem cap_few {s : Sv} (h : SvOk s) (hl : s.log.length ≤ 60) (hd : ∀ j, j < s.log.length → (enG s.log j).data.size ≤ 3000) : Cap s := by
  refine ⟨h, ?_⟩
  have key : ∀ L : List En, (∀ x ∈ L, x.data.size ≤ 3000) → (L.map fun x => 32 + x.data.size).sum ≤ L.length * 3032 := by
    intro L
    induction L with
    | nil => intro _; exact Nat.le_refl _
    | cons x L ih =>
      intro hL
      have h1 := ih (fun y hy => hL y (List.mem_cons_of_mem _ hy))
      have h2 := hL x List.mem_cons_self
      simp only [List.map_cons, List.sum_cons, List.length_cons]
      omega
  have h1 := key s.log (fun x hx => by
    obtain ⟨j, hj, rfl⟩ := List.getElem_of_mem hx
    rw [enG_of hj]
    exact hd j hj)
  unfold wt
  omega
set_option maxRecDepth 20000 in
set_option maxHeartbeats 32000000 in
theorem refuses_any (w : World) (A : Option Addr) (c : Nat) (s : Sv) (h : Lg w A s.log.length c s.log) :
    Calls Tryz.prog 4 #[svV s.term s.vote A s.log.length c] w fun e w' => e = .returned (.bool true) ∧ Below w.heap.size w w' := by
  obtain ⟨nl, hnl⟩ : ∃ m, s.log.length = m := ⟨_, rfl⟩
  have HNL := Lib.hid hnl
  have B0 := Lib.hid (Below.new w (.cells #[.int .i64 s.term, .int .i64 s.vote, .slice A nl c] 27))
  have K0 := Lib.hid (Blk.new w 27 [.int .i64 s.term, .int .i64 s.vote, .slice A nl c])
  have L0 : Hid (Lg (w.alloc (.cells #[.int .i64 s.term, .int .i64 s.vote, .slice A nl c] 27)) A nl c s.log) := Lib.hid (by rw [← hnl]; rw [← hnl] at B0; exact h.bel B0.out)
  have hnm : nl ≤ 9223372036854775807 := by
    have := h.cap
    unfold maxLen at this
    omega
  unfold svV
  rw [hnl]
  clear h hnl
  go_enter Tryz.func4, Tryz.ntmps4
  go_upto_region 1 with (fail)
  obtain ⟨g, hg⟩ : ∃ g, w.heap.size = g := ⟨_, rfl⟩
  rw [hg] at K0 B0 ⊢
  have HG := Lib.hid hg
  clear hg
  generalize (w.alloc (.cells #[.int .i64 s.term, .int .i64 s.vote, .slice A nl c] 27)) = Y at *
  have HAW := Lib.hid (awake_any Y)
  go_wp2_with fail
  refine HAW.out.mono ?_
  rintro e w1 ⟨rfl, hb1⟩
  have K1 := Lib.hid (K0.out.bel hb1)
  have L1 := Lib.hid (L0.out.bel hb1)
  have T1 : Hid (Turns (fun q => g ≤ q) w w1) := Lib.hid ((Turns.of_below (by rw [HG.out]; exact B0.out)).then (.of_below hb1))
  clear hb1 HAW
  have k2 : w1.cell? ⟨g, 2, none⟩ = some (.slice A nl c) := K1.out.cell 2
  by_cases h60 : 60 < nl
  · have d60 : decide (60 < (nl : Int)) = true := decide_eq_true (by omega)
    by_cases h4 : nl ≤ 4096
    · have d4 : decide ((nl : Int) ≤ 4096) = true := decide_eq_true (by omega)
      go_wp2_with fail
      go_ret
      exact ⟨rfl, T1.out.below (by have := HG.out; omega) (fun q _ e => by have := HG.out; omega)⟩
    · have d4 : decide ((nl : Int) ≤ 4096) = false := decide_eq_false (by omega)
      have HMB : Hid (mayB s = false) := Lib.hid (by
        by_cases hm : mayB s = true
        · have h1 := ((mayB_iff s).1 hm).log
          have h2 := HNL.out
          omega
        · simpa using hm)
      go_wp2_with fail
      go_loopw [3] (fun iv wr => ∃ k : Nat, k ≤ nl ∧ k ≤ 60 ∧ iv = .int .i64 (k : Int) ∧ wr = w1 ∧ Hid (∀ j, j < k → (enG s.log j).data.size ≤ 3000)) (fun iv _ => nl - (intOf iv).toNat)
      case atStart => exact ⟨0, by omega, by omega, rfl, rfl, Lib.hid (fun j hj => absurd hj (Nat.not_lt_zero _))⟩
      case round =>
        obtain ⟨k, hk, hk60, rfl, rfl, hA⟩ := hrel
        by_cases hlt : k < 60
        · have hlt1 : (k : Int) < (nl : Int) := by omega
          have hlt2 : (k : Int) < 60 := by omega
          obtain ⟨q, o, rfl⟩ := L1.out.ens.some_at (by have := HNL.out; omega)
          obtain ⟨q', o', cs, e, _, _, hcd⟩ := L1.out.ens k (by have := HNL.out; omega)
          obtain ⟨rfl, rfl⟩ : q = q' ∧ o = o' := by
            injection e with e
            injection e with e1 e2
            exact ⟨e1, e2⟩
          rw [enG_of (by have := HNL.out; omega)] at hcd
          clear e
          by_cases h3 : 3000 < (enG s.log k).data.size
          · have h3' : (3000 : Int) < ((enG s.log k).data.size : Int) := by omega
            go_wp2_with fail
            go_ret
            exact ⟨rfl, T1.out.below (by have := HG.out; omega) (fun q _ e => by have := HG.out; omega)⟩
          · have h3' : ¬ (3000 : Int) < ((enG s.log k).data.size : Int) := by omega
            have hA2 : Hid (∀ j, j < k + 1 → (enG s.log j).data.size ≤ 3000) := Lib.hid (fun j hj => by
              by_cases e : j = k
              · subst e; omega
              · exact hA.out j (by omega))
            go_wp2_with fail
            go_roundw
            case measure => simp only [intOf]; omega
            case rel => exact ⟨k + 1, by omega, by omega, by go_num, trivial, hA2⟩
        · obtain rfl : k = 60 := by omega
          have hlt1 : (60 : Int) < (nl : Int) := by omega
          have hlt1b : ((60 : Nat) : Int) < (nl : Int) := by omega
          have hlt2 : ¬ ((60 : Nat) : Int) < 60 := by omega
          clear hlt d60
          have HBG := Lib.hid (begin_any wr)
          obtain ⟨H, hH⟩ : ∃ H, wr.heap.size = H := ⟨_, rfl⟩
          have HH := Lib.hid hH
          have HGH := Lib.hid (show g < H by have := K1.out.lt; omega)
          clear hH
          go_wp2_with fail
          refine HBG.out.mono ?_
          rintro e w2 ⟨x, d, F, N, dk, wl, rfl, hax, hlit, hN10, hb2⟩
          rw [HH.out] at hax hb2
          have A2 := Lib.hid hax
          have HLT2 := Lib.hid hlit
          have B2 : Hid (Below wr.heap.size wr w2) := Lib.hid (by rw [HH.out]; exact hb2)
          have K2 := Lib.hid (K1.out.bel B2.out)
          have L2 := Lib.hid (L1.out.bel B2.out)
          have T2 : Hid (Turns (fun q => g ≤ q) w w2) := Lib.hid (T1.out.then (.of_below B2.out))
          have HLO := Lib.hid hax.lo
          have HS2 := Lib.hid (show H ≤ w2.heap.size by have := hb2.size; have := HH.out; omega)
          clear hax hlit hb2 HBG k2
          obtain ⟨A0, c0, p5, p6, p7, hbx, _⟩ := A2.out.blk
          obtain ⟨A9, c9, size, hbw, _, _⟩ := A2.out.wal
          have XB := Lib.hid hbx
          clear hbx
          go_upto_region 13 with (fail)
          have HD1 := Lib.hid (below_drewN' (Below.refl w2.heap.size w2) 1)
          have HKB := keep_bad w2.drew wl d _ (hbw.bel HD1.out) A nl c s (L2.out.bel HD1.out) HMB.out
          unfold svV at HKB
          have HKB := Lib.hid HKB
          clear hbw
          have HK : Hid (∀ V, Below w2.heap.size w2 V → V.cell? ⟨x, 1, none⟩ = some (.pointer (some ⟨wl, 0, none⟩)) ∧ V.cell? ⟨g, 0, none⟩ = some (.int .i64 s.term) ∧ V.cell? ⟨g, 1, none⟩ = some (.int .i64 s.vote) ∧ V.cell? ⟨g, 2, none⟩ = some (.slice A nl c)) := Lib.hid (fun V hV => ⟨(XB.out.bel hV).cell 1, (K2.out.bel hV).cell 0, (K2.out.bel hV).cell 1, (K2.out.bel hV).cell 2⟩)
          go_region_held3 (fun V => V.cell? ⟨x, 1, none⟩ = some (.pointer (some ⟨wl, 0, none⟩)) ∧ V.cell? ⟨g, 0, none⟩ = some (.int .i64 s.term) ∧ V.cell? ⟨g, 1, none⟩ = some (.int .i64 s.vote) ∧ V.cell? ⟨g, 2, none⟩ = some (.slice A nl c)) (first | exact HK.out _ HD1.out | exact HK.out _ B3.out) (first | (go_at_call 12; refine HKB.out.mono ?_; rintro e w3 ⟨rfl, hb3⟩; have B3 := Lib.hid (below_trans' HD1.out hb3); clear hb3))
          have A3 := Lib.hid (A2.out.bel B3.out)
          have K3 := Lib.hid (K2.out.bel B3.out)
          have L3 := Lib.hid (L2.out.bel B3.out)
          have T3 := Lib.hid (T2.out.then (.of_below B3.out))
          have HMY := may2_any w3 A nl c s L3.out
          unfold svV at HMY
          rw [HMB.out] at HMY
          have HMY := Lib.hid HMY
          have k0 : w3.cell? ⟨g, 0, none⟩ = some (.int .i64 s.term) := K3.out.cell 0
          have k1 : w3.cell? ⟨g, 1, none⟩ = some (.int .i64 s.vote) := K3.out.cell 1
          have k2 : w3.cell? ⟨g, 2, none⟩ = some (.slice A nl c) := K3.out.cell 2
          clear HK HKB HD1
          go_wp2_with fail
          refine HMY.out.mono ?_
          rintro e w4 ⟨rfl, hb4⟩
          have A4 := Lib.hid (A3.out.bel hb4)
          have HTD := Lib.hid (tidy_x w4 H x d F N dk none0 wl A4.out (by omega))
          have K4 := Lib.hid (K3.out.bel hb4)
          have L4 := Lib.hid (L3.out.bel hb4)
          have T4 := Lib.hid (T3.out.then (.of_below hb4))
          clear hb4 HMY k0 k1 k2
          go_wp2_with fail
          refine HTD.out.mono ?_
          rintro e w5 ⟨rfl, hb5⟩
          have A5 := Lib.hid (A4.out.bel hb5)
          have K5 := Lib.hid (K4.out.bel hb5)
          have L5 := Lib.hid (L4.out.bel hb5)
          have T5 := Lib.hid (T4.out.then (.of_below hb5))
          have HL5 := HLT2
          clear hb5 HTD
          have HSZ5 := Lib.hid (show H ≤ w5.heap.size by have := A5.out.lo.1; obtain ⟨_, _, _, _, _, hb, _⟩ := A5.out.blk; have := hb.lt; omega)
          have HO := Lib.hid (open_x w5 H x d F N dk none0 none A5.out.rx (by omega) (by have := T5.out.size; have := HSZ5.out; omega))
          go_wp2_with fail
          refine HO.out.mono ?_
          rintro e w6 ⟨rfl, ht6, hcase⟩
          rcases hcase with ⟨dk6, s6, wl6, ha6, _, _, hl6⟩ | ⟨_, _, hn⟩
          · have HL6 := Lib.hid (hl6 HL5.out)
            obtain ⟨_, _, _, _, _, hbx5, _⟩ := A5.out.blk
            have K6 := Lib.hid (K5.out.turns ht6 (fun e => by have := XSet.lo ⟨HLO.out.1, HLO.out.2.1, HLO.out.2.2.1⟩ _ e; have := HGH.out; omega))
            have L6 := Lib.hid (L5.out.keep ht6 (fun q cs hq _ => x_ent A5.out.is hbx5 q ⟨cs, hq⟩))
            have T6 := Lib.hid (T5.out.then (ht6.mono (fun q _ e => by have := XSet.lo ⟨HLO.out.1, HLO.out.2.1, HLO.out.2.2.1⟩ _ e; have := HGH.out; omega)))
            have A6 := Lib.hid ha6
            clear ht6 ha6 hl6 hbx5 HO
            have BV := Lib.hid (Below.new w6 (.cells #[.pointer none, .int .i64 0, .int .i64 0, .slice none 0 0, .int .i64 0, .bool false] 41))
            have KV := Lib.hid (Blk.new w6 41 [.pointer none, .int .i64 0, .int .i64 0, .slice none 0 0, .int .i64 0, .bool false])
            have AV := Lib.hid (A6.out.bel BV.out)
            have GV := Lib.hid (K6.out.bel BV.out)
            have TV := Lib.hid (T6.out.then (.of_below BV.out))
            go_upto_region 24 with (fail)
            obtain ⟨zz, hzz⟩ : ∃ zz, w6.heap.size = zz := ⟨_, rfl⟩
            rw [hzz] at KV ⊢
            clear hzz
            generalize (w6.alloc (.cells #[.pointer none, .int .i64 0, .int .i64 0, .slice none 0 0, .int .i64 0, .bool false] 41)) = V at *
            have NW : Hid (∀ W, Below V.heap.size V W → NoWal W (some ⟨zz, 0, none⟩)) := Lib.hid (fun W hW => .inr ⟨zz, rfl, (KV.out.bel hW).cell 0⟩)
            have HK1 := keep_no V none (.inl rfl) A nl c s.term s.vote
            unfold svV at HK1
            have HK1 := Lib.hid HK1
            have k0 : V.cell? ⟨g, 0, none⟩ = some (.int .i64 s.term) := GV.out.cell 0
            have k1 : V.cell? ⟨g, 1, none⟩ = some (.int .i64 s.vote) := GV.out.cell 1
            have k2 : V.cell? ⟨g, 2, none⟩ = some (.slice A nl c) := GV.out.cell 2
            go_wp2_with fail
            refine HK1.out.mono ?_
            rintro e v1 ⟨rfl, hb1⟩
            have C1 := Lib.hid hb1
            have HK2 := keep_no v1 (some ⟨zz, 0, none⟩) (NW.out v1 hb1) A nl c s.term s.vote
            unfold svV at HK2
            have HK2 := Lib.hid HK2
            clear hb1 HK1 k0 k1 k2
            have k0 : v1.cell? ⟨g, 0, none⟩ = some (.int .i64 s.term) := (GV.out.bel C1.out).cell 0
            have k1 : v1.cell? ⟨g, 1, none⟩ = some (.int .i64 s.vote) := (GV.out.bel C1.out).cell 1
            have k2 : v1.cell? ⟨g, 2, none⟩ = some (.slice A nl c) := (GV.out.bel C1.out).cell 2
            go_wp2_with fail
            refine HK2.out.mono ?_
            rintro e v2 ⟨rfl, hb2⟩
            have C2 := Lib.hid (below_trans' C1.out hb2)
            have HS1 := saved_no v2 none (.inl rfl)
            unfold svV at HS1
            have HS1 := Lib.hid HS1
            clear hb2 HK2 k0 k1 k2
            go_wp2_with fail
            refine HS1.out.mono ?_
            rintro e v3 ⟨rfl, hb3⟩
            have C3 := Lib.hid (below_trans' C2.out hb3)
            have HQ1 := same_any v3 none none 0 0 0 0 ⟨0, 0, []⟩ ⟨0, 0, []⟩ (Lg.none _) (Lg.none _)
            unfold svV at HQ1
            simp only [decide_true] at HQ1
            have HQ1 := Lib.hid HQ1
            clear hb3 HS1
            go_wp2_with fail
            refine HQ1.out.mono ?_
            rintro e v4 ⟨rfl, hb4⟩
            have C4 := Lib.hid (below_trans' C3.out hb4)
            have HS2' := saved_no v4 (some ⟨zz, 0, none⟩) (NW.out v4 C4.out)
            unfold svV at HS2'
            have HS2' := Lib.hid HS2'
            clear hb4 HQ1
            go_wp2_with fail
            refine HS2'.out.mono ?_
            rintro e v5 ⟨rfl, hb5⟩
            have C5 := Lib.hid (below_trans' C4.out hb5)
            have HQ2 := same_any v5 none none 0 0 0 0 ⟨0, 0, []⟩ ⟨0, 0, []⟩ (Lg.none _) (Lg.none _)
            unfold svV at HQ2
            simp only [decide_true] at HQ2
            have HQ2 := Lib.hid HQ2
            clear hb5 HS2'
            go_wp2_with fail
            refine HQ2.out.mono ?_
            rintro e v6 ⟨rfl, hb6⟩
            have C6 := Lib.hid (below_trans' C5.out hb6)
            have HP1 := open_no v6 none (.inl rfl)
            unfold svV at HP1
            have HP1 := Lib.hid HP1
            clear hb6 HQ2
            go_wp2_with fail
            refine HP1.out.mono ?_
            rintro e v7 ⟨rfl, hb7⟩
            have C7 := Lib.hid (below_trans' (below_trans' C6.out hb7) (Below.new2 v7 (.cells #[.int .i64 0, .int .i64 0, .slice none 0 0] 27) (.cells #[.map none, .bool false, .int .i64 0] 48)))
            have HP2 := open_no _ (some ⟨v7.heap.size + 1, 0, none⟩) (.inr ⟨_, rfl, Blk.new2 v7 (.cells #[.int .i64 0, .int .i64 0, .slice none 0 0] 27) 48 [.map none, .bool false, .int .i64 0]⟩)
            unfold svV at HP2
            have HP2 := Lib.hid HP2
            clear hb7 HP1
            go_wp2_with fail
            refine HP2.out.mono ?_
            rintro e v8 ⟨rfl, hb8⟩
            have C8 := Lib.hid (below_trans' (below_trans' C7.out hb8) (Below.new v8 (.cells #[.int .i64 0, .int .i64 0, .slice none 0 0] 27)))
            clear hb8 HP2
            go_upto_region 29 with (fail)
            generalize (v8.alloc (.cells #[.int .i64 0, .int .i64 0, .slice none 0 0] 27)) = v9 at *
            have A9 := Lib.hid (AV.out.bel C8.out)
            obtain ⟨A0', c0', p5', p6', p7', hx9, _⟩ := A9.out.blk
            obtain ⟨Aw, cw, szw, hw9, _, _⟩ := A9.out.wal
            have X9 := Lib.hid hx9
            have W9 := Lib.hid hw9
            have q0 : v9.cell? ⟨x, 0, none⟩ = some (.pointer (some ⟨d, 0, none⟩)) := hx9.cell 0
            have HF := fuseD v9 d F (N + 5) dk6.off dk6.fuse dk6.p A9.out.is 0 (by decide)
            rw [fuC_ok A9.out.off (by decide)] at HF
            have HF := Lib.hid HF
            clear hx9 hw9
            go_wp2_with fail
            refine HF.out.mono ?_
            rintro e va ⟨rfl, hda, hta⟩
            have DA : Hid ((Dk.mk false 0 dk6.p).Is X0 va d F (N + 5)) := Lib.hid (by have h1 := hda; rw [A9.out.off] at h1; exact h1)
            have XA := Lib.hid (X9.out.turns hta (x_far A9.out.is X9.out))
            have WA := Lib.hid (W9.out.turns hta (wl_far A9.out.is W9.out))
            have TA := Lib.hid ((TV.out.then (.of_below C8.out)).then (hta.mono (fun q _ e => by have := DSet.lo ⟨HLO.out.2.1, HLO.out.2.2.1⟩ _ e; have := HGH.out; omega)))
            have HA := appendD va d F (N + 5) ⟨false, 0, dk6.p⟩ DA.out kO none 0 0 [] (Bs.nil _) (Nat.le_refl _) (by have := A9.out.rx.good.shorts kO; show (pl dk6.p kO).1.length + 0 ≤ 100000000; omega) x0
            have hac : apC ⟨false, 0, dk6.p⟩ = 250 := rfl
            have has : apS ⟨false, 0, dk6.p⟩ kO [] = ⟨true, -1, upd dk6.p kO ((pl dk6.p kO).1 ++ [], (pl dk6.p kO).2)⟩ := rfl
            rw [hac, has] at HA
            have HPL : Hid ((pl (upd dk6.p kO ((pl dk6.p kO).1 ++ [], (pl dk6.p kO).2)) kW).1.length ≤ 100000000) := Lib.hid (by
              rw [pl_upd, if_neg kOW.symm]
              exact A9.out.rx.good.shorts kW)
            generalize upd dk6.p kO ((pl dk6.p kO).1 ++ [], (pl dk6.p kO).2) = pp at *
            unfold kO at HA
            have HA := Lib.hid HA
            clear q0 hda hta HF hac has
            have q0 : va.cell? ⟨x, 0, none⟩ = some (.pointer (some ⟨d, 0, none⟩)) := XA.out.cell 0
            go_wp2_with fail
            refine HA.out.mono ?_
            rintro e vb ⟨rfl, hdb, htb⟩
            have DB := Lib.hid hdb
            have XB2 := Lib.hid (XA.out.turns htb (x_far DA.out XA.out))
            have WB := Lib.hid (WA.out.turns htb (wl_far DA.out WA.out))
            have TB := Lib.hid (TA.out.then (htb.mono (fun q _ e => by have := DSet.lo ⟨HLO.out.2.1, HLO.out.2.2.1⟩ _ e; have := HGH.out; omega)))
            have HOF := open_off vb d F (N + 5 + 1) ⟨true, -1, pp⟩ DB.out rfl HPL.out
            unfold svV at HOF
            have HOF := Lib.hid HOF
            clear q0 hdb htb HA
            have q0 : vb.cell? ⟨x, 0, none⟩ = some (.pointer (some ⟨d, 0, none⟩)) := XB2.out.cell 0
            go_wp2_with fail
            refine HOF.out.mono ?_
            rintro e vc ⟨rfl, hbc⟩
            have BC := Lib.hid (below_trans' hbc (Below.new vc (.cells #[.int .i64 0, .int .i64 0, .slice none 0 0] 27)))
            clear q0 hbc HOF
            go_upto_region 32 with (fail)
            generalize (vc.alloc (.cells #[.int .i64 0, .int .i64 0, .slice none 0 0] 27)) = ve at *
            have XE := Lib.hid (XB2.out.bel BC.out)
            have WE := Lib.hid (WB.out.bel BC.out)
            have DE := Lib.hid (DS.bel DB.out BC.out)
            have TE := Lib.hid (TB.out.then (.of_below BC.out))
            have HD1 := Lib.hid (below_drewN' (Below.refl ve.heap.size ve) 1)
            have HNO := nothing_any ve.drew
            unfold svV at HNO
            have HNO := Lib.hid HNO
            have HKD : Hid (∀ W, Below ve.heap.size ve W → Calls Tryz.prog 12 #[.pointer (some ⟨wl6, 0, none⟩), .agg #[.int .i64 0, .int .i64 (-1), .slice none 0 0]] W fun e w' => e = .returned (.int .i64 250) ∧ Turns (fun i => i = wl6) W w') := Lib.hid (fun W hW => (keep_down W d F (N + 5 + 1) wl6 ⟨true, -1, pp⟩ (DS.bel DE.out hW) s6.term s6.vote (.slice Aw s6.log.length cw) false szw (WE.out.bel hW) (.inr rfl) none 0 0 none0 (Lg.none _) none0_ok).mono (fun e w' h => ⟨h.1, h.2.2⟩))
            have HXW : Hid (¬ x = wl6) := Lib.hid (fun e => by
              have h1 := XE.out
              rw [e] at h1
              have := h1.symm.trans WE.out
              simp at this)
            have HK : Hid (∀ U, Turns (fun i => i = wl6) ve U → U.cell? ⟨x, 1, none⟩ = some (.pointer (some ⟨wl6, 0, none⟩))) := Lib.hid (fun U hU => (XE.out.turns hU HXW.out).cell 1)
            go_region_held3 (fun U => U.cell? ⟨x, 1, none⟩ = some (.pointer (some ⟨wl6, 0, none⟩))) (first | exact HK.out _ (.of_below HD1.out) | exact HK.out _ (.of_below BN.out) | exact HK.out _ TK.out) (first | (go_at_call 20; refine HNO.out.mono ?_; rintro e wn ⟨rfl, hbn⟩; have BN := Lib.hid (below_trans' HD1.out hbn); clear hbn) | (go_at_call 12; refine (HKD.out _ BN.out).mono ?_; rintro e wk ⟨rfl, htk⟩; have TK := Lib.hid ((Turns.of_below (S := fun i => i = wl6) BN.out).then htk); clear htk))
            go_wp2_with fail
            go_ret
            have TF := TE.out.then (TK.out.mono (fun q _ e => by have := A9.out.lo.2.2.2; have := HGH.out; omega))
            exact ⟨rfl, TF.below (by have := HG.out; omega) (fun q _ e => by have := HG.out; omega)⟩
          · exact absurd HL5.out hn
  · have d60 : decide (60 < (nl : Int)) = false := decide_eq_false (by omega)
    go_wp2_with fail
    go_loopw [3] (fun iv wr => ∃ k : Nat, k ≤ nl ∧ k ≤ 60 ∧ iv = .int .i64 (k : Int) ∧ wr = w1 ∧ Hid (∀ j, j < k → (enG s.log j).data.size ≤ 3000)) (fun iv _ => nl - (intOf iv).toNat)
    case atStart => exact ⟨0, by omega, by omega, rfl, rfl, Lib.hid (fun j hj => absurd hj (Nat.not_lt_zero _))⟩
    case round =>
      obtain ⟨k, hk, hk60, rfl, rfl, hA⟩ := hrel
      by_cases hlt : k < nl
      · have hlt1 : (k : Int) < (nl : Int) := by omega
        have hlt2 : (k : Int) < 60 := by omega
        obtain ⟨q, o, rfl⟩ := L1.out.ens.some_at (by have := HNL.out; omega)
        obtain ⟨q', o', cs, e, _, _, hcd⟩ := L1.out.ens k (by have := HNL.out; omega)
        obtain ⟨rfl, rfl⟩ : q = q' ∧ o = o' := by
          injection e with e
          injection e with e1 e2
          exact ⟨e1, e2⟩
        rw [enG_of (by have := HNL.out; omega)] at hcd
        clear e
        by_cases h3 : 3000 < (enG s.log k).data.size
        · have h3' : (3000 : Int) < ((enG s.log k).data.size : Int) := by omega
          go_wp2_with fail
          go_ret
          exact ⟨rfl, T1.out.below (by have := HG.out; omega) (fun q _ e => by have := HG.out; omega)⟩
        · have h3' : ¬ (3000 : Int) < ((enG s.log k).data.size : Int) := by omega
          have hA2 : Hid (∀ j, j < k + 1 → (enG s.log j).data.size ≤ 3000) := Lib.hid (fun j hj => by
            by_cases e : j = k
            · subst e; omega
            · exact hA.out j (by omega))
          go_wp2_with fail
          go_roundw
          case measure => simp only [intOf]; omega
          case rel => exact ⟨k + 1, by omega, by omega, by go_num, trivial, hA2⟩
      · obtain rfl : nl = k := by omega
        have hlt1 : ¬ (nl : Int) < (nl : Int) := by omega
        have HSM := Lib.hid hA.out
        clear hlt d60
        have HBG := Lib.hid (begin_any wr)
        obtain ⟨H, hH⟩ : ∃ H, wr.heap.size = H := ⟨_, rfl⟩
        have HH := Lib.hid hH
        have HGH := Lib.hid (show g < H by have := K1.out.lt; omega)
        clear hH
        go_wp2_with fail
        refine HBG.out.mono ?_
        rintro e w2 ⟨x, d, F, N, dk, wl, rfl, hax, hlit, hN10, hb2⟩
        rw [HH.out] at hax hb2
        have A2 := Lib.hid hax
        have HLT2 := Lib.hid hlit
        have B2 : Hid (Below wr.heap.size wr w2) := Lib.hid (by rw [HH.out]; exact hb2)
        have K2 := Lib.hid (K1.out.bel B2.out)
        have L2 := Lib.hid (L1.out.bel B2.out)
        have T2 : Hid (Turns (fun q => g ≤ q) w w2) := Lib.hid (T1.out.then (.of_below B2.out))
        have HLO := Lib.hid hax.lo
        have HS2 := Lib.hid (show H ≤ w2.heap.size by have := hb2.size; have := HH.out; omega)
        clear hax hlit hb2 HBG k2
        by_cases hm : mayB s = true
        · have HMB := Lib.hid hm
          have HCAP : Hid (Cap s) := Lib.hid (cap_few ((mayB_iff s).1 hm) (by have := HNL.out; omega) (fun j hj => HSM.out j (by have := HNL.out; omega)))
          obtain ⟨A0, c0, p5, p6, p7, hbx, hlx⟩ := A2.out.blk
          obtain ⟨A9, c9, size, hbw, hlw, htd⟩ := A2.out.wal
          have XB := Lib.hid hbx
          obtain ⟨rc, rd, hr⟩ : ∃ a b, keepR dk none0 s size = (a, b) := ⟨(keepR dk none0 s size).1, (keepR dk none0 s size).2, rfl⟩
          obtain ⟨sz2, hs2⟩ : ∃ m, keepN none0 s size = m := ⟨_, rfl⟩
          have hlit := keepR_lit A2.out.off HLT2.out none0 s size
          have hsay := keep_says A2.out.off htd HCAP.out.ok (M := 2000000) (by have := HCAP.out.full; omega) (by have := htd.small; have := A2.out.cap.full; omega)
          rw [hr, hs2] at hsay
          rw [hr] at hlit
          simp only at hsay hlit
          obtain ⟨hrc, hlrd⟩ := hlit
          subst hrc
          have HSAY : Hid (rd.off = false ∧ Tidy s sz2 rd.p) := Lib.hid (by
            rcases hsay with q | q
            · exact q.2
            · exact absurd q.1 (by decide))
          have HLRD := Lib.hid hlrd
          go_upto_region 13 with (fail)
          have HD1 := Lib.hid (below_drewN' (Below.refl w2.heap.size w2) 1)
          have HKO := keep_ok w2.drew d F N wl dk (DS.bel A2.out.is HD1.out) A2.out.off x0 none0 A9 c9 size (hbw.bel HD1.out) (hlw.bel HD1.out) (by decide) ⟨by have := htd.small; have := A2.out.cap.full; omega, htd.sz⟩ A nl c s (L2.out.bel HD1.out) HCAP.out.ok (by have := HCAP.out.wgt; omega) 0 rd hr sz2 hs2
          unfold svV at HKO
          have HKO := Lib.hid HKO
          have HNF : Hid (¬ AnS d F wl x ∧ ¬ AnS d F wl g) := Lib.hid ⟨fun e => by
              rcases e with e | e | e
              · exact x_far A2.out.is XB.out (.inl e)
              · exact x_far A2.out.is XB.out (.inr e)
              · have h1 := XB.out
                rw [e] at h1
                have := h1.symm.trans hbw
                simp at this, fun e => by
              have h1 := HLO.out
              have h2 := HGH.out
              unfold AnS at e
              omega⟩
          have WB := Lib.hid hbw
          clear hbx hlx hbw hlw htd hr hs2 hsay hlrd
          have HK : Hid (∀ V, Turns (AnS d F wl) w2 V → V.cell? ⟨x, 1, none⟩ = some (.pointer (some ⟨wl, 0, none⟩)) ∧ V.cell? ⟨g, 0, none⟩ = some (.int .i64 s.term) ∧ V.cell? ⟨g, 1, none⟩ = some (.int .i64 s.vote) ∧ V.cell? ⟨g, 2, none⟩ = some (.slice A nl c)) := Lib.hid (fun V hV => ⟨(XB.out.turns hV HNF.out.1).cell 1, (K2.out.turns hV HNF.out.2).cell 0, (K2.out.turns hV HNF.out.2).cell 1, (K2.out.turns hV HNF.out.2).cell 2⟩)
          go_region_held3 (fun V => V.cell? ⟨x, 1, none⟩ = some (.pointer (some ⟨wl, 0, none⟩)) ∧ V.cell? ⟨g, 0, none⟩ = some (.int .i64 s.term) ∧ V.cell? ⟨g, 1, none⟩ = some (.int .i64 s.vote) ∧ V.cell? ⟨g, 2, none⟩ = some (.slice A nl c)) (first | exact HK.out _ (.of_below HD1.out) | exact HK.out _ TK3.out) (first | (go_at_call 12; refine HKO.out.mono ?_; rintro e w3 ⟨rfl, hd3, ht3, hc3⟩; have D3 := Lib.hid hd3; have TK3 := Lib.hid ((Turns.of_below (S := AnS d F wl) HD1.out).then ht3); have C3 := Lib.hid hc3; clear hd3 ht3 hc3))
          have X3 := Lib.hid (XB.out.turns TK3.out HNF.out.1)
          have K3 := Lib.hid (K2.out.turns TK3.out HNF.out.2)
          have L3 := Lib.hid (L2.out.keep TK3.out (fun q cs hq _ => en_far A2.out.is WB.out q ⟨cs, hq⟩))
          have T3 := Lib.hid (T2.out.then (TK3.out.mono (fun q _ e => by have h1 := HLO.out; have h2 := HGH.out; unfold AnS at e; omega)))
          have HW3 : Hid (∃ A8 c8, Blk w3 wl 41 (walC d s.term s.vote (.slice A8 s.log.length c8) false sz2) ∧ Lg w3 A8 s.log.length c8 s.log) := Lib.hid (by
            rcases C3.out with ⟨_, A8, c8, h1, h2, _⟩ | ⟨h, _⟩
            · exact ⟨A8, c8, h1, h2⟩
            · exact absurd rfl h)
          have HMY := may2_any w3 A nl c s L3.out
          unfold svV at HMY
          rw [HMB.out] at HMY
          have HMY := Lib.hid HMY
          have k0 : w3.cell? ⟨g, 0, none⟩ = some (.int .i64 s.term) := K3.out.cell 0
          have k1 : w3.cell? ⟨g, 1, none⟩ = some (.int .i64 s.vote) := K3.out.cell 1
          have k2 : w3.cell? ⟨g, 2, none⟩ = some (.slice A nl c) := K3.out.cell 2
          clear HK HKO HD1
          go_wp2_with fail
          refine HMY.out.mono ?_
          rintro e w4 ⟨rfl, hb4⟩
          have X4 := Lib.hid (X3.out.bel hb4)
          have K4 := Lib.hid (K3.out.bel hb4)
          have L4 := Lib.hid (L3.out.bel hb4)
          have D4 := Lib.hid (DS.bel D3.out hb4)
          have T4 := Lib.hid (T3.out.then (.of_below hb4))
          have HW4 : Hid (∃ A8 c8, Blk w4 wl 41 (walC d s.term s.vote (.slice A8 s.log.length c8) false sz2) ∧ Lg w4 A8 s.log.length c8 s.log) := Lib.hid (by
            obtain ⟨A8, c8, h1, h2⟩ := HW3.out
            exact ⟨A8, c8, h1.bel hb4, h2.bel hb4⟩)
          clear hb4 HMY k0 k1 k2
          have k0 : w4.cell? ⟨g, 0, none⟩ = some (.int .i64 s.term) := K4.out.cell 0
          have k1 : w4.cell? ⟨g, 1, none⟩ = some (.int .i64 s.vote) := K4.out.cell 1
          have k2 : w4.cell? ⟨g, 2, none⟩ = some (.slice A nl c) := K4.out.cell 2
          have q2 : w4.cell? ⟨x, 2, none⟩ = some (.int .i64 0) := X4.out.cell 2
          have q3 : w4.cell? ⟨x, 3, none⟩ = some (.int .i64 (-1)) := X4.out.cell 3
          have q4 : w4.cell? ⟨x, 4, none⟩ = some (.slice A0 0 c0) := X4.out.cell 4
          have f2 := X4.out.fz 2
          have f3 := X4.out.fz 3
          have f4 := X4.out.fz 4
          go_upto_region 18 with (fail)
          have XU : Hid (Blk (((w4.setCell ⟨x, 2, none⟩ (.int .i64 s.term)).setCell ⟨x, 3, none⟩ (.int .i64 s.vote)).setCell ⟨x, 4, none⟩ (.slice A nl c)) x 35 (xC d (some ⟨wl, 0, none⟩) s A c p5 p6 p7 false)) := Lib.hid (by unfold xC; rw [HNL.out]; exact ((X4.out.set 2 (.int .i64 s.term)).set 3 (.int .i64 s.vote)).set 4 (.slice A nl c))
          have TU := Lib.hid (turns_x3 w4 x (.int .i64 s.term) (.int .i64 s.vote) (.slice A nl c))
          generalize (((w4.setCell ⟨x, 2, none⟩ (.int .i64 s.term)).setCell ⟨x, 3, none⟩ (.int .i64 s.vote)).setCell ⟨x, 4, none⟩ (.slice A nl c)) = U at *
          clear k0 k1 k2 q2 q3 q4 f2 f3 f4
          have hxd : ¬ d = x := fun e => HNF.out.1 (.inl e.symm)
          have hxF : ¬ F = x := fun e => HNF.out.1 (.inr (.inl e.symm))
          have hxw : ¬ wl = x := fun e => HNF.out.1 (.inr (.inr e.symm))
          have EX : ∀ q, IsEn w4 q → ¬ q = x := fun q hq e => hq.ne X4.out (by decide) e
          have LU := Lib.hid (L4.out.keep TU.out (fun q cs hq _ => EX q ⟨cs, hq⟩))
          have AU : Hid (AX U H x d F (N + 5) rd s wl) := Lib.hid (by
            obtain ⟨A8, c8, h1, h2⟩ := HW4.out
            exact ⟨HLO.out, DS.keep D4.out TU.out hxd hxF (fun q cur hq _ e => IsU8.ne ⟨cur, hq⟩ X4.out (by decide) e), HSAY.out.1, ⟨A, c, p5, p6, p7, XU.out, by rw [HNL.out]; exact LU.out⟩, ⟨A8, c8, sz2, h1.turns TU.out hxw, h2.keep TU.out (fun q cs hq _ => EX q ⟨cs, hq⟩), HSAY.out.2⟩, HCAP.out⟩)
          have KU := Lib.hid (K4.out.turns TU.out (show ¬ g = x by have := HLO.out; have := HGH.out; omega))
          have TUU := Lib.hid (T4.out.then (TU.out.mono (fun q _ e => by have := HLO.out; have := HGH.out; omega)))
          have HTD := Lib.hid (tidy_x U H x d F (N + 5) rd s wl AU.out (by omega))
          clear hxd hxF hxw EX
          go_wp2_with fail
          refine HTD.out.mono ?_
          rintro e w5 ⟨rfl, hb5⟩
          have A5 := Lib.hid (AU.out.bel hb5)
          have K5 := Lib.hid (KU.out.bel hb5)
          have L5 := Lib.hid (LU.out.bel hb5)
          have T5 := Lib.hid (TUU.out.then (.of_below hb5))
          have HL5 := HLRD
          clear hb5 HTD
          have HSZ5 := Lib.hid (show H ≤ w5.heap.size by have := A5.out.lo.1; obtain ⟨_, _, _, _, _, hb, _⟩ := A5.out.blk; have := hb.lt; omega)
          have HO := Lib.hid (open_x w5 H x d F (N + 5) rd s none A5.out.rx (by omega) (by have := T5.out.size; have := HSZ5.out; omega))
          go_wp2_with fail
          refine HO.out.mono ?_
          rintro e w6 ⟨rfl, ht6, hcase⟩
          rcases hcase with ⟨dk6, s6, wl6, ha6, _, _, hl6⟩ | ⟨_, _, hn⟩
          · have HL6 := Lib.hid (hl6 HL5.out)
            obtain ⟨_, _, _, _, _, hbx5, _⟩ := A5.out.blk
            have K6 := Lib.hid (K5.out.turns ht6 (fun e => by have := XSet.lo ⟨HLO.out.1, HLO.out.2.1, HLO.out.2.2.1⟩ _ e; have := HGH.out; omega))
            have L6 := Lib.hid (L5.out.keep ht6 (fun q cs hq _ => x_ent A5.out.is hbx5 q ⟨cs, hq⟩))
            have T6 := Lib.hid (T5.out.then (ht6.mono (fun q _ e => by have := XSet.lo ⟨HLO.out.1, HLO.out.2.1, HLO.out.2.2.1⟩ _ e; have := HGH.out; omega)))
            have A6 := Lib.hid ha6
            clear ht6 ha6 hl6 hbx5 HO
            have BV := Lib.hid (Below.new w6 (.cells #[.pointer none, .int .i64 0, .int .i64 0, .slice none 0 0, .int .i64 0, .bool false] 41))
            have KV := Lib.hid (Blk.new w6 41 [.pointer none, .int .i64 0, .int .i64 0, .slice none 0 0, .int .i64 0, .bool false])
            have AV := Lib.hid (A6.out.bel BV.out)
            have GV := Lib.hid (K6.out.bel BV.out)
            have TV := Lib.hid (T6.out.then (.of_below BV.out))
            go_upto_region 24 with (fail)
            obtain ⟨zz, hzz⟩ : ∃ zz, w6.heap.size = zz := ⟨_, rfl⟩
            rw [hzz] at KV ⊢
            clear hzz
            generalize (w6.alloc (.cells #[.pointer none, .int .i64 0, .int .i64 0, .slice none 0 0, .int .i64 0, .bool false] 41)) = V at *
            have NW : Hid (∀ W, Below V.heap.size V W → NoWal W (some ⟨zz, 0, none⟩)) := Lib.hid (fun W hW => .inr ⟨zz, rfl, (KV.out.bel hW).cell 0⟩)
            have HK1 := keep_no V none (.inl rfl) A nl c s.term s.vote
            unfold svV at HK1
            have HK1 := Lib.hid HK1
            have k0 : V.cell? ⟨g, 0, none⟩ = some (.int .i64 s.term) := GV.out.cell 0
            have k1 : V.cell? ⟨g, 1, none⟩ = some (.int .i64 s.vote) := GV.out.cell 1
            have k2 : V.cell? ⟨g, 2, none⟩ = some (.slice A nl c) := GV.out.cell 2
            go_wp2_with fail
            refine HK1.out.mono ?_
            rintro e v1 ⟨rfl, hb1⟩
            have C1 := Lib.hid hb1
            have HK2 := keep_no v1 (some ⟨zz, 0, none⟩) (NW.out v1 hb1) A nl c s.term s.vote
            unfold svV at HK2
            have HK2 := Lib.hid HK2
            clear hb1 HK1 k0 k1 k2
            have k0 : v1.cell? ⟨g, 0, none⟩ = some (.int .i64 s.term) := (GV.out.bel C1.out).cell 0
            have k1 : v1.cell? ⟨g, 1, none⟩ = some (.int .i64 s.vote) := (GV.out.bel C1.out).cell 1
            have k2 : v1.cell? ⟨g, 2, none⟩ = some (.slice A nl c) := (GV.out.bel C1.out).cell 2
            go_wp2_with fail
            refine HK2.out.mono ?_
            rintro e v2 ⟨rfl, hb2⟩
            have C2 := Lib.hid (below_trans' C1.out hb2)
            have HS1 := saved_no v2 none (.inl rfl)
            unfold svV at HS1
            have HS1 := Lib.hid HS1
            clear hb2 HK2 k0 k1 k2
            go_wp2_with fail
            refine HS1.out.mono ?_
            rintro e v3 ⟨rfl, hb3⟩
            have C3 := Lib.hid (below_trans' C2.out hb3)
            have HQ1 := same_any v3 none none 0 0 0 0 ⟨0, 0, []⟩ ⟨0, 0, []⟩ (Lg.none _) (Lg.none _)
            unfold svV at HQ1
            simp only [decide_true] at HQ1
            have HQ1 := Lib.hid HQ1
            clear hb3 HS1
            go_wp2_with fail
            refine HQ1.out.mono ?_
            rintro e v4 ⟨rfl, hb4⟩
            have C4 := Lib.hid (below_trans' C3.out hb4)
            have HS2' := saved_no v4 (some ⟨zz, 0, none⟩) (NW.out v4 C4.out)
            unfold svV at HS2'
            have HS2' := Lib.hid HS2'
            clear hb4 HQ1
            go_wp2_with fail
            refine HS2'.out.mono ?_
            rintro e v5 ⟨rfl, hb5⟩
            have C5 := Lib.hid (below_trans' C4.out hb5)
            have HQ2 := same_any v5 none none 0 0 0 0 ⟨0, 0, []⟩ ⟨0, 0, []⟩ (Lg.none _) (Lg.none _)
            unfold svV at HQ2
            simp only [decide_true] at HQ2
            have HQ2 := Lib.hid HQ2
            clear hb5 HS2'
            go_wp2_with fail
            refine HQ2.out.mono ?_
            rintro e v6 ⟨rfl, hb6⟩
            have C6 := Lib.hid (below_trans' C5.out hb6)
            have HP1 := open_no v6 none (.inl rfl)
            unfold svV at HP1
            have HP1 := Lib.hid HP1
            clear hb6 HQ2
            go_wp2_with fail
            refine HP1.out.mono ?_
            rintro e v7 ⟨rfl, hb7⟩
            have C7 := Lib.hid (below_trans' (below_trans' C6.out hb7) (Below.new2 v7 (.cells #[.int .i64 0, .int .i64 0, .slice none 0 0] 27) (.cells #[.map none, .bool false, .int .i64 0] 48)))
            have HP2 := open_no _ (some ⟨v7.heap.size + 1, 0, none⟩) (.inr ⟨_, rfl, Blk.new2 v7 (.cells #[.int .i64 0, .int .i64 0, .slice none 0 0] 27) 48 [.map none, .bool false, .int .i64 0]⟩)
            unfold svV at HP2
            have HP2 := Lib.hid HP2
            clear hb7 HP1
            go_wp2_with fail
            refine HP2.out.mono ?_
            rintro e v8 ⟨rfl, hb8⟩
            have C8 := Lib.hid (below_trans' (below_trans' C7.out hb8) (Below.new v8 (.cells #[.int .i64 0, .int .i64 0, .slice none 0 0] 27)))
            clear hb8 HP2
            go_upto_region 29 with (fail)
            generalize (v8.alloc (.cells #[.int .i64 0, .int .i64 0, .slice none 0 0] 27)) = v9 at *
            have A9 := Lib.hid (AV.out.bel C8.out)
            obtain ⟨A0', c0', p5', p6', p7', hx9, _⟩ := A9.out.blk
            obtain ⟨Aw, cw, szw, hw9, _, _⟩ := A9.out.wal
            have X9 := Lib.hid hx9
            have W9 := Lib.hid hw9
            have q0 : v9.cell? ⟨x, 0, none⟩ = some (.pointer (some ⟨d, 0, none⟩)) := hx9.cell 0
            have HF := fuseD v9 d F ((N + 5) + 5) dk6.off dk6.fuse dk6.p A9.out.is 0 (by decide)
            rw [fuC_ok A9.out.off (by decide)] at HF
            have HF := Lib.hid HF
            clear hx9 hw9
            go_wp2_with fail
            refine HF.out.mono ?_
            rintro e va ⟨rfl, hda, hta⟩
            have DA : Hid ((Dk.mk false 0 dk6.p).Is X0 va d F ((N + 5) + 5)) := Lib.hid (by have h1 := hda; rw [A9.out.off] at h1; exact h1)
            have XA := Lib.hid (X9.out.turns hta (x_far A9.out.is X9.out))
            have WA := Lib.hid (W9.out.turns hta (wl_far A9.out.is W9.out))
            have TA := Lib.hid ((TV.out.then (.of_below C8.out)).then (hta.mono (fun q _ e => by have := DSet.lo ⟨HLO.out.2.1, HLO.out.2.2.1⟩ _ e; have := HGH.out; omega)))
            have HA := appendD va d F ((N + 5) + 5) ⟨false, 0, dk6.p⟩ DA.out kO none 0 0 [] (Bs.nil _) (Nat.le_refl _) (by have := A9.out.rx.good.shorts kO; show (pl dk6.p kO).1.length + 0 ≤ 100000000; omega) x0
            have hac : apC ⟨false, 0, dk6.p⟩ = 250 := rfl
            have has : apS ⟨false, 0, dk6.p⟩ kO [] = ⟨true, -1, upd dk6.p kO ((pl dk6.p kO).1 ++ [], (pl dk6.p kO).2)⟩ := rfl
            rw [hac, has] at HA
            have HPL : Hid ((pl (upd dk6.p kO ((pl dk6.p kO).1 ++ [], (pl dk6.p kO).2)) kW).1.length ≤ 100000000) := Lib.hid (by
              rw [pl_upd, if_neg kOW.symm]
              exact A9.out.rx.good.shorts kW)
            generalize upd dk6.p kO ((pl dk6.p kO).1 ++ [], (pl dk6.p kO).2) = pp at *
            unfold kO at HA
            have HA := Lib.hid HA
            clear q0 hda hta HF hac has
            have q0 : va.cell? ⟨x, 0, none⟩ = some (.pointer (some ⟨d, 0, none⟩)) := XA.out.cell 0
            go_wp2_with fail
            refine HA.out.mono ?_
            rintro e vb ⟨rfl, hdb, htb⟩
            have DB := Lib.hid hdb
            have XB2 := Lib.hid (XA.out.turns htb (x_far DA.out XA.out))
            have WB := Lib.hid (WA.out.turns htb (wl_far DA.out WA.out))
            have TB := Lib.hid (TA.out.then (htb.mono (fun q _ e => by have := DSet.lo ⟨HLO.out.2.1, HLO.out.2.2.1⟩ _ e; have := HGH.out; omega)))
            have HOF := open_off vb d F ((N + 5) + 5 + 1) ⟨true, -1, pp⟩ DB.out rfl HPL.out
            unfold svV at HOF
            have HOF := Lib.hid HOF
            clear q0 hdb htb HA
            have q0 : vb.cell? ⟨x, 0, none⟩ = some (.pointer (some ⟨d, 0, none⟩)) := XB2.out.cell 0
            go_wp2_with fail
            refine HOF.out.mono ?_
            rintro e vc ⟨rfl, hbc⟩
            have BC := Lib.hid (below_trans' hbc (Below.new vc (.cells #[.int .i64 0, .int .i64 0, .slice none 0 0] 27)))
            clear q0 hbc HOF
            go_upto_region 32 with (fail)
            generalize (vc.alloc (.cells #[.int .i64 0, .int .i64 0, .slice none 0 0] 27)) = ve at *
            have XE := Lib.hid (XB2.out.bel BC.out)
            have WE := Lib.hid (WB.out.bel BC.out)
            have DE := Lib.hid (DS.bel DB.out BC.out)
            have TE := Lib.hid (TB.out.then (.of_below BC.out))
            have HD1 := Lib.hid (below_drewN' (Below.refl ve.heap.size ve) 1)
            have HNO := nothing_any ve.drew
            unfold svV at HNO
            have HNO := Lib.hid HNO
            have HKD : Hid (∀ W, Below ve.heap.size ve W → Calls Tryz.prog 12 #[.pointer (some ⟨wl6, 0, none⟩), .agg #[.int .i64 0, .int .i64 (-1), .slice none 0 0]] W fun e w' => e = .returned (.int .i64 250) ∧ Turns (fun i => i = wl6) W w') := Lib.hid (fun W hW => (keep_down W d F ((N + 5) + 5 + 1) wl6 ⟨true, -1, pp⟩ (DS.bel DE.out hW) s6.term s6.vote (.slice Aw s6.log.length cw) false szw (WE.out.bel hW) (.inr rfl) none 0 0 none0 (Lg.none _) none0_ok).mono (fun e w' h => ⟨h.1, h.2.2⟩))
            have HXW : Hid (¬ x = wl6) := Lib.hid (fun e => by
              have h1 := XE.out
              rw [e] at h1
              have := h1.symm.trans WE.out
              simp at this)
            have HK : Hid (∀ U, Turns (fun i => i = wl6) ve U → U.cell? ⟨x, 1, none⟩ = some (.pointer (some ⟨wl6, 0, none⟩))) := Lib.hid (fun U hU => (XE.out.turns hU HXW.out).cell 1)
            go_region_held3 (fun U => U.cell? ⟨x, 1, none⟩ = some (.pointer (some ⟨wl6, 0, none⟩))) (first | exact HK.out _ (.of_below HD1.out) | exact HK.out _ (.of_below BN.out) | exact HK.out _ TK.out) (first | (go_at_call 20; refine HNO.out.mono ?_; rintro e wn ⟨rfl, hbn⟩; have BN := Lib.hid (below_trans' HD1.out hbn); clear hbn) | (go_at_call 12; refine (HKD.out _ BN.out).mono ?_; rintro e wk ⟨rfl, htk⟩; have TK := Lib.hid ((Turns.of_below (S := fun i => i = wl6) BN.out).then htk); clear htk))
            go_wp2_with fail
            go_ret
            have TF := TE.out.then (TK.out.mono (fun q _ e => by have := A9.out.lo.2.2.2; have := HGH.out; omega))
            exact ⟨rfl, TF.below (by have := HG.out; omega) (fun q _ e => by have := HG.out; omega)⟩
          · exact absurd HL5.out hn
        · have HMB : Hid (mayB s = false) := Lib.hid (by simpa using hm)
          obtain ⟨A0, c0, p5, p6, p7, hbx, _⟩ := A2.out.blk
          obtain ⟨A9, c9, size, hbw, _, _⟩ := A2.out.wal
          have XB := Lib.hid hbx
          clear hbx
          go_upto_region 13 with (fail)
          have HD1 := Lib.hid (below_drewN' (Below.refl w2.heap.size w2) 1)
          have HKB := keep_bad w2.drew wl d _ (hbw.bel HD1.out) A nl c s (L2.out.bel HD1.out) HMB.out
          unfold svV at HKB
          have HKB := Lib.hid HKB
          clear hbw
          have HK : Hid (∀ V, Below w2.heap.size w2 V → V.cell? ⟨x, 1, none⟩ = some (.pointer (some ⟨wl, 0, none⟩)) ∧ V.cell? ⟨g, 0, none⟩ = some (.int .i64 s.term) ∧ V.cell? ⟨g, 1, none⟩ = some (.int .i64 s.vote) ∧ V.cell? ⟨g, 2, none⟩ = some (.slice A nl c)) := Lib.hid (fun V hV => ⟨(XB.out.bel hV).cell 1, (K2.out.bel hV).cell 0, (K2.out.bel hV).cell 1, (K2.out.bel hV).cell 2⟩)
          go_region_held3 (fun V => V.cell? ⟨x, 1, none⟩ = some (.pointer (some ⟨wl, 0, none⟩)) ∧ V.cell? ⟨g, 0, none⟩ = some (.int .i64 s.term) ∧ V.cell? ⟨g, 1, none⟩ = some (.int .i64 s.vote) ∧ V.cell? ⟨g, 2, none⟩ = some (.slice A nl c)) (first | exact HK.out _ HD1.out | exact HK.out _ B3.out) (first | (go_at_call 12; refine HKB.out.mono ?_; rintro e w3 ⟨rfl, hb3⟩; have B3 := Lib.hid (below_trans' HD1.out hb3); clear hb3))
          have A3 := Lib.hid (A2.out.bel B3.out)
          have K3 := Lib.hid (K2.out.bel B3.out)
          have L3 := Lib.hid (L2.out.bel B3.out)
          have T3 := Lib.hid (T2.out.then (.of_below B3.out))
          have HMY := may2_any w3 A nl c s L3.out
          unfold svV at HMY
          rw [HMB.out] at HMY
          have HMY := Lib.hid HMY
          have k0 : w3.cell? ⟨g, 0, none⟩ = some (.int .i64 s.term) := K3.out.cell 0
          have k1 : w3.cell? ⟨g, 1, none⟩ = some (.int .i64 s.vote) := K3.out.cell 1
          have k2 : w3.cell? ⟨g, 2, none⟩ = some (.slice A nl c) := K3.out.cell 2
          clear HK HKB HD1
          go_wp2_with fail
          refine HMY.out.mono ?_
          rintro e w4 ⟨rfl, hb4⟩
          have A4 := Lib.hid (A3.out.bel hb4)
          have HTD := Lib.hid (tidy_x w4 H x d F N dk none0 wl A4.out (by omega))
          have K4 := Lib.hid (K3.out.bel hb4)
          have L4 := Lib.hid (L3.out.bel hb4)
          have T4 := Lib.hid (T3.out.then (.of_below hb4))
          clear hb4 HMY k0 k1 k2
          go_wp2_with fail
          refine HTD.out.mono ?_
          rintro e w5 ⟨rfl, hb5⟩
          have A5 := Lib.hid (A4.out.bel hb5)
          have K5 := Lib.hid (K4.out.bel hb5)
          have L5 := Lib.hid (L4.out.bel hb5)
          have T5 := Lib.hid (T4.out.then (.of_below hb5))
          have HL5 := HLT2
          clear hb5 HTD
          have HSZ5 := Lib.hid (show H ≤ w5.heap.size by have := A5.out.lo.1; obtain ⟨_, _, _, _, _, hb, _⟩ := A5.out.blk; have := hb.lt; omega)
          have HO := Lib.hid (open_x w5 H x d F N dk none0 none A5.out.rx (by omega) (by have := T5.out.size; have := HSZ5.out; omega))
          go_wp2_with fail
          refine HO.out.mono ?_
          rintro e w6 ⟨rfl, ht6, hcase⟩
          rcases hcase with ⟨dk6, s6, wl6, ha6, _, _, hl6⟩ | ⟨_, _, hn⟩
          · have HL6 := Lib.hid (hl6 HL5.out)
            obtain ⟨_, _, _, _, _, hbx5, _⟩ := A5.out.blk
            have K6 := Lib.hid (K5.out.turns ht6 (fun e => by have := XSet.lo ⟨HLO.out.1, HLO.out.2.1, HLO.out.2.2.1⟩ _ e; have := HGH.out; omega))
            have L6 := Lib.hid (L5.out.keep ht6 (fun q cs hq _ => x_ent A5.out.is hbx5 q ⟨cs, hq⟩))
            have T6 := Lib.hid (T5.out.then (ht6.mono (fun q _ e => by have := XSet.lo ⟨HLO.out.1, HLO.out.2.1, HLO.out.2.2.1⟩ _ e; have := HGH.out; omega)))
            have A6 := Lib.hid ha6
            clear ht6 ha6 hl6 hbx5 HO
            have BV := Lib.hid (Below.new w6 (.cells #[.pointer none, .int .i64 0, .int .i64 0, .slice none 0 0, .int .i64 0, .bool false] 41))
            have KV := Lib.hid (Blk.new w6 41 [.pointer none, .int .i64 0, .int .i64 0, .slice none 0 0, .int .i64 0, .bool false])
            have AV := Lib.hid (A6.out.bel BV.out)
            have GV := Lib.hid (K6.out.bel BV.out)
            have TV := Lib.hid (T6.out.then (.of_below BV.out))
            go_upto_region 24 with (fail)
            obtain ⟨zz, hzz⟩ : ∃ zz, w6.heap.size = zz := ⟨_, rfl⟩
            rw [hzz] at KV ⊢
            clear hzz
            generalize (w6.alloc (.cells #[.pointer none, .int .i64 0, .int .i64 0, .slice none 0 0, .int .i64 0, .bool false] 41)) = V at *
            have NW : Hid (∀ W, Below V.heap.size V W → NoWal W (some ⟨zz, 0, none⟩)) := Lib.hid (fun W hW => .inr ⟨zz, rfl, (KV.out.bel hW).cell 0⟩)
            have HK1 := keep_no V none (.inl rfl) A nl c s.term s.vote
            unfold svV at HK1
            have HK1 := Lib.hid HK1
            have k0 : V.cell? ⟨g, 0, none⟩ = some (.int .i64 s.term) := GV.out.cell 0
            have k1 : V.cell? ⟨g, 1, none⟩ = some (.int .i64 s.vote) := GV.out.cell 1
            have k2 : V.cell? ⟨g, 2, none⟩ = some (.slice A nl c) := GV.out.cell 2
            go_wp2_with fail
            refine HK1.out.mono ?_
            rintro e v1 ⟨rfl, hb1⟩
            have C1 := Lib.hid hb1
            have HK2 := keep_no v1 (some ⟨zz, 0, none⟩) (NW.out v1 hb1) A nl c s.term s.vote
            unfold svV at HK2
            have HK2 := Lib.hid HK2
            clear hb1 HK1 k0 k1 k2
            have k0 : v1.cell? ⟨g, 0, none⟩ = some (.int .i64 s.term) := (GV.out.bel C1.out).cell 0
            have k1 : v1.cell? ⟨g, 1, none⟩ = some (.int .i64 s.vote) := (GV.out.bel C1.out).cell 1
            have k2 : v1.cell? ⟨g, 2, none⟩ = some (.slice A nl c) := (GV.out.bel C1.out).cell 2
            go_wp2_with fail
            refine HK2.out.mono ?_
            rintro e v2 ⟨rfl, hb2⟩
            have C2 := Lib.hid (below_trans' C1.out hb2)
            have HS1 := saved_no v2 none (.inl rfl)
            unfold svV at HS1
            have HS1 := Lib.hid HS1
            clear hb2 HK2 k0 k1 k2
            go_wp2_with fail
            refine HS1.out.mono ?_
            rintro e v3 ⟨rfl, hb3⟩
            have C3 := Lib.hid (below_trans' C2.out hb3)
            have HQ1 := same_any v3 none none 0 0 0 0 ⟨0, 0, []⟩ ⟨0, 0, []⟩ (Lg.none _) (Lg.none _)
            unfold svV at HQ1
            simp only [decide_true] at HQ1
            have HQ1 := Lib.hid HQ1
            clear hb3 HS1
            go_wp2_with fail
            refine HQ1.out.mono ?_
            rintro e v4 ⟨rfl, hb4⟩
            have C4 := Lib.hid (below_trans' C3.out hb4)
            have HS2' := saved_no v4 (some ⟨zz, 0, none⟩) (NW.out v4 C4.out)
            unfold svV at HS2'
            have HS2' := Lib.hid HS2'
            clear hb4 HQ1
            go_wp2_with fail
            refine HS2'.out.mono ?_
            rintro e v5 ⟨rfl, hb5⟩
            have C5 := Lib.hid (below_trans' C4.out hb5)
            have HQ2 := same_any v5 none none 0 0 0 0 ⟨0, 0, []⟩ ⟨0, 0, []⟩ (Lg.none _) (Lg.none _)
            unfold svV at HQ2
            simp only [decide_true] at HQ2
            have HQ2 := Lib.hid HQ2
            clear hb5 HS2'
            go_wp2_with fail
            refine HQ2.out.mono ?_
            rintro e v6 ⟨rfl, hb6⟩
            have C6 := Lib.hid (below_trans' C5.out hb6)
            have HP1 := open_no v6 none (.inl rfl)
            unfold svV at HP1
            have HP1 := Lib.hid HP1
            clear hb6 HQ2
            go_wp2_with fail
            refine HP1.out.mono ?_
            rintro e v7 ⟨rfl, hb7⟩
            have C7 := Lib.hid (below_trans' (below_trans' C6.out hb7) (Below.new2 v7 (.cells #[.int .i64 0, .int .i64 0, .slice none 0 0] 27) (.cells #[.map none, .bool false, .int .i64 0] 48)))
            have HP2 := open_no _ (some ⟨v7.heap.size + 1, 0, none⟩) (.inr ⟨_, rfl, Blk.new2 v7 (.cells #[.int .i64 0, .int .i64 0, .slice none 0 0] 27) 48 [.map none, .bool false, .int .i64 0]⟩)
            unfold svV at HP2
            have HP2 := Lib.hid HP2
            clear hb7 HP1
            go_wp2_with fail
            refine HP2.out.mono ?_
            rintro e v8 ⟨rfl, hb8⟩
            have C8 := Lib.hid (below_trans' (below_trans' C7.out hb8) (Below.new v8 (.cells #[.int .i64 0, .int .i64 0, .slice none 0 0] 27)))
            clear hb8 HP2
            go_upto_region 29 with (fail)
            generalize (v8.alloc (.cells #[.int .i64 0, .int .i64 0, .slice none 0 0] 27)) = v9 at *
            have A9 := Lib.hid (AV.out.bel C8.out)
            obtain ⟨A0', c0', p5', p6', p7', hx9, _⟩ := A9.out.blk
            obtain ⟨Aw, cw, szw, hw9, _, _⟩ := A9.out.wal
            have X9 := Lib.hid hx9
            have W9 := Lib.hid hw9
            have q0 : v9.cell? ⟨x, 0, none⟩ = some (.pointer (some ⟨d, 0, none⟩)) := hx9.cell 0
            have HF := fuseD v9 d F (N + 5) dk6.off dk6.fuse dk6.p A9.out.is 0 (by decide)
            rw [fuC_ok A9.out.off (by decide)] at HF
            have HF := Lib.hid HF
            clear hx9 hw9
            go_wp2_with fail
            refine HF.out.mono ?_
            rintro e va ⟨rfl, hda, hta⟩
            have DA : Hid ((Dk.mk false 0 dk6.p).Is X0 va d F (N + 5)) := Lib.hid (by have h1 := hda; rw [A9.out.off] at h1; exact h1)
            have XA := Lib.hid (X9.out.turns hta (x_far A9.out.is X9.out))
            have WA := Lib.hid (W9.out.turns hta (wl_far A9.out.is W9.out))
            have TA := Lib.hid ((TV.out.then (.of_below C8.out)).then (hta.mono (fun q _ e => by have := DSet.lo ⟨HLO.out.2.1, HLO.out.2.2.1⟩ _ e; have := HGH.out; omega)))
            have HA := appendD va d F (N + 5) ⟨false, 0, dk6.p⟩ DA.out kO none 0 0 [] (Bs.nil _) (Nat.le_refl _) (by have := A9.out.rx.good.shorts kO; show (pl dk6.p kO).1.length + 0 ≤ 100000000; omega) x0
            have hac : apC ⟨false, 0, dk6.p⟩ = 250 := rfl
            have has : apS ⟨false, 0, dk6.p⟩ kO [] = ⟨true, -1, upd dk6.p kO ((pl dk6.p kO).1 ++ [], (pl dk6.p kO).2)⟩ := rfl
            rw [hac, has] at HA
            have HPL : Hid ((pl (upd dk6.p kO ((pl dk6.p kO).1 ++ [], (pl dk6.p kO).2)) kW).1.length ≤ 100000000) := Lib.hid (by
              rw [pl_upd, if_neg kOW.symm]
              exact A9.out.rx.good.shorts kW)
            generalize upd dk6.p kO ((pl dk6.p kO).1 ++ [], (pl dk6.p kO).2) = pp at *
            unfold kO at HA
            have HA := Lib.hid HA
            clear q0 hda hta HF hac has
            have q0 : va.cell? ⟨x, 0, none⟩ = some (.pointer (some ⟨d, 0, none⟩)) := XA.out.cell 0
            go_wp2_with fail
            refine HA.out.mono ?_
            rintro e vb ⟨rfl, hdb, htb⟩
            have DB := Lib.hid hdb
            have XB2 := Lib.hid (XA.out.turns htb (x_far DA.out XA.out))
            have WB := Lib.hid (WA.out.turns htb (wl_far DA.out WA.out))
            have TB := Lib.hid (TA.out.then (htb.mono (fun q _ e => by have := DSet.lo ⟨HLO.out.2.1, HLO.out.2.2.1⟩ _ e; have := HGH.out; omega)))
            have HOF := open_off vb d F (N + 5 + 1) ⟨true, -1, pp⟩ DB.out rfl HPL.out
            unfold svV at HOF
            have HOF := Lib.hid HOF
            clear q0 hdb htb HA
            have q0 : vb.cell? ⟨x, 0, none⟩ = some (.pointer (some ⟨d, 0, none⟩)) := XB2.out.cell 0
            go_wp2_with fail
            refine HOF.out.mono ?_
            rintro e vc ⟨rfl, hbc⟩
            have BC := Lib.hid (below_trans' hbc (Below.new vc (.cells #[.int .i64 0, .int .i64 0, .slice none 0 0] 27)))
            clear q0 hbc HOF
            go_upto_region 32 with (fail)
            generalize (vc.alloc (.cells #[.int .i64 0, .int .i64 0, .slice none 0 0] 27)) = ve at *
            have XE := Lib.hid (XB2.out.bel BC.out)
            have WE := Lib.hid (WB.out.bel BC.out)
            have DE := Lib.hid (DS.bel DB.out BC.out)
            have TE := Lib.hid (TB.out.then (.of_below BC.out))
            have HD1 := Lib.hid (below_drewN' (Below.refl ve.heap.size ve) 1)
            have HNO := nothing_any ve.drew
            unfold svV at HNO
            have HNO := Lib.hid HNO
            have HKD : Hid (∀ W, Below ve.heap.size ve W → Calls Tryz.prog 12 #[.pointer (some ⟨wl6, 0, none⟩), .agg #[.int .i64 0, .int .i64 (-1), .slice none 0 0]] W fun e w' => e = .returned (.int .i64 250) ∧ Turns (fun i => i = wl6) W w') := Lib.hid (fun W hW => (keep_down W d F (N + 5 + 1) wl6 ⟨true, -1, pp⟩ (DS.bel DE.out hW) s6.term s6.vote (.slice Aw s6.log.length cw) false szw (WE.out.bel hW) (.inr rfl) none 0 0 none0 (Lg.none _) none0_ok).mono (fun e w' h => ⟨h.1, h.2.2⟩))
            have HXW : Hid (¬ x = wl6) := Lib.hid (fun e => by
              have h1 := XE.out
              rw [e] at h1
              have := h1.symm.trans WE.out
              simp at this)
            have HK : Hid (∀ U, Turns (fun i => i = wl6) ve U → U.cell? ⟨x, 1, none⟩ = some (.pointer (some ⟨wl6, 0, none⟩))) := Lib.hid (fun U hU => (XE.out.turns hU HXW.out).cell 1)
            go_region_held3 (fun U => U.cell? ⟨x, 1, none⟩ = some (.pointer (some ⟨wl6, 0, none⟩))) (first | exact HK.out _ (.of_below HD1.out) | exact HK.out _ (.of_below BN.out) | exact HK.out _ TK.out) (first | (go_at_call 20; refine HNO.out.mono ?_; rintro e wn ⟨rfl, hbn⟩; have BN := Lib.hid (below_trans' HD1.out hbn); clear hbn) | (go_at_call 12; refine (HKD.out _ BN.out).mono ?_; rintro e wk ⟨rfl, htk⟩; have TK := Lib.hid ((Turns.of_below (S := fun i => i = wl6) BN.out).then htk); clear htk))
            go_wp2_with fail
            go_ret
            have TF := TE.out.then (TK.out.mono (fun q _ e => by have := A9.out.lo.2.2.2; have := HGH.out; omega))
            exact ⟨rfl, TF.below (by have := HG.out; omega) (fun q _ e => by have := HG.out; omega)⟩
          · exact absurd HL5.out hn
end Go.Proofs.YteihedfmmiihiaaGreat
