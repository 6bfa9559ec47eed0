/- wal: WalKeeps. -/
import Derived.Test.YteihedfmmiihiaaGreatWmN
import Derived.Test.YteihedfmmiihiaaGreatWlAw
import Derived.Test.YteihedfmmiihiaaGreatWlDeedsOf
namespace Go.Proofs.YteihedfmmiihiaaGreat
open Go.RowKit Go.Maps Go.Sort Go.Shelf

set_option maxRecDepth 20000 in
set_option maxHeartbeats 8000000 in
theorem keeps_any (w : World) (a : Option Addr) (n c : Nat) (S : Nat → Dee) (h : Dees0 w a n S) :
    Calls Tryz.prog 5 #[.slice a n c] w fun e w' => e = .returned (.bool true) ∧ Below w.heap.size w w' := by
  have HS0 := Lib.hid h
  unfold Dees0 at HS0
  have hnl := h.len
  unfold maxLen at hnl
  have HAW := Lib.hid (awake_any w)
  clear h
  go_enter Tryz.func5, Tryz.ntmps5
  go_wp2_with fail
  refine HAW.out.mono ?_
  rintro e w1 ⟨rfl, hb1⟩
  have B1 := Lib.hid hb1
  have S1 := Lib.hid (HS0.out.keep' (.of_below (S := fun _ => False) hb1) (fun _ e => e.elim))
  have HLG := Lib.hid (long_any w1 w.heap.size a n c S S1.out)
  clear hb1 HAW
  go_wp2_with fail
  refine HLG.out.mono ?_
  rintro e w1' ⟨b, rfl, hb, rfl⟩
  cases b with
  | true =>
    clear hb
    go_wp2_with fail
    go_ret
    exact ⟨rfl, B1.out⟩
  | false =>
    obtain ⟨hn60, hsz⟩ := hb rfl
    have HSZ := Lib.hid hsz
    have HBG := Lib.hid (begin_any w1')
    obtain ⟨H, hH⟩ : ∃ H, w1'.heap.size = H := ⟨_, rfl⟩
    have HH := Lib.hid hH
    clear hb hsz HLG hH
    go_wp2_with fail
    refine HBG.out.mono ?_
    rintro e w2 ⟨x, d, F, N, dk, wl, rfl, hax, _, hN10, hb2⟩
    rw [HH.out] at hax hb2
    have S2 := Lib.hid (S1.out.keep' (.of_below (S := fun _ => False) (by rw [HH.out]; exact hb2)) (fun _ e => e.elim))
    have ST2 : Hid (StX w2 H x d F N 0) := Lib.hid ⟨dk, none0, none, .inl ⟨rfl, wl, hax⟩, Few.zero, fun _ e => by cases e⟩
    have B2 : Hid (Below w.heap.size w w2) := Lib.hid (B1.out.trans (hb2.mono (by have := B1.out.size; have := HH.out; omega)))
    have HLO := Lib.hid (show w.heap.size ≤ H by have := B1.out.size; have := HH.out; omega)
    have HH2 := Lib.hid (show H ≤ w2.heap.size by have := hb2.size; have := HH.out; omega)
    clear hax hb2 HBG
    go_wp2_with fail
    go_loopw [5] (fun iv wr => ∃ i : Nat, i ≤ n ∧ iv = .int .i64 (i : Int) ∧ Hid (StX wr H x d F (N + 5 * i) i) ∧ Hid (Turns (fun g => H ≤ g) w2 wr)) (fun iv _ => n - (intOf iv).toNat)
    case atStart => exact ⟨0, by omega, rfl, ST2, Lib.hid (Turns.refl _ _)⟩
    case round =>
      obtain ⟨i, hi, rfl, hSt, hT⟩ := hrel
      by_cases hlt : i < n
      · have hlt1 : (i : Int) < (n : Int) := by omega
        have SR := Lib.hid (S2.out.keep' hT.out (fun g e => by have := HLO.out; omega))
        obtain ⟨b, o, rfl, _, hl, c0, c1, c2, c3, c4⟩ := SR.out.cell i hlt
        have HDO := do_any wr H x d F (N + 5 * i) i hSt.out (by omega) (by omega) (by have := hT.out.size; have := HH2.out; omega) (S i) (SR.out.num i hlt) (HSZ.out i hlt) (by
          have h := SR.out.keep i hlt
          exact ⟨h.1, h.2.1, h.2.2.1, fun b o e h0 => by have := h.2.2.2 b o e h0; have := HLO.out; omega⟩)
        unfold Dee.v at HDO
        have HDO := Lib.hid HDO
        go_wp2_with fail
        refine HDO.out.mono ?_
        rintro e w3 ⟨rfl, ht3, hst3⟩
        have T3 := Lib.hid (hT.out.then ht3)
        have S3 := Lib.hid (show StX w3 H x d F (N + 5 * (i + 1)) (i + 1) from hst3)
        clear ht3 hst3
        go_wp2_with fail
        refine ⟨⟨i + 1, by omega, by simp, S3, T3⟩, ?_⟩
        simp [intOf]; omega
      · obtain rfl : i = n := by omega
        have hlt1 : ¬ (i : Int) < (i : Int) := by omega
        obtain ⟨cs, hbx⟩ := hSt.out.blk
        have q0 : wr.cell? ⟨x, 0, none⟩ = some (.pointer (some ⟨d, 0, none⟩)) := hbx.cell 0
        obtain ⟨dk3, s3, per3, hs3, hf3, hq3⟩ := hSt.out
        have SX3 := Lib.hid hs3
        have HCR := Lib.hid (crashD wr d F (N + 5 * i) dk3 hs3.is (by omega) none 0 0 (fun _ => 0) (KeepR.nil _ _) (fun _ _ e => by cases e) (Nat.zero_le _) hs3.good.shorts)
        clear hs3 hlt
        go_wp2_with fail
        refine HCR.out.mono ?_
        intro e w4 hc4
        obtain ⟨rfl, ht4, dk4, hr4, hl4⟩ := SX3.out.crash hc4
        have T4 := Lib.hid (hT.out.then (ht4.mono (fun g _ e => DSet.lo SX3.out.lo.2 g e)))
        have R4 := Lib.hid hr4
        have L4 := Lib.hid hl4
        have HO := Lib.hid (open_x w4 H x d F (N + 5 * i) dk4 s3 per3 hr4 (by omega) (by have := T4.out.size; have := HH2.out; omega))
        clear hc4 ht4 hr4 hl4 HCR
        go_wp2_with fail
        refine HO.out.mono ?_
        rintro e w5 ⟨rfl, ht5, hcase⟩
        rcases hcase with ⟨dk5, s5, wl5, ha5, _, _, hl5⟩ | ⟨_, _, hn⟩
        · have T5 := Lib.hid (T4.out.then (ht5.mono (fun g _ e => XSet.lo R4.out.lo g e)))
          have HL5 := Lib.hid (hl5 L4.out)
          obtain ⟨A5, c5, p5, p6, p7, hb5, _⟩ := ha5.blk
          have HLO5 := Lib.hid ha5.lo
          have q1 : w5.cell? ⟨x, 1, none⟩ = some (.pointer (some ⟨wl5, 0, none⟩)) := hb5.cell 1
          have HO2 := Lib.hid (open_x w5 H x d F (N + 5 * i + 5) dk5 s5 none ha5.rx (by omega) (by have := T5.out.size; have := HH2.out; omega))
          clear ht5 ha5 hl5 hb5 HO
          go_wp2_with fail
          refine HO2.out.mono ?_
          rintro e w6 ⟨rfl, ht6, _⟩
          have T6 := Lib.hid (T5.out.then (ht6.mono (fun g _ e => XSet.lo ⟨HLO5.out.1, HLO5.out.2.1, HLO5.out.2.2.1⟩ g e)))
          clear ht6
          go_wp2_with fail
          go_ret
          exact ⟨rfl, B2.out.trans ((T6.out.mono (T := fun g => H ≤ g) (fun g _ e => e)).below (B := w.heap.size) (by have := HLO.out; have := HH2.out; omega) (fun g _ e => by have := HLO.out; omega))⟩
        · exact absurd L4.out hn
end Go.Proofs.YteihedfmmiihiaaGreat
