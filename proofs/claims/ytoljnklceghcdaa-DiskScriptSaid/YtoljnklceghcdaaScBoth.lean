/- DiskScript: both disks side by side in memory; told. -/
import Derived.Test.YtoljnklceghcdaaRdCrash
import Derived.Test.YtoljnklceghcdaaDkConv
namespace Go.Proofs.Ytoljnklceghcdaa
open Go.RowKit Go.Maps Go.Sort Go.Shelf

abbrev Ny : Nat → Prop := fun _ => False
structure BS (H : Nat) (w : World) (d F N r : Nat) (v : Value) (s : Dk) (L : List RF) : Prop where
  dd : DS Ny w d F s.off s.fuse s.p N
  rr : RS H w r v s.off s.fuse L
  rise : Rise L
  eq : pOf L = s.p
  lo : H ≤ d ∧ H ≤ F
theorem blk_ne {w : World} {g r : Nat} {t t2 : TypeId} {cs cs2 : List Value} (h : Blk w g t cs) (h2 : Blk w r t2 cs2) (hne : t ≠ t2) : g ≠ r := by
  rintro rfl
  unfold Blk at h h2
  rw [h] at h2
  injection h2 with h2
  injection h2 with _ h2 _
  exact hne h2
theorem blk_ne_map {w : World} {g r n : Nat} {t : TypeId} {cs : List Value} {K : Type} {kv : K → Value} {m : K → Option Value} (h : Blk w g t cs) (hb : MapIs kv w r m n) : g ≠ r := by
  rintro rfl
  exact hb.ne_cells h rfl
section
variable {Xs : Nat → Prop} {H : Nat} {w w' : World} {d F N r : Nat} {v : Value} {off off2 : Bool} {fuse left : Int} {p : Fs} {L : List RF}
theorem apart (h : DS Xs w d F off fuse p N) (hr : RS H w r v off2 left L) : (r ≠ d ∧ r ≠ F) ∧ (∀ g, v.ownBlock = some g → g ≠ d ∧ g ≠ F) ∧ ∀ g cur, w.heap[g]? = some (.cells cur 5 (0, 0)) → ¬ RSet r v g := by
  obtain ⟨mv, n, _, hm, _⟩ := h.files
  refine ⟨⟨blk_ne hr.blk h.blk (by decide), blk_ne_map hr.blk hm⟩, fun g hg => ⟨own_ne_blk hr.row hg h.blk (by decide), own_ne_map hr.row hg hm⟩, fun g cur hc e => ?_⟩
  rcases e with e | e
  · have h1 := hr.blk
    unfold Blk at h1
    rw [← e, hc] at h1
    injection h1 with h1
    injection h1 with _ h1 _
    exact absurd h1 (by decide)
  · rcases hr.row.2 with ⟨rfl, _⟩ | ⟨g', cap, cur', rfl, _, h4, _⟩
    · simp [Value.ownBlock] at e
    · simp [Value.ownBlock] at e
      subst e
      rw [hc] at h4
      injection h4 with h4
      injection h4 with _ h4 _
      exact absurd h4 (by decide)
theorem RS.byD (hr : RS H w r v off2 left L) (h : DS Xs w d F off fuse p N) (t : Turns (DSet d F) w w') : RS H w' r v off2 left L := by
  obtain ⟨h1, h2, _⟩ := apart h hr
  refine hr.keep t (fun i hi e => ?_)
  rcases hi with rfl | hi
  · rcases e with e | e
    · exact h1.1 e
    · exact h1.2 e
  · rcases e with e | e
    · exact (h2 i hi).1 e
    · exact (h2 i hi).2 e
theorem DS.byR (h : DS Xs w d F off fuse p N) (hr : RS H w r v off2 left L) (t : Turns (RSet r v) w w') : DS Xs w' d F off fuse p N := by
  obtain ⟨h1, h2, h3⟩ := apart h hr
  refine h.keep t (fun e => ?_) (fun e => ?_) (fun g cur hc _ => h3 g cur hc)
  · rcases e with e | e
    · exact h1.1 e.symm
    · exact (h2 _ e).1 rfl
  · rcases e with e | e
    · exact h1.2 e.symm
    · exact (h2 _ e).2 rfl
end
section
variable {H : Nat} {w w' : World} {d F N r : Nat} {v : Value} {s : Dk} {L : List RF}
theorem BS.bel (h : BS H w d F N r v s L) (k : Below w.heap.size w w') : BS H w' d F N r v s L := ⟨h.dd.bel k, h.rr.bel k, h.rise, h.eq, h.lo⟩
theorem BS.few (h : BS H w d F N r v s L) : L.length ≤ 1000 := h.rr.few
theorem lowD {a b : Nat} {w w1 w2 : World} (h : H ≤ a ∧ H ≤ b) (hH : w.heap.size = H) (B : Below H w w1) (c : Turns (DSet a b) w1 w2) : Below H w w2 := by
  subst hH
  exact ((Turns.of_below (S := fun r => w.heap.size ≤ r) B).then (c.mono (fun r _ e => by rcases e with e | e <;> omega))).below (Nat.le_refl _) (fun _ _ e => e)
end
set_option maxRecDepth 20000 in
set_option maxHeartbeats 4000000 in
theorem told_off (H : Nat) (w : World) (d F N r : Nat) (v : Value) (s : Dk) (L : List RF) (h : BS H w d F N r v s L) (hN : N ≤ 1000000) (ho : s.off = true) :
    Calls Try.prog 24 #[.pointer (some ⟨d, 0, none⟩), .pointer (some ⟨r, 0, none⟩)] w fun e w' => e = .returned (.bool true) ∧ Below w.heap.size w w' := by
  obtain ⟨off, fuse, p⟩ := s
  simp only at ho
  subst ho
  have HH := Lib.hid h
  have HNm := Lib.hid (namesD w d F N ⟨true, fuse, p⟩ h.dd hN)
  clear h
  go_enter Try.func24, Try.ntmps24
  go_upto_region 2 with (go_at_call 19; refine HNm.out.mono ?_; rintro e w1 ⟨nv, rfl, hb1, hn1, _⟩)
  have hnv := hn1 (by first | rfl | trivial)
  subst hnv
  have HB1 := Lib.hid hb1
  have H1 := Lib.hid (HH.out.bel hb1)
  clear hb1 hn1
  have c1 := BelowW.cell (w := w1) H1.out.rr.blk.lt H1.out.rr.cells.2.1
  have HOf : Hid (∀ p' : BelowW w1, Calls Try.prog 18 #[.pointer (some ⟨d, 0, none⟩)] p'.w fun e w' => e = .returned (.bool true) ∧ w' = p'.w) := Lib.hid (fun p' => offD p'.w d F N true fuse p (H1.out.dd.bel p'.h))
  refine wp_region_quiet_below (by kernel_rfl) (by kernel_rfl) ?_
  repeat (go_big_quiet_step (first | (go_at_call 18; exact Calls.below_same (HOf.out _))))
  refine wpQuiet_nil ?_
  intro W2 hw'
  have HB2 := Lib.hid (belowW_out hw')
  clear hw' c1
  have c1 := (H1.out.bel HB2.out).rr.cells.2.1
  go_wp2_with fail
  go_ret
  exact ⟨rfl, below_trans' HB1.out HB2.out⟩
/-- Read of a file that is there -/
theorem readYes {Xs : Nat → Prop} (w : World) (d F N : Nat) (s : Dk) (h : s.Is Xs w d F N) (k : ByteArray) (l : List UInt8) (n : Nat) (hp : pl s.p k = (l, n)) (hL : l.length ≤ 100000000) (ho : s.off = false) (hs : (s.p k).isSome = true) :
    Calls Try.prog 13 #[.pointer (some ⟨d, 0, none⟩), .string k] w fun e w' => ∃ A c, e = .returned (.tuple #[.slice A l.length c, .int .i64 0]) ∧ Below w.heap.size w w' ∧ w'.ownsRow w.heap.size 5 1 (.slice A l.length c) l.length (Cd.bytesV l) := by
  refine (readD w d F N s h k (by rw [hp]; exact hL)).mono ?_
  rintro e w' ⟨v, rfl, hb, _, h2⟩
  have e0 : thC s.off (s.p k).isSome = 0 := by rw [ho, hs]; rfl
  have h3 := h2 e0
  rw [hp] at h3
  obtain ⟨A, c, rfl⟩ := own_slice' h3
  exact ⟨A, c, by rw [e0], hb, h3⟩
theorem nm_at {L : List RF} {i : Nat} (hi : i < L.length) : (L.map nm)[i]'(by simpa using hi) = nm (gF L i) := by rw [List.getElem_map, gF_of hi]
theorem encStr_nm (f : RF) : encStr (nm f) = .string f.name := rfl
set_option maxRecDepth 20000 in
set_option maxHeartbeats 8000000 in
theorem told_on (H : Nat) (w : World) (d F N r : Nat) (v : Value) (s : Dk) (L : List RF) (h : BS H w d F N r v s L) (hN : N ≤ 1000000) (hS : Short s.p 100000000) (ho : s.off = false) :
    Calls Try.prog 24 #[.pointer (some ⟨d, 0, none⟩), .pointer (some ⟨r, 0, none⟩)] w fun e w' => e = .returned (.bool true) ∧ Below w.heap.size w w' := by
  obtain ⟨off, fuse, p⟩ := s
  simp only at ho hS
  subst ho
  have HH := Lib.hid h
  have HSh := Lib.hid hS
  have HNm := Lib.hid (namesD w d F N ⟨false, fuse, p⟩ h.dd hN)
  clear h hS
  go_enter Try.func24, Try.ntmps24
  go_upto_region 2 with (go_at_call 19; refine HNm.out.mono ?_; rintro e w1 ⟨nv, rfl, hb1, _, hn1⟩)
  obtain ⟨ks, hks, hrow⟩ := hn1 (by first | rfl | trivial)
  have hke := hks.one (by have := pOf_keys HH.out.rise; rw [HH.out.eq] at this; exact this)
  subst hke
  rw [List.length_map] at hrow
  have HB1 := Lib.hid hb1
  have HRow := Lib.hid hrow
  have H1 := Lib.hid (HH.out.bel hb1)
  obtain ⟨nA, nC, rfl⟩ := own_slice' hrow
  have hfew := HH.out.few
  clear hb1 hn1 hks hrow
  have c1 := BelowW.cell (w := w1) H1.out.rr.blk.lt H1.out.rr.cells.2.1
  have HOf : Hid (∀ p' : BelowW w1, Calls Try.prog 18 #[.pointer (some ⟨d, 0, none⟩)] p'.w fun e w' => e = .returned (.bool false) ∧ w' = p'.w) := Lib.hid (fun p' => offD p'.w d F N false fuse p (H1.out.dd.bel p'.h))
  refine wp_region_quiet_below (by kernel_rfl) (by kernel_rfl) ?_
  repeat (go_big_quiet_step (first | (go_at_call 18; exact Calls.below_same (HOf.out _))))
  refine wpQuiet_nil ?_
  intro W2 hw'
  have HB2 := Lib.hid (belowW_out hw')
  clear hw' c1 HOf
  have H2 := Lib.hid (H1.out.bel HB2.out)
  have HRow2 := Lib.hid (own_turns HRow.out (.of_below (S := fun _ => False) HB2.out) (fun _ _ => id))
  have HB3 := Lib.hid (below_trans' HB1.out HB2.out)
  have c1 := H2.out.rr.cells.2.1
  have c0 := H2.out.rr.cells.1
  obtain ⟨rA, rC, rfl⟩ := own_slice' H2.out.rr.row
  go_upto_region 8 with (fail)
  clear c0 c1
  go_wp2_with fail
  go_loopw [7] (fun iv wr => ∃ i : Nat, i ≤ L.length ∧ iv = .int .i64 (i : Int) ∧ Hid (Below W2.heap.size W2 wr)) (fun iv _ => L.length - (intOf iv).toNat)
  case atStart => exact ⟨0, by omega, rfl, Lib.hid (Below.refl _ _)⟩
  case round =>
    obtain ⟨i, hi, rfl, hB⟩ := hrel
    by_cases hlt : i < L.length
    · have hlt1 : (i : Int) < (L.length : Int) := by omega
      have H3 := Lib.hid (H2.out.bel hB.out)
      obtain ⟨g, hg0, hg, hnc, hcm, b0, b1, b2⟩ := gF_cells H3.out.rr.row i hlt
      subst hg0
      obtain ⟨q0, _, _⟩ := H3.out.rr.cells
      unfold maxLen at hcm
      have hz := pl_size H3.out.rise (by rw [H3.out.eq]; exact HSh.out) hlt
      have HPl : Hid (pl p (gF L i).name = (gF L i).fd) := Lib.hid (by have := pl_at H3.out.rise hlt; rw [H3.out.eq] at this; exact this)
      have HSo : Hid ((p (gF L i).name).isSome = true) := Lib.hid (by have := some_at H3.out.rise hlt; rw [H3.out.eq] at this; exact this)
      have HX : Hid (Blk (wr.alloc (.cells #[.string (gF L i).name, .string (gF L i).last, .string (gF L i).waits] 71)) wr.heap.size 71 [.string (gF L i).name, .string (gF L i).last, .string (gF L i).waits]) := Lib.hid (Blk.new wr 71 [.string (gF L i).name, .string (gF L i).last, .string (gF L i).waits])
      have BX : Hid (Below wr.heap.size wr (wr.alloc (.cells #[.string (gF L i).name, .string (gF L i).last, .string (gF L i).waits] 71))) := Lib.hid (Below.new wr _)
      have H4 := Lib.hid (H3.out.bel BX.out)
      have HB4 := Lib.hid (below_trans' hB.out BX.out)
      obtain ⟨nb, ncap, hne, _, hnl, hn1, hn2⟩ := own_at HRow2.out (by omega)
      injection hne with hn3 _ hn4
      subst hn3 hn4
      have hnm := HRow2.out.cellAt i (by omega)
      rw [List.getElem?_map, List.getElem?_eq_getElem (by simpa using hlt), nm_at hlt] at hnm
      simp only [Option.map_some, encStr_nm] at hnm
      have HNm2 := Lib.hid hnm
      clear hnm
      go_upto_region 12 with (fail)
      clear b0 b1 b2 q0
      generalize wr.alloc (.cells #[.string (gF L i).name, .string (gF L i).last, .string (gF L i).waits] 71) = X at *
      generalize wr.heap.size = bx at *
      have k0 := HX.out.cell 0
      simp only [List.getElem?_cons_zero] at k0
      have hfl : (gF L i).fd.1.length = (gF L i).last.size + (gF L i).waits.size := by
        unfold RF.fd; simp only; rw [List.length_append, size_toL, size_toL]
      have hmk : (⟨(gF L i).fd.1.toArray⟩ : ByteArray) = (gF L i).last ++ (gF L i).waits := key_inj (by rw [toL_app]; rfl)
      have HMk := Lib.hid hmk
      obtain ⟨l, hl⟩ : ∃ l, l = (gF L i).fd.1 := ⟨_, rfl⟩
      have HRd := Lib.hid (readYes X d F N ⟨false, fuse, p⟩ H4.out.dd (gF L i).name l (gF L i).last.size (by rw [hl]; exact HPl.out) (by rw [hl]; omega) rfl HSo.out)
      rw [← hl] at HMk hfl
      have HLl := Lib.hid hl
      have HFl := Lib.hid hfl
      clear hmk hl hfl
      go_upto_region 13 with (go_at_call 13; refine HRd.out.mono ?_; rintro e w5 ⟨bA, bC, rfl, hb5, hr5⟩)
      have HB5 := Lib.hid hb5
      have HR5 := Lib.hid hr5
      clear k0 hb5 hr5
      have H5 := Lib.hid (H4.out.bel HB5.out)
      have K5 := Lib.hid (HX.out.bel HB5.out)
      have k0 := K5.out.cell 0
      have k1 := K5.out.cell 1
      have k2 := K5.out.cell 2
      simp only [List.getElem?_cons_succ, List.getElem?_cons_zero] at k0 k1 k2
      have q0 := BelowW.cell (w := w5) K5.out.lt k0
      have q1 := BelowW.cell (w := w5) K5.out.lt k1
      have q2 := BelowW.cell (w := w5) K5.out.lt k2
      have hB45 := below_trans' HB4.out HB5.out
      have hnb5 : nb < w5.heap.size := by have := hB45.size; omega
      have qn := BelowW.cell (w := w5) (a := ⟨nb, i, none⟩) hnb5 ((hB45.cell (p := ⟨nb, i, none⟩) hnl).trans HNm2.out)
      have HCv : Hid (∀ p' : BelowW w5, (convert 29 9 (.slice bA l.length bC)).run Try.prog p'.w = .ok (.string ((gF L i).last ++ (gF L i).waits)) p'.w) := Lib.hid (fun p' => by
        rw [← HMk.out]
        exact run_conv_bs ((Bs.of_own HR5.out rfl).below p'.h) _ _ 5 Try.underlying29 Try.underlying5 Try.underlying9 bC)
      have hcv := HCv.out
      have HWt : Hid (∀ p' : BelowW w5, Calls Try.prog 15 #[.pointer (some ⟨d, 0, none⟩), .string (gF L i).name] p'.w fun e w' => e = .returned (.int .i64 ((gF L i).waits.size : Int)) ∧ Below p'.w.heap.size p'.w w') := Lib.hid (fun p' => by
        have h1 := waitsD p'.w d F N false fuse p (H5.out.dd.bel p'.h) (gF L i).name
        rw [HPl.out] at h1
        have e1 : (((gF L i).fd.1.length : Int) - ((gF L i).fd.2 : Int)) = ((gF L i).waits.size : Int) := by
          have h2 := HLl.out
          rw [← h2]
          have h3 : (gF L i).fd.2 = (gF L i).last.size := rfl
          have hfl := HFl.out
          rw [h3]
          omega
        rw [e1] at h1
        exact h1)
      have hsum : ¬ 9223372036854775807 < (gF L i).last.size + (gF L i).waits.size := by omega
      have hiI0 : (0 : Int) ≤ (i : Int) := by omega
      refine wp_region_quiet_below (by kernel_rfl) (by kernel_rfl) ?_
      repeat (go_big_quiet_step (first | (go_at_call 15; exact Calls.below_of (HWt.out _))))
      refine wpQuiet_nil ?_
      intro W6 hw'
      have HB6 := Lib.hid (belowW_out hw')
      clear hw' q0 q1 q2 qn hcv k0 k1 k2
      have HB7 := Lib.hid (below_trans' hB45 HB6.out)
      have HR6 := Lib.hid (own_turns HR5.out (.of_below (S := fun _ => False) HB6.out) (fun _ _ => id))
      have hXw : W2.heap.size ≤ X.heap.size := HB4.out.size
      clear hB45
      have hlm : l.length ≤ 100000000 := by have := HFl.out; omega
      have HH2 : Hid (W2.heap.size ≤ X.heap.size) := Lib.hid hXw
      clear HCv HWt
      go_wp2_with fail
      go_loopw [11] (fun kv wv => ∃ (k : Nat) (xs : List Value), k ≤ l.length ∧ kv = .int .i64 (k : Int) ∧ Hid (wv.ownsRow X.heap.size 5 1 (.slice bA l.length bC) l.length xs) ∧ Hid (Below W2.heap.size W2 wv)) (fun kv _ => l.length - (intOf kv).toNat)
      case atStart => exact ⟨0, _, by omega, rfl, HR6, HB7⟩
      case round =>
        obtain ⟨k, xs, hk, rfl, hR, hB8⟩ := hrel
        by_cases hkl : k < l.length
        · have hkl1 : (k : Int) < (l.length : Int) := by omega
          obtain ⟨bg, bcap, hbe, hbo, hbl, hb1, hb2⟩ := own_at hR.out (by omega)
          injection hbe with hbe1 _ hbe2
          subst hbe1 hbe2
          have hxl : k < xs.length := by have := hR.out.1; omega
          have hc := hR.out.cellAt k (by omega)
          rw [List.getElem?_eq_getElem hxl] at hc
          have hz := hR.out.frozenAt k
          have hbX : X.heap.size ≤ bg := own_ge hR.out hbo
          have HR9 := Lib.hid ((hR.out.stored k (.int .u8 99)).1)
          have HB9 := Lib.hid (hB8.out.setCell (p := ⟨bg, k, none⟩) (by simp only; omega) (.int .u8 99))
          unfold maxLen at hb2
          clear hB8 hR
          go_wp2_with fail
          go_roundw
          case measure => simp only [intOf]; omega
          case rel => exact ⟨k + 1, _, by omega, by go_num, HR9, HB9⟩
        · obtain rfl : k = l.length := by omega
          have hkl1 : ¬ (l.length : Int) < (l.length : Int) := by omega
          go_wp2_with fail
          go_roundw
          case measure => simp only [intOf]; omega
          case rel => exact ⟨i + 1, by omega, by go_num, hB8⟩
    · obtain rfl : i = L.length := by omega
      have hlt1 : ¬ (L.length : Int) < (L.length : Int) := by omega
      go_wp2_with fail
      go_ret
      exact ⟨rfl, below_trans' HB3.out hB.out⟩
end Go.Proofs.Ytoljnklceghcdaa
