/- wal: apply: what a record says is done. -/
import Derived.Test.YteihedfmmiihiaaGreatWmF
import Derived.Test.YteihedfmmiihiaaGreatWmD
namespace Go.Proofs.YteihedfmmiihiaaGreat
open Go.RowKit

/-- what is under way: the saved thing's block, the reader, what else has turned -/
structure ApS (w0 : World) (sb rb : Nat) (cs : List Value) (l : List UInt8) (w : World) : Prop where
  blk : Blk w sb 27 cs
  rd : RdB w rb l
  tr : Turns (fun i => i = sb ∨ i = rb) w0 w
theorem ApS.lt {w0 w : World} {sb rb : Nat} {cs : List Value} {l : List UInt8} (h : ApS w0 sb rb cs l w) : sb < w.heap.size ∧ rb < w.heap.size := by
  obtain ⟨A, c, hb, _⟩ := h.rd.is
  exact ⟨h.blk.lt, hb.lt⟩
theorem ApS.ne {w0 w : World} {sb rb : Nat} {cs : List Value} {l : List UInt8} (h : ApS w0 sb rb cs l w) : sb ≠ rb := by
  rintro rfl
  obtain ⟨A, c, hb, _⟩ := h.rd.is
  have := h.blk
  unfold Blk at this hb
  rw [hb] at this
  injection this with this
  injection this with _ this _
  exact absurd this (by decide)
theorem ApS.set {w0 w : World} {sb rb : Nat} {cs : List Value} {l : List UInt8} (h : ApS w0 sb rb cs l w) (o : Nat) (v : Value) : ApS w0 sb rb (cs.set o v) l (w.setCell ⟨sb, o, none⟩ v) := by
  have T := Turns.of_set (S := fun i => i = sb) w ⟨sb, o, none⟩ v rfl
  exact ⟨h.blk.set o v, h.rd.keep T (fun e => h.ne e.symm) (fun g hg e => hg.ne h.blk (by decide) e), h.tr.trans T (fun _ _ e => .inl e)⟩
theorem ApS.go {w0 w w' : World} {sb rb : Nat} {cs : List Value} {l l' : List UInt8} (h : ApS w0 sb rb cs l w) (hr : RdB w' rb l') (T : Turns (fun i => i = rb) w w') : ApS w0 sb rb cs l' w' :=
  ⟨h.blk.turns T h.ne, hr, h.tr.trans T (fun _ _ e => .inr e)⟩
theorem ApS.bel {w0 w w' : World} {sb rb : Nat} {cs : List Value} {l : List UInt8} (h : ApS w0 sb rb cs l w) (k : Below w.heap.size w w') : ApS w0 sb rb cs l w' :=
  ⟨h.blk.bel k, h.rd.keep (.of_below (S := fun _ => False) k) id (fun _ _ => id), h.tr.then (.of_below k)⟩
theorem ApS.low {w0 w w' : World} {sb rb H : Nat} {cs : List Value} {l : List UInt8} (h : ApS w0 sb rb cs l w) (hH : w0.heap.size ≤ H) (k : Below H w w') (T : Turns (IsEn w) w w') : ApS w0 sb rb cs l w' := by
  have hb2 := h.rd.is
  obtain ⟨A, c, hb, hr⟩ := hb2
  refine ⟨h.blk.turns T (fun e => e.ne h.blk (by decide) rfl), h.rd.keep T (fun e => e.ne hb (by decide) rfl) (fun g hg e => e.ne8 hg rfl), ?_⟩
  have T2 : Turns (fun i => H ≤ i) w w' := ⟨k.os, k.tape, k.output, k.size, fun i _ hn => k.block i (by omega)⟩
  exact h.tr.trans T2 (fun i hi e => by omega)
theorem Lg.take {w : World} {A : Option Addr} {n c k : Nat} {L P : List En} (h : Lg w A n c L) (hk : k ≤ n) (hP : L.take k = P) : Lg w A k k P := by
  subst hP
  have := h.len
  have hc := h.cap
  exact ⟨by rw [List.length_take]; omega, ⟨Nat.le_refl _, by omega⟩, fun e => by have := (h.nil e).1; omega, h.ens.take k⟩
theorem Gro.keep {w w' : World} {H c : Nat} {A : Option Addr} {L : List En} {S : Nat → Prop} (h : Gro w H A c L) (k : Turns S w w') (hS : ∀ g, IsEn w g → ¬ S g) : Gro w' H A c L := by
  rcases h with h | ⟨h1, h2⟩
  · exact .inl (h.keep k (fun g hg => hS g (h.is g hg)))
  · exact .inr ⟨h1, h2.keep k (fun g cs hg _ => hS g ⟨cs, hg⟩)⟩
theorem Gro.lg {w : World} {H c : Nat} {A : Option Addr} {L : List En} (h : Gro w H A c L) : Lg w A L.length c L := by
  rcases h with h | ⟨rfl, h2⟩
  · exact h.lg
  · exact h2
theorem ApS.noEn {w0 w : World} {sb rb : Nat} {cs : List Value} {l : List UInt8} (h : ApS w0 sb rb cs l w) : ∀ g, IsEn w g → ¬ (g = sb ∨ g = rb) := fun g hg e => by
  obtain ⟨A, c, hb, _⟩ := h.rd.is
  rcases e with e | e
  · exact hg.ne h.blk (by decide) e
  · exact hg.ne hb (by decide) e
theorem own_en1 (w : World) (x : En) (t : Nat) (h : x.term = (t : Int)) : OwnE (w.alloc (.cells #[.int .i64 (t : Int), .string x.data] 29)) w.heap.size (some ⟨w.heap.size, 0, none⟩) 1 [x] := by
  rw [← h]
  exact ⟨rfl, .inr ⟨w.heap.size, 1, _, rfl, Nat.le_refl _, heap_alloc_new w _, Nat.le_refl _, by unfold maxLen; omega, rfl, rfl⟩⟩
def ApplyY (w : World) (sb : Nat) (s : Sv) (e : Ending) (w' : World) : Prop := e = .returned (.bool true) ∧ Turns (fun i => i = sb) w w' ∧ ∃ A c, Blk w' sb 27 [.int .i64 s.term, .int .i64 s.vote, .slice A s.log.length c] ∧ Lg w' A s.log.length c s.log
set_option maxRecDepth 20000 in
set_option maxHeartbeats 4000000 in
theorem apply_ok (w : World) (sb : Nat) (A R : Option Addr) (c cr : Nat) (was s : Sv) (l : List UInt8) (hb : Blk w sb 27 [.int .i64 was.term, .int .i64 was.vote, .slice A was.log.length c]) (hl : Lg w A was.log.length c was.log)
    (hR : Rb w R cr l) (hlr : l = recB was s) (hs : SvOk s) (hw : was.log.length ≤ 4096) :
    Calls Tryz.prog 67 #[.pointer (some ⟨sb, 0, none⟩), .slice R l.length cr] w (ApplyY w sb s) := by
  obtain ⟨T, hT⟩ : ∃ T : Nat, s.term = (T : Int) := ⟨s.term.toNat, by have := hs.term; omega⟩
  have hT2 : s.term.toNat = T := by omega
  have hTl : T ≤ 1152921504606846976 := by have := hs.term; omega
  obtain ⟨V, hV⟩ : ∃ V, s.vote = V := ⟨_, rfl⟩
  have hv := hs.vote
  rw [hV] at hv
  obtain ⟨m, hm⟩ : ∃ m, was.log.length = m := ⟨_, rfl⟩
  obtain ⟨cut, hcut⟩ : ∃ k, cutN was.log s.log = k := ⟨_, rfl⟩
  obtain ⟨k, hk⟩ : ∃ k, s.log.length - cut = k := ⟨_, rfl⟩
  have hce := cutN_le was.log s.log
  rw [hcut] at hce
  have hll := hs.log
  obtain ⟨D, hD⟩ : ∃ D, s.log.drop cut = D := ⟨_, rfl⟩
  have hDl : D.length = k := by rw [← hD, List.length_drop, hk]
  have hDe : ∀ x ∈ D, EnOk x := fun x hx => hs.en x (List.mem_of_mem_drop (by rw [hD]; exact hx))
  obtain ⟨P, hP⟩ : ∃ P, was.log.take cut = P := ⟨_, rfl⟩
  have hPl : P.length = cut := by rw [← hP, List.length_take]; omega
  have hPD : P ++ D = s.log := by rw [← hP, ← hD, ← hcut]; exact cut_all was s
  obtain ⟨l4, h4⟩ : ∃ l, D.flatMap enB = l := ⟨_, rfl⟩
  obtain ⟨l3, h3⟩ : ∃ l, Cd.uB k ++ l4 = l := ⟨_, rfl⟩
  obtain ⟨l2, h2⟩ : ∃ l, Cd.uB cut ++ l3 = l := ⟨_, rfl⟩
  obtain ⟨l1, h1⟩ : ∃ l, Cd.uB (Cd.zig V) ++ l2 = l := ⟨_, rfl⟩
  have h0 : Cd.uB T ++ l1 = l := by
    rw [hlr, ← h1, ← h2, ← h3, ← h4, ← hD, ← hk, ← hcut, ← hV, ← hT2]
    rfl
  have K0 := Lib.hid h0
  have K1 := Lib.hid h1
  have K2 := Lib.hid h2
  have K3 := Lib.hid h3
  have K4 := Lib.hid h4
  have HPD := Lib.hid hPD
  have HDe := Lib.hid hDe
  have HPl := Lib.hid hPl
  have HDl := Lib.hid hDl
  have HTl := Lib.hid hTl
  have HV := Lib.hid hv
  have HM := Lib.hid hm
  have HCE : Hid (cut ≤ m ∧ m ≤ 4096 ∧ k ≤ 4096 ∧ cut ≤ 4096) := Lib.hid (by omega)
  have HWP := Lib.hid hP
  have HST := Lib.hid hT
  have HSV := Lib.hid hV
  have HLL := Lib.hid hll
  have HB0 := Lib.hid hb
  have HL0 := Lib.hid hl
  have HR0 := Lib.hid hR
  rw [hm] at hb
  have hsb := hb.lt
  clear h0 h1 h2 h3 h4 hPD hDe hPl hDl hTl hv hlr hs hw hcut hk hD hP hT hT2 hV hce hll hl hR
  have W0S : Hid (ApS (w.alloc (.cells #[.slice R l.length cr, .bool true] 115)) sb w.heap.size [.int .i64 was.term, .int .i64 was.vote, .slice A m c] l (w.alloc (.cells #[.slice R l.length cr, .bool true] 115))) := Lib.hid ⟨hb.alloc _, ⟨R, cr, Blk.new w _ [.slice R l.length cr, .bool true], HR0.out.bel (Below.new _ _)⟩, Turns.refl _ _⟩
  have W0B := Lib.hid (Below.new w (.cells #[.slice R l.length cr, .bool true] 115))
  clear hm hb
  go_enter Tryz.func67, Tryz.ntmps67
  go_upto_region 2 with (fail)
  have hszr : (w.alloc (.cells #[.slice R l.length cr, .bool true] 115)).heap.size = w.heap.size + 1 := by simp
  have HSZ := Lib.hid hszr
  clear hszr
  generalize hX0 : w.alloc (.cells #[.slice R l.length cr, .bool true] 115) = X0 at *
  have HX0 := Lib.hid hX0
  clear hX0
  obtain ⟨rb, hrb⟩ : ∃ r, r = w.heap.size := ⟨_, rfl⟩
  have HRB := Lib.hid hrb
  rw [← hrb] at W0S ⊢
  clear hrb
  have z0 := W0S.out.blk.fz 0
  go_wp2_with fail
  refine (num_ok X0 rb T 1152921504606846976 l1 (by have := W0S.out.rd; rwa [← K0.out] at this) HTl.out (by omega)).mono ?_
  rintro e X1 ⟨rfl, hr1, ht1⟩
  have A1 := Lib.hid (W0S.out.go hr1 ht1)
  clear hr1 ht1 z0
  have z0 := A1.out.blk.fz 0
  have d0 := A1.out.blk.cell 0
  have q1 : (T : Int) ≤ 1152921504606846976 := by have := HTl.out; omega
  go_upto_region 3 with (fail)
  have A2 := Lib.hid (A1.out.set 0 (.int .i64 (T : Int)))
  clear z0 d0
  generalize X1.setCell ⟨sb, 0, none⟩ (.int .i64 (T : Int)) = X2 at *
  simp only [List.set_cons_zero] at A2
  have z1 := A2.out.blk.fz 1
  go_wp2_with fail
  refine (vote_ok X2 rb V l2 (by have := A2.out.rd; rwa [← K1.out] at this) HV.out).mono ?_
  rintro e X3 ⟨rfl, hr3, ht3⟩
  have A3 := Lib.hid (A2.out.go hr3 ht3)
  clear hr3 ht3 z1
  have z1 := A3.out.blk.fz 1
  have d1 := A3.out.blk.cell 1
  go_upto_region 4 with (fail)
  have A4 := Lib.hid (A3.out.set 1 (.int .i64 V))
  clear z1 d1
  generalize X3.setCell ⟨sb, 1, none⟩ (.int .i64 V) = X4 at *
  simp only [List.set_cons_succ, List.set_cons_zero] at A4
  have d2 := A4.out.blk.cell 2
  simp only [List.getElem?_cons_succ, List.getElem?_cons_zero] at d2
  have q2 : (m : Int) ≤ 4096 := by have := HCE.out; omega
  have q3 : (cut : Int) ≤ (m : Int) := by have := HCE.out; omega
  have q4 : (k : Int) ≤ 4096 := by have := HCE.out; omega
  go_wp2_with fail
  refine (num_ok X4 rb cut m l3 (by have := A4.out.rd; rwa [← K2.out] at this) (by have := HCE.out; omega) (by have := HCE.out; omega)).mono ?_
  rintro e X5 ⟨rfl, hr5, ht5⟩
  have A5 := Lib.hid (A4.out.go hr5 ht5)
  clear hr5 ht5 d2
  go_wp2_with fail
  refine (num_ok X5 rb k 4096 l4 (by have := A5.out.rd; rwa [← K3.out] at this) (by have := HCE.out; omega) (by omega)).mono ?_
  rintro e X6 ⟨rfl, hr6, ht6⟩
  have A6 := Lib.hid (A5.out.go hr6 ht6)
  clear hr6 ht6
  have d2 := A6.out.blk.cell 2
  simp only [List.getElem?_cons_succ, List.getElem?_cons_zero] at d2
  have z2 := A6.out.blk.fz 2
  have hcm : m ≤ c := by have := HL0.out.cap; have := HM.out; omega
  have q5 : (cut : Int) ≤ (c : Int) := by omega
  go_upto_region 7 with (fail)
  have A7 := Lib.hid (A6.out.set 2 (.slice A cut cut))
  generalize X6.setCell ⟨sb, 2, none⟩ (.slice A cut cut) = X7 at *
  simp only [List.set_cons_succ, List.set_cons_zero] at A7
  have HT7 : Hid (Turns (fun i => i = sb ∨ i = rb) w X7) := Lib.hid ((Turns.of_below W0B.out).then A7.out.tr)
  have HG7 : Hid (Gro X7 X0.heap.size A cut P) := Lib.hid (.inr ⟨HPl.out.symm, by
    have h1 := (HL0.out.take (k := cut) (by have := HCE.out; have := HM.out; omega) HWP.out)
    rw [HPl.out]
    refine h1.keep HT7.out (fun g cs hg _ e => ?_)
    rcases e with e | e
    · exact IsEn.ne ⟨cs, hg⟩ HB0.out (by decide) e
    · have := (Array.getElem?_eq_some_iff.1 hg).1
      have := HRB.out
      omega⟩)
  clear d2 z2 q5 hcm W0S A1 A2 A3 A4 A5 A6 HR0
  go_wp2_with fail
  go_loopw [8] (fun iv wr => ∃ (i : Nat) (A' : Option Addr) (n' c' : Nat) (L : List En) (li : List UInt8), i ≤ k ∧ iv = .int .u64 (i : Int) ∧ Hid (ApS X0 sb rb [.int .i64 (T : Int), .int .i64 V, .slice A' n' c'] li wr) ∧ Hid (Gro wr X0.heap.size A' c' L) ∧ Hid (n' = L.length) ∧ Hid (L = P ++ D.take i) ∧ Hid (li = (D.drop i).flatMap enB)) (fun iv _ => k - (intOf iv).toNat)
  case atStart => exact ⟨0, A, cut, cut, P, l4, Nat.zero_le _, rfl, A7, HG7, Lib.hid HPl.out.symm, Lib.hid (by simp), Lib.hid (by rw [List.drop_zero, K4.out])⟩
  case round =>
    obtain ⟨i, A', n', c', L, li, hi, rfl, hA, hG, hn', hL, hli⟩ := hrel
    clear A7 HG7 HT7
    obtain ⟨Ar, cr', hrb1, hrr⟩ := hA.out.rd.is
    have d1 : wr.cell? ⟨rb, 1, none⟩ = some (.bool true) := hrb1.cell 1
    by_cases hlt : i < k
    · have q6 : (i : Int) < (k : Int) := by omega
      have hDi : i < D.length := by rw [HDl.out]; exact hlt
      obtain ⟨x, hx⟩ : ∃ x, D[i] = x := ⟨_, rfl⟩
      have hxe : EnOk x := by rw [← hx]; exact HDe.out _ (List.getElem_mem hDi)
      have hdr : D.drop i = x :: D.drop (i + 1) := by rw [← hx]; exact List.drop_eq_getElem_cons hDi
      obtain ⟨t, ht⟩ : ∃ t : Nat, x.term = (t : Int) := ⟨x.term.toNat, by have := hxe.term; omega⟩
      obtain ⟨rest, hrest⟩ : ∃ r, (D.drop (i + 1)).flatMap enB = r := ⟨_, rfl⟩
      have hli2 : li = Cd.uB t ++ (Cd.textB x.data.data.toList ++ rest) := by
        rw [hli.out, hdr, List.flatMap_cons, hrest]
        unfold enB
        rw [ht, List.append_assoc]
        rfl
      have hL2 : L ++ [x] = P ++ D.take (i + 1) := by
        rw [hL.out, List.append_assoc, ← hx, ← List.take_succ_eq_append_getElem hDi]
      have q7 : (t : Int) ≤ 1152921504606846976 := by have := hxe.term; omega
      have HXE := Lib.hid hxe
      have HT := Lib.hid ht
      have HL2 := Lib.hid hL2
      have HRE := Lib.hid hrest
      have HLI := Lib.hid hli2
      have HLN : Hid (L.length ≤ 8192) := Lib.hid (by rw [hL.out, List.length_append, List.length_take]; have := HPl.out; have := HDl.out; have := HCE.out; omega)
      clear hDi hx hxe hdr ht hrest hli2 hL2 hrr hrb1
      go_wp2_with fail
      refine (num_ok wr rb t 1152921504606846976 (Cd.textB x.data.data.toList ++ rest) (by have := hA.out.rd; rwa [HLI.out] at this) (by omega) (by omega)).mono ?_
      rintro e Y1 ⟨rfl, hr1, ht1⟩
      have B1 := Lib.hid (hA.out.go hr1 ht1)
      have G1 := Lib.hid (hG.out.keep ht1 (fun g hg e => hA.out.noEn g hg (.inr e)))
      clear hr1 ht1 d1
      have d2 := B1.out.blk.cell 2
      simp only [List.getElem?_cons_succ, List.getElem?_cons_zero] at d2
      have z2 := B1.out.blk.fz 2
      go_upto_region 11 with (fail)
      have hdr := below_drewN' (Below.refl Y1.heap.size Y1) 1
      have HTX := Lib.hid (text_ok Y1.drew rb x.data rest (B1.out.bel hdr).rd HXE.out.data)
      have B1d := Lib.hid (B1.out.bel hdr)
      have G1d := Lib.hid (G1.out.keep (.of_below (S := fun _ => False) hdr) (fun _ _ => id))
      clear hdr B1 G1
      go_region_law (first | (refine step_append_run (by rfl) _ _ _ (by rfl) _ _ (by rfl) (by rfl) (.slice A3 L3.length c3) Y3 HR.out ?_) | (go_simp; go_at_call 83; refine HTX.out.mono ?_; rintro e Y2 ⟨rfl, hr2, ht2⟩; have B2 := Lib.hid (B1d.out.go hr2 ht2); have G2 := Lib.hid (G1d.out.keep ht2 (fun g hg e => B1d.out.noEn g hg (.inr e))); have HN := Below.new Y2 (.cells #[.int .i64 (t : Int), .string x.data] 29); have B2z := Lib.hid (B2.out.bel HN); obtain ⟨L3, hL3⟩ : ∃ r, r = L ++ [x] := ⟨_, rfl⟩; obtain ⟨A3, c3, Y3, h1, h2, h3, h4⟩ := append_gro_en _ X0.heap.size A' c' L (G2.out.keep (.of_below (S := fun _ => False) HN) (fun _ _ => id)) B2z.out.tr.size (some ⟨Y2.heap.size, 0, none⟩) 1 1 [x] (own_en1 Y2 x t HT.out).lg (by omega) (by have := HLN.out; simp; omega) 25 L3 hL3; rw [← hn'.out] at h1; have HR := Lib.hid h1; have O3 := Lib.hid h2; have B3 := Lib.hid (B2z.out.low (Nat.le_refl _) h3 h4); have HL3 := Lib.hid hL3; have d2b := B2.out.blk.cell 2; have d2c := B2z.out.blk.cell 2; have d3 := B3.out.blk.cell 2; have z3 := B3.out.blk.fz 2; simp only [List.getElem?_cons_succ, List.getElem?_cons_zero] at d2b d2c d3; clear hr2 ht2 HN h1 h2 h3 h4 hL3))
      all_goals
        have B4 := Lib.hid (B3.out.set 2 (.slice A3 L3.length c3))
        have G4 := Lib.hid (show Gro (Y3.setCell ⟨sb, 2, none⟩ (.slice A3 L3.length c3)) X0.heap.size A3 c3 L3 from (Gro.keep (S := fun i => i = sb) (.inl O3.out) (Turns.of_set (S := fun i => i = sb) Y3 ⟨sb, 2, none⟩ _ rfl) (fun g hg e => B3.out.noEn g hg (.inl e))))
        clear d2 z2 d2b d2c d3 z3 HR
        generalize Y3.setCell ⟨sb, 2, none⟩ (.slice A3 L3.length c3) = Y4 at *
        simp only [List.set_cons_succ, List.set_cons_zero] at B4
        go_wp2_with fail
        refine ⟨⟨i + 1, A3, _, c3, L3, rest, by omega, by rw [Int.natCast_add]; rfl, B4, G4, Lib.hid rfl, Lib.hid (by rw [HL3.out, HL2.out]), Lib.hid HRE.out.symm⟩, ?_⟩
        simp [intOf]; omega
    · obtain rfl : i = k := by omega
      have hli0 : li = [] := by rw [hli.out, List.drop_of_length_le (by rw [HDl.out]; omega)]; rfl
      rw [hli0] at hrb1
      have d0 : wr.cell? ⟨rb, 0, none⟩ = some (.slice Ar 0 cr') := hrb1.cell 0
      go_wp2_with fail
      go_ret
      have hLs : L = s.log := by rw [hL.out, List.take_of_length_le (by rw [HDl.out]; omega), HPD.out]
      refine ⟨rfl, ⟨?_, A', c', ?_, ?_⟩⟩
      · refine ((Turns.of_below (S := fun i => i = sb ∨ i = rb) W0B.out).then hA.out.tr).mono (fun j hj e => ?_)
        rcases e with e | e
        · exact e
        · have := HRB.out; omega
      · have := hA.out.blk
        rw [hn'.out, hLs] at this
        rw [HST.out, HSV.out]
        exact this
      · have := hG.out.lg
        rw [hLs] at this
        exact this
end Go.Proofs.YteihedfmmiihiaaGreat
