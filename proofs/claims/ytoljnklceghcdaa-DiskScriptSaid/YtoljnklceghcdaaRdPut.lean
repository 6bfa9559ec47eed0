/- The document's disk in memory: put (written by gen_rdput.py). -/
import Derived.Test.YtoljnklceghcdaaRdOut
namespace Go.Proofs.Ytoljnklceghcdaa
open Go.RowKit Go.Maps Go.Sort Go.Shelf

def lessB (k : ByteArray) (g : RF) : Bool := Op.bytesLess g.name.toList k.toList
def moreB (k : ByteArray) (g : RF) : Bool := !(Op.bytesLess g.name.toList k.toList || g.name.toList == k.toList)
theorem lessB_eq (k : ByteArray) : lessB k = fun g => decide (nm g < k.data.toList) := by
  funext g
  unfold lessB nm
  rw [bytesLess_eq, Lib.toList_data, Lib.toList_data]
theorem moreB_eq (k : ByteArray) : moreB k = fun g => decide (k.data.toList < nm g) := by
  funext g
  unfold moreB nm
  rw [bytesLess_eq, Lib.toList_data, Lib.toList_data]
  by_cases h : g.name.data.toList < k.data.toList
  · have : ¬ k.data.toList < g.name.data.toList := fun h2 => List.lt_irrefl _ (List.lt_trans h h2)
    simp [h, this]
  · by_cases e : g.name.data.toList = k.data.toList
    · rw [e]; simp
    · have : k.data.toList < g.name.data.toList := lt_of_le_ne (List.not_lt.1 h) (fun x => e x.symm)
      have e2 : ¬ g.name.data = k.data := fun x => e (by rw [x])
      simp [h, e, e2, this]
theorem putL_eq (L : List RF) (f : RF) : putL L f = L.filter (lessB f.name) ++ [f] ++ L.filter (moreB f.name) := by
  rw [lessB_eq, moreB_eq]; rfl
theorem filt2_le (L : List RF) (k : ByteArray) : (L.filter (lessB k)).length + (L.filter (moreB k)).length ≤ L.length := by
  induction L with
  | nil => simp
  | cons g L ih =>
    rw [List.filter_cons, List.filter_cons]
    have : ¬ (lessB k g = true ∧ moreB k g = true) := by
      unfold lessB moreB
      cases Op.bytesLess g.name.toList k.toList <;> simp
    cases h1 : lessB k g <;> cases h2 : moreB k g <;> simp [h1, h2] at this ⊢ <;> omega
theorem putL_len (L : List RF) (f : RF) : (putL L f).length ≤ L.length + 1 := by
  rw [putL_eq]
  have := filt2_le L f.name
  simp only [List.length_append, List.length_cons, List.length_nil]
  omega
set_option maxRecDepth 20000 in
set_option maxHeartbeats 8000000 in
theorem rput (H : Nat) (w : World) (r : Nat) (v : Value) (off : Bool) (left : Int) (L : List RF) (h : RS H w r v off left L) (hn : L.length < 1000) (f : RF) :
    Calls Try.prog 50 #[.pointer (some ⟨r, 0, none⟩), .agg #[.string f.name, .string f.last, .string f.waits]] w (OutY H w r off left (putL L f)) := by
  obtain ⟨i0, hi0, hz0, hz1, hz2⟩ := info_parts info_rf
  obtain ⟨A0, c0, rfl⟩ := own_slice' h.row
  have HBW := Lib.hid (Below.new w (.cells #[.string f.name, .string f.last, .string f.waits] 71))
  have HF := Lib.hid (Blk.new w 71 [.string f.name, .string f.last, .string f.waits])
  have HH := Lib.hid (h.bel HBW.out)
  have hfl : Hid ((L.filter (lessB f.name)).length + (L.filter (moreB f.name)).length ≤ L.length) := Lib.hid (filt2_le L f.name)
  have hHw : H ≤ (w.alloc (.cells #[.string f.name, .string f.last, .string f.waits] 71)).heap.size := by have := h.lo; have := h.blk.lt; simp; omega
  clear h
  go_enter Try.func50, Try.ntmps50
  go_upto_region 1 with (fail)
  generalize w.alloc (.cells #[.string f.name, .string f.last, .string f.waits] 71) = W at *
  generalize hbq : w.heap.size = bx at *
  have HBQ := Lib.hid hbq
  clear hbq
  go_wp2_with fail
  go_loopw [4, 5] (fun lv iv wr => ∃ i : Nat, i ≤ L.length ∧ iv = .int .i64 (i : Int) ∧ Hid (wr.ownsRow W.heap.size 71 3 lv (([] : List RF) ++ (L.take i).filter (lessB f.name)).length ((([] : List RF) ++ (L.take i).filter (lessB f.name)).flatMap rfC)) ∧ Hid (Below W.heap.size W wr)) (fun _ iv _ => L.length - (intOf iv).toNat)
  case atStart => exact ⟨0, by omega, rfl, Lib.hid (by simpa using World.ownsRow_nil _ _ _ _), Lib.hid (Below.refl _ _)⟩
  case round =>
    obtain ⟨i, hi, rfl, hR, hB⟩ := hrel
    have h2 := HH.out.bel hB.out
    obtain ⟨q0, _, _⟩ := h2.cells
    by_cases hlt : i < L.length
    · have hlt1 : (i : Int) < (L.length : Int) := by omega
      obtain ⟨g, rfl, hg, hnc, hcm, b0, b1, b2⟩ := gF_cells h2.row i hlt
      have hf := HF.out.bel hB.out
      have f0 := hf.cell 0
      have H2 := Lib.hid h2
      simp only [List.getElem?_cons_zero] at f0
      unfold maxLen at hcm
      by_cases hp : lessB f.name (gF L i) = true
      · have hs : Hid (([] : List RF) ++ (L.take (i + 1)).filter (lessB f.name) = (([] : List RF) ++ (L.take i).filter (lessB f.name)) ++ [gF L i]) := Lib.hid (by rw [filt_yes hlt hp]; exact (List.append_assoc _ _ _).symm)
        have hq : Op.bytesLess (gF L i).name.toList f.name.toList = true := hp
        have hlen : (([] : List RF) ++ (L.take i).filter (lessB f.name)).length ≤ 2100 := by have := filt_len L (lessB f.name) i; have := hfl.out; simp only [List.length_append, List.length_cons, List.length_nil]; omega
        clear h2 hf hp
        go_wp2_with fail
        go_quiet (fail)
        have H3 := Lib.hid ((HH.out.bel (below_drewN' hB.out nq)))
        have HB3 := Lib.hid (below_drewN' hB.out nq)
        have R3 := Lib.hid (own_turns hR.out ((Turns.refl (fun _ => False) wr).drewN nq) (fun _ _ => id))
        clear q0 f0 b0 b1 b2 hR hB H2
        generalize wr.drewN nq = wv at *
        obtain ⟨q0, _, _⟩ := H3.out.cells
        obtain ⟨g', hg', hgl, _, _, b0, b1, b2⟩ := gF_cells H3.out.row i hlt
        injection hg' with hg'
        injection hg' with hg'
        subst hg'
        obtain ⟨Al, cl, rfl⟩ := own_slice' R3.out
        have HA := Lib.hid (R3.out.alloc (.cells #[.string (gF L i).name, .string (gF L i).last, .string (gF L i).waits] 71))
        have HN := Lib.hid (Blk.news (Blk.new wv 71 [.string (gF L i).name, .string (gF L i).last, .string (gF L i).waits]))
        have hl1 : Hid ((([] : List RF) ++ (L.take i).filter (lessB f.name)).length + 1 ≤ maxLen) := Lib.hid (by unfold maxLen; omega)
        have hl2 : Hid (((([] : List RF) ++ (L.take i).filter (lessB f.name)).length + 1) * 48 ≤ 140737488355328) := Lib.hid (by omega)
        have HBS : Hid (W.heap.size ≤ (wv.alloc (.cells #[.string (gF L i).name, .string (gF L i).last, .string (gF L i).waits] 71)).heap.size) := Lib.hid (by have := HB3.out.size; simp; omega)
        have HB1 := Lib.hid (HB3.out.alloc HB3.out.size (.cells #[.string (gF L i).name, .string (gF L i).last, .string (gF L i).waits] 71))
        have HLE : Hid ((([] : List RF) ++ (L.take (i + 1)).filter (lessB f.name)).length = (([] : List RF) ++ (L.take i).filter (lessB f.name)).length + 1) := Lib.hid (by rw [hs.out, List.length_append]; rfl)
        have HFE : Hid ((([] : List RF) ++ (L.take (i + 1)).filter (lessB f.name)).flatMap rfC = (([] : List RF) ++ (L.take i).filter (lessB f.name)).flatMap rfC ++ [.string (gF L i).name, .string (gF L i).last, .string (gF L i).waits]) := Lib.hid (by rw [hs.out, List.flatMap_append]; simp [rfC])
        clear hs R3
        generalize ([] : List RF) ++ (L.take i).filter (lessB f.name) = Mi at *
        generalize Mi.length = nl at *
        go_wp2_with (at_builtin; refine wpList_append_own_at _ rfl _ _ 64 rfl W.heap.size 71 i0 _ 3 48 Try.underlying64 hi0 hz0 hz1 hz2 rfl (by decide) _ _ _ rfl HA.out ⟨wv.heap.size, 0, none⟩ 1 1 [.string (gF L i).name, .string (gF L i).last, .string (gF L i).waits] rfl rfl HN.out (by intro u hu; simp at hu; rcases hu with rfl | rfl | rfl <;> rfl) hl1.out hl2.out HBS.out ?_; intro v1 y1 hown1 hgr1 _ _)
        go_roundw
        case measure => simp only [intOf]; omega
        case rel => exact ⟨i + 1, by omega, by go_num, Lib.hid (by rw [HLE.out, HFE.out]; exact hown1), Lib.hid (HB1.out.grown hgr1 HB1.out.size (fun r e => own_ge HA.out e))⟩
      · have hp : lessB f.name (gF L i) = false := by simpa using hp
        have hs : Hid (([] : List RF) ++ (L.take (i + 1)).filter (lessB f.name) = ([] : List RF) ++ (L.take i).filter (lessB f.name)) := Lib.hid (by rw [filt_no hlt hp])
        have hq : Op.bytesLess (gF L i).name.toList f.name.toList = false := by unfold lessB at hp; simpa using hp
        rw [← hs.out] at hR
        clear h2 hf hp
        go_wp2_with fail
        go_quiet (fail)
        have HB3 := Lib.hid (below_drewN' hB.out nq)
        have R3 := Lib.hid (own_turns hR.out ((Turns.refl (fun _ => False) wr).drewN nq) (fun _ _ => id))
        clear q0 f0 b0 b1 b2 hR hB H2
        generalize wr.drewN nq = wv at *
        go_wp2_with fail
        go_roundw
        case measure => simp only [intOf]; omega
        case rel => exact ⟨i + 1, by omega, by go_num, R3, HB3⟩
    · have hlt1 : ¬ (i : Int) < (L.length : Int) := by omega
      obtain rfl : i = L.length := by omega
      have hR2 := hR.out
      rw [List.take_length, List.nil_append] at hR2
      have hlen : (L.filter (lessB f.name)).length ≤ 1000 := by have := hfl.out; omega
      have hf := HF.out.bel hB.out
      have f0 := hf.cell 0
      have f1 := hf.cell 1
      have f2 := hf.cell 2
      simp only [List.getElem?_cons_succ, List.getElem?_cons_zero] at f0 f1 f2
      obtain ⟨M1, hM1⟩ : ∃ M1, M1 = L.filter (lessB f.name) := ⟨_, rfl⟩
      rw [← hM1] at hR2 hlen hfl
      have HM1 := Lib.hid hM1
      clear hM1 hR h2 hf hlt
      obtain ⟨Al, cl, rfl⟩ := own_slice' hR2
      have HA := Lib.hid (hR2.alloc (.cells #[.string f.name, .string f.last, .string f.waits] 71))
      have HN := Lib.hid (Blk.news (Blk.new wr 71 [.string f.name, .string f.last, .string f.waits]))
      have hl1 : Hid (M1.length + 1 ≤ maxLen) := Lib.hid (by unfold maxLen; omega)
      have hl2 : Hid ((M1.length + 1) * 48 ≤ 140737488355328) := Lib.hid (by omega)
      have HBS : Hid (W.heap.size ≤ (wr.alloc (.cells #[.string f.name, .string f.last, .string f.waits] 71)).heap.size) := Lib.hid (by have := hB.out.size; simp; omega)
      have HB1 := Lib.hid (hB.out.alloc hB.out.size (.cells #[.string f.name, .string f.last, .string f.waits] 71))
      have HFE : Hid ((M1 ++ [f]).flatMap rfC = M1.flatMap rfC ++ [.string f.name, .string f.last, .string f.waits]) := Lib.hid (by rw [List.flatMap_append]; simp [rfC])
      clear hR2
      go_upto_region 8 with (at_builtin; refine wpList_append_own_at _ rfl _ _ 64 rfl W.heap.size 71 i0 _ 3 48 Try.underlying64 hi0 hz0 hz1 hz2 rfl (by decide) _ _ _ rfl HA.out ⟨wr.heap.size, 0, none⟩ 1 1 [.string f.name, .string f.last, .string f.waits] rfl rfl HN.out (by intro u hu; simp at hu; rcases hu with rfl | rfl | rfl <;> rfl) hl1.out hl2.out HBS.out ?_; intro v1 y1 hown1 hgr1 _ _)
      obtain ⟨Mv, cv, rfl⟩ := own_slice' hown1
      have B0' := Lib.hid (HB1.out.grown hgr1 HB1.out.size (fun r e => own_ge HA.out e))
      have R0' : Hid (y1.ownsRow W.heap.size 71 3 (.slice Mv (M1.length + 1) cv) ((M1 ++ [f]) ++ (L.take 0).filter (moreB f.name)).length (((M1 ++ [f]) ++ (L.take 0).filter (moreB f.name)).flatMap rfC)) := Lib.hid (by
        rw [List.take_zero, List.filter_nil, List.append_nil, HFE.out, List.length_append]; exact hown1)
      clear f0 f1 f2 q0 hown1 hgr1 HA HN hl1 hl2 HBS HB1 hB hlen
      have B0 := B0'
      have R0 := R0'
      clear B0' R0'
      go_wp2_with fail
      go_loopw [4, 6] (fun lv iv wr => ∃ i : Nat, i ≤ L.length ∧ iv = .int .i64 (i : Int) ∧ Hid (wr.ownsRow W.heap.size 71 3 lv ((M1 ++ [f]) ++ (L.take i).filter (moreB f.name)).length (((M1 ++ [f]) ++ (L.take i).filter (moreB f.name)).flatMap rfC)) ∧ Hid (Below W.heap.size W wr)) (fun _ iv _ => L.length - (intOf iv).toNat)
      case atStart => exact ⟨0, by omega, rfl, R0, B0⟩
      case round =>
        obtain ⟨i, hi, rfl, hR, hB⟩ := hrel
        have h2 := HH.out.bel hB.out
        obtain ⟨q0, _, _⟩ := h2.cells
        by_cases hlt : i < L.length
        · have hlt1 : (i : Int) < (L.length : Int) := by omega
          obtain ⟨g, rfl, hg, hnc, hcm, b0, b1, b2⟩ := gF_cells h2.row i hlt
          have hf := HF.out.bel hB.out
          have f0 := hf.cell 0
          have H2 := Lib.hid h2
          simp only [List.getElem?_cons_zero] at f0
          unfold maxLen at hcm
          by_cases hp : moreB f.name (gF L i) = true
          · have hs : Hid ((M1 ++ [f]) ++ (L.take (i + 1)).filter (moreB f.name) = ((M1 ++ [f]) ++ (L.take i).filter (moreB f.name)) ++ [gF L i]) := Lib.hid (by rw [filt_yes hlt hp]; exact (List.append_assoc _ _ _).symm)
            have hq : Op.bytesLess (gF L i).name.toList f.name.toList = false := by unfold moreB at hp; simp at hp; simpa using hp.1
            have hq2 : ((gF L i).name.toList == f.name.toList) = false := by unfold moreB at hp; simp at hp; simpa using hp.2
            have hlen : ((M1 ++ [f]) ++ (L.take i).filter (moreB f.name)).length ≤ 2100 := by have := filt_len L (moreB f.name) i; have := hfl.out; simp only [List.length_append, List.length_cons, List.length_nil]; omega
            clear h2 hf hp
            go_wp2_with fail
            go_quiet (fail)
            have H3 := Lib.hid ((HH.out.bel (below_drewN' hB.out nq)))
            have HB3 := Lib.hid (below_drewN' hB.out nq)
            have R3 := Lib.hid (own_turns hR.out ((Turns.refl (fun _ => False) wr).drewN nq) (fun _ _ => id))
            clear q0 f0 b0 b1 b2 hR hB H2
            generalize wr.drewN nq = wv at *
            obtain ⟨q0, _, _⟩ := H3.out.cells
            obtain ⟨g', hg', hgl, _, _, b0, b1, b2⟩ := gF_cells H3.out.row i hlt
            injection hg' with hg'
            injection hg' with hg'
            subst hg'
            obtain ⟨Al, cl, rfl⟩ := own_slice' R3.out
            have HA := Lib.hid (R3.out.alloc (.cells #[.string (gF L i).name, .string (gF L i).last, .string (gF L i).waits] 71))
            have HN := Lib.hid (Blk.news (Blk.new wv 71 [.string (gF L i).name, .string (gF L i).last, .string (gF L i).waits]))
            have hl1 : Hid (((M1 ++ [f]) ++ (L.take i).filter (moreB f.name)).length + 1 ≤ maxLen) := Lib.hid (by unfold maxLen; omega)
            have hl2 : Hid ((((M1 ++ [f]) ++ (L.take i).filter (moreB f.name)).length + 1) * 48 ≤ 140737488355328) := Lib.hid (by omega)
            have HBS : Hid (W.heap.size ≤ (wv.alloc (.cells #[.string (gF L i).name, .string (gF L i).last, .string (gF L i).waits] 71)).heap.size) := Lib.hid (by have := HB3.out.size; simp; omega)
            have HB1 := Lib.hid (HB3.out.alloc HB3.out.size (.cells #[.string (gF L i).name, .string (gF L i).last, .string (gF L i).waits] 71))
            have HLE : Hid (((M1 ++ [f]) ++ (L.take (i + 1)).filter (moreB f.name)).length = ((M1 ++ [f]) ++ (L.take i).filter (moreB f.name)).length + 1) := Lib.hid (by rw [hs.out, List.length_append]; rfl)
            have HFE : Hid (((M1 ++ [f]) ++ (L.take (i + 1)).filter (moreB f.name)).flatMap rfC = ((M1 ++ [f]) ++ (L.take i).filter (moreB f.name)).flatMap rfC ++ [.string (gF L i).name, .string (gF L i).last, .string (gF L i).waits]) := Lib.hid (by rw [hs.out, List.flatMap_append]; simp [rfC])
            clear hs R3
            generalize (M1 ++ [f]) ++ (L.take i).filter (moreB f.name) = Mi at *
            generalize Mi.length = nl at *
            go_wp2_with (at_builtin; refine wpList_append_own_at _ rfl _ _ 64 rfl W.heap.size 71 i0 _ 3 48 Try.underlying64 hi0 hz0 hz1 hz2 rfl (by decide) _ _ _ rfl HA.out ⟨wv.heap.size, 0, none⟩ 1 1 [.string (gF L i).name, .string (gF L i).last, .string (gF L i).waits] rfl rfl HN.out (by intro u hu; simp at hu; rcases hu with rfl | rfl | rfl <;> rfl) hl1.out hl2.out HBS.out ?_; intro v1 y1 hown1 hgr1 _ _)
            go_roundw
            case measure => simp only [intOf]; omega
            case rel => exact ⟨i + 1, by omega, by go_num, Lib.hid (by rw [HLE.out, HFE.out]; exact hown1), Lib.hid (HB1.out.grown hgr1 HB1.out.size (fun r e => own_ge HA.out e))⟩
          · have hp : moreB f.name (gF L i) = false := by simpa using hp
            have hs : Hid ((M1 ++ [f]) ++ (L.take (i + 1)).filter (moreB f.name) = (M1 ++ [f]) ++ (L.take i).filter (moreB f.name)) := Lib.hid (by rw [filt_no hlt hp])
            have hq : (Op.bytesLess (gF L i).name.toList f.name.toList || ((gF L i).name.toList == f.name.toList)) = true := by unfold moreB at hp; exact (by simpa only [Bool.not_eq_eq_eq_not, Bool.not_false] using hp)
            rw [← hs.out] at hR
            clear h2 hf hp
            go_wp2_with fail
            go_quiet (fail)
            have HB3 := Lib.hid (below_drewN' hB.out nq)
            have R3 := Lib.hid (own_turns hR.out ((Turns.refl (fun _ => False) wr).drewN nq) (fun _ _ => id))
            clear q0 f0 b0 b1 b2 hR hB H2
            generalize wr.drewN nq = wv at *
            go_wp2_with fail
            go_roundw
            case measure => simp only [intOf]; omega
            case rel => exact ⟨i + 1, by omega, by go_num, R3, HB3⟩
        · have hlt1 : ¬ (i : Int) < (L.length : Int) := by omega
          obtain rfl : i = L.length := by omega
          have z0 := h2.blk.fz 0
          have hR2 := hR.out
          rw [List.take_length, HM1.out, ← putL_eq] at hR2
          have hml := putL_len L f
          have HM : Hid (∃ M, M = putL L f) := Lib.hid ⟨_, rfl⟩
          obtain ⟨M, hM⟩ := HM.out
          rw [← hM] at hR2 hml
          have HM : Hid (M = putL L f) := Lib.hid hM
          clear hM
          obtain ⟨Al2, cl2, rfl⟩ := own_slice' hR2
          have HFi := Lib.hid (HH.out.again hHw hB.out hR2 (by omega))
          clear hR hR2 h2 hlt
          go_wp2_with fail
          go_end0
          rw [← HM.out]
          exact ⟨rfl, _, HFi.out.1, ((Turns.of_below (S := fun i => i = r) (by rw [HBQ.out]; exact HBW.out)).then HFi.out.2.1), fun g hg => by have h1 := HFi.out.2.2 g hg; have h2 := HBW.out.size; have h3 := HBQ.out; omega⟩
end Go.Proofs.Ytoljnklceghcdaa
