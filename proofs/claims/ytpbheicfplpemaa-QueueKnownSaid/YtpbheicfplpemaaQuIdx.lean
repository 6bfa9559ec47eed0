/- queue: the closure of Poll, IndexFunc. -/
import Derived.Test.YtpbheicfplpemaaQuFor
namespace Go.Proofs.Ytpbheicfplpemaa
open Go.RowKit

def gT (ts : List Tk) (j : Nat) : Tk := ts.getD j ⟨⟨#[]⟩, ⟨#[]⟩, 0, 0⟩
theorem gT_of {ts : List Tk} {j : Nat} (h : j < ts.length) : gT ts j = ts[j] := by simp [gT, List.getD, h]
theorem gT_mem {ts : List Tk} {j : Nat} (h : j < ts.length) : gT ts j ∈ ts := by rw [gT_of h]; exact List.getElem_mem h
theorem gT_cells {w : World} {rv : Value} {ts : List Tk} (h : w.ownsRow 0 75 4 rv ts.length (ts.flatMap tkC)) {g n cap : Nat} (he : rv = .slice (some ⟨g, 0, none⟩) n cap) (j : Nat) (hj : j < ts.length) :
    w.cell? ⟨g, j * 4, none⟩ = some (.string (gT ts j).key) ∧ w.cell? ⟨g, j * 4 + 1, none⟩ = some (.string (gT ts j).sticky) ∧ w.cell? ⟨g, j * 4 + 2, none⟩ = some (.int .i64 (gT ts j).ready) ∧ w.cell? ⟨g, j * 4 + 3, none⟩ = some (.int .i64 (gT ts j).att) := by
  subst he
  have hn : n = ts.length := by
    rcases h.2 with ⟨h0, _⟩ | ⟨g', cap', cur, hv, _⟩
    · cases h0
    · cases hv; rfl
  subst hn
  have hx : ∀ i, i < 4 → w.cell? ⟨g, j * 4 + i, none⟩ = (tkC (gT ts j))[i]? := fun i hi => by
    rw [h.cellAt _ (by omega), flat_get tkC 4 tkC_len ts j i hi, List.getElem?_eq_getElem hj, gT_of hj]
    rfl
  have h0 := hx 0 (by omega)
  rw [Nat.add_zero] at h0
  exact ⟨h0, hx 1 (by omega), hx 2 (by omega), hx 3 (by omega)⟩
def IdxP (pred : Tk → Bool) (ts : List Tk) (a : Int) : Prop := (a = -1 ∧ ∀ t ∈ ts, pred t = false) ∨ ∃ i : Nat, i < ts.length ∧ a = (i : Int) ∧ pred (gT ts i) = true ∧ ∀ j, j < i → pred (gT ts j) = false
def tkRdy (t : Tk) : Prop := -9223372036854775808 ≤ t.ready ∧ t.ready ≤ 9223372036854775807

set_option maxRecDepth 20000 in
set_option maxHeartbeats 4000000 in
theorem closeQ (w : World) (q bq bw bn : Nat) (grace : Int) (t : Tk) (who : ByteArray) (now : Int) (hql : q < w.heap.size) (hbl : bq < w.heap.size ∧ bw < w.heap.size ∧ bn < w.heap.size) (hc : w.cell? ⟨q, 1, none⟩ = some (.int .i64 grace)) (h0 : w.cell? ⟨bq, 0, none⟩ = some (.pointer (some ⟨q, 0, none⟩))) (h1 : w.cell? ⟨bw, 0, none⟩ = some (.string who)) (h2 : w.cell? ⟨bn, 0, none⟩ = some (.int .i64 now)) (hg : -9223372036854775808 ≤ grace ∧ grace ≤ 9223372036854775807) (hr : tkRdy t) :
    Calls Try.prog 31 #[tkV t, .pointer (some ⟨bq, 0, none⟩), .pointer (some ⟨bw, 0, none⟩), .pointer (some ⟨bn, 0, none⟩)] w fun e w' => e = .returned (.bool (isForI grace who now t)) ∧ Below w.heap.size w w' := by
  have hB := Lib.hid (Below.new w (.cells #[.string t.key, .string t.sticky, .int .i64 t.ready, .int .i64 t.att] 75))
  have KB := Lib.hid (Blk.new w 75 [.string t.key, .string t.sticky, .int .i64 t.ready, .int .i64 t.att])
  have HX := Lib.hid ((hB.out.cell (p := ⟨q, 1, none⟩) hql).trans hc)
  have G0 := Lib.hid ((hB.out.cell (p := ⟨bq, 0, none⟩) hbl.1).trans h0)
  have G1 := Lib.hid ((hB.out.cell (p := ⟨bw, 0, none⟩) hbl.2.1).trans h1)
  have G2 := Lib.hid ((hB.out.cell (p := ⟨bn, 0, none⟩) hbl.2.2).trans h2)
  have HF := fun X (hl : q < X.heap.size) hc' => Lib.hid (isForQ X q grace t who now hl hc' hg hr)
  clear hc h0 h1 h2
  unfold tkV at HF ⊢
  go_enter Try.func31, Try.ntmps31
  go_upto_region 1 with (fail)
  generalize w.alloc (.cells #[.string t.key, .string t.sticky, .int .i64 t.ready, .int .i64 t.att] 75) = X at *
  have g0 := G0.out
  have g1 := G1.out
  have g2 := G2.out
  have u0 := KB.out.cell 0
  have u1 := KB.out.cell 1
  have u2 := KB.out.cell 2
  have u3 := KB.out.cell 3
  simp only [List.getElem?_cons_succ, List.getElem?_cons_zero] at u0 u1 u2 u3
  have hqX : q < X.heap.size := by have := hB.out.size; omega
  have HC := HF X hqX HX.out
  clear HF
  go_wp2_with (go_at_call 32; refine HC.out.mono ?_; rintro e w2 ⟨rfl, hb2⟩; have HB2 := Lib.hid (below_trans' hB.out hb2); clear hb2)
  go_ret
  exact ⟨rfl, HB2.out⟩

set_option maxRecDepth 20000 in
set_option maxHeartbeats 4000000 in
theorem indexQ (w : World) (wv : Value) (ts : List Tk) (h : w.ownsRow 0 75 4 wv ts.length (ts.flatMap tkC)) (hf : ts.length ≤ 100000) (pred : Tk → Bool) (b1 b2 b3 : Value)
    (hcl : ∀ X, Below w.heap.size w X → ∀ t ∈ ts, Calls Try.prog 31 #[tkV t, b1, b2, b3] X fun e w' => e = .returned (.bool (pred t)) ∧ Below X.heap.size X w') :
    Calls Try.prog 30 #[wv, .func (.func 31) #[] #[b1, b2, b3]] w fun e w' => ∃ a, e = .returned (.int .i64 a) ∧ IdxP pred ts a ∧ Below w.heap.size w w' := by
  have HH := Lib.hid h
  obtain ⟨A0, c0, rfl⟩ := own_slice' h
  have HC := Lib.hid hcl
  clear h hcl
  go_enter Try.func30, Try.ntmps30
  go_wp2_with fail
  go_loopw [8] (fun iv wr => ∃ i : Nat, i ≤ ts.length ∧ iv = .int .i64 (i : Int) ∧ Hid (∀ j, j < i → pred (gT ts j) = false) ∧ Hid (Below w.heap.size w wr)) (fun iv _ => ts.length - (intOf iv).toNat)
  case atStart => exact ⟨0, by omega, rfl, Lib.hid (fun j hj => absurd hj (Nat.not_lt_zero _)), Lib.hid (Below.refl _ _)⟩
  case round =>
    obtain ⟨i, hi, rfl, hF, hB⟩ := hrel
    by_cases hlt : i < ts.length
    · have hlt1 : (i : Int) < (ts.length : Int) := by omega
      have hrow := own_turns HH.out (.of_below (S := fun _ => False) hB.out) (fun _ _ => id)
      obtain ⟨g, cap, e, _, hg, hnc, hcm⟩ := own_at hrow (by omega)
      injection e with e1 _ e3
      subst e1 e3
      obtain ⟨d0, d1, d2, d3⟩ := gT_cells hrow rfl i hlt
      have hc := Lib.hid (HC.out wr hB.out (gT ts i) (gT_mem hlt))
      unfold tkV at hc
      clear hrow
      by_cases hp : pred (gT ts i) = true
      · rw [hp] at hc
        go_wp2_with fail
        refine hc.out.mono ?_
        rintro e w2 ⟨rfl, hb2⟩
        have HB2 := Lib.hid (below_trans' hB.out hb2)
        clear hb2 hc
        go_wp2_with fail
        go_ret
        exact ⟨_, rfl, .inr ⟨i, hlt, rfl, hp, hF.out⟩, HB2.out⟩
      · rw [Bool.not_eq_true] at hp
        have HF2 : Hid (∀ j, j < i + 1 → pred (gT ts j) = false) := Lib.hid (fun j hj => by
          by_cases e : j = i
          · subst e; exact hp
          · exact hF.out j (by omega))
        rw [hp] at hc
        go_wp2_with fail
        refine hc.out.mono ?_
        rintro e w2 ⟨rfl, hb2⟩
        have HB2 := Lib.hid (below_trans' hB.out hb2)
        clear hb2 hc
        go_wp2_with fail
        go_roundw
        case measure => simp only [intOf]; omega
        case rel => exact ⟨i + 1, by omega, by go_num, HF2, HB2⟩
    · have hlt1 : ¬ (i : Int) < (ts.length : Int) := by omega
      go_wp2_with fail
      go_ret
      refine ⟨_, rfl, .inl ⟨rfl, fun x hx => ?_⟩, hB.out⟩
      obtain ⟨j, hj, rfl⟩ := List.mem_iff_getElem.1 hx
      have := hF.out j (by omega)
      rwa [gT_of hj] at this
end Go.Proofs.Ytpbheicfplpemaa
