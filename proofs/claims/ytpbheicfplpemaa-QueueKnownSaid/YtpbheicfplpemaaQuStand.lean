/- QueueOnce: what stands, in plain words; stand. -/
import Derived.Test.YtpbheicfplpemaaQuSteps
import Derived.Maps.RangeWalk
namespace Go.Proofs.Ytpbheicfplpemaa
open Go.RowKit

def hdo (x : Ot) : Hd := (x.token, x.tk.key)
def keysOf (ts : List Tk) (zs : List Ot) : List ByteArray := ts.map (·.key) ++ zs.map (·.tk.key)
/-- what the law keeps of tasks and keys -/
structure ON (i : Nat) (ts : List Tk) (zs : List Ot) (tm : ByteArray → Option Int) (kf : ByteArray → Option Int) : Prop where
  nd : (keysOf ts zs).Nodup
  wt : ∀ t ∈ ts, kf t.key = some t.att
  out : ∀ x ∈ zs, kf x.tk.key = some x.tk.att
  rest : ∀ k n, kf k = some n → n < 1000 → k ∈ keysOf ts zs
  att : ∀ t ∈ ts, 0 ≤ t.att ∧ t.att ≤ (i : Int)
  att2 : ∀ x ∈ zs, 0 ≤ x.tk.att ∧ x.tk.att ≤ (i : Int)
  rdy : ∀ t ∈ ts, tkRdy t
  there : ∀ k, tm k ≠ none → kf k ≠ none
  len : ts.length + zs.length ≤ i
/-- each of these once -/
def seenF (L : List ByteArray) : ByteArray → Option Int := fun k => if (L.any fun x => decide (x = k)) = true then some 1 else none
theorem seenF_in {L : List ByteArray} {k : ByteArray} (h : k ∈ L) : seenF L k = some 1 := by
  unfold seenF
  rw [if_pos (List.any_eq_true.2 ⟨k, h, by simp⟩)]
theorem seenF_not {L : List ByteArray} {k : ByteArray} (h : k ∉ L) : seenF L k = none := by
  unfold seenF
  rw [if_neg]
  intro ha
  obtain ⟨x, hx, e⟩ := List.any_eq_true.1 ha
  rw [decide_eq_true_eq] at e
  exact h (e ▸ hx)
theorem seenF_upd (L : List ByteArray) (k : ByteArray) : updS (seenF L) k 1 = seenF (L ++ [k]) := by
  funext x
  unfold updS
  by_cases h : x = k
  · rw [if_pos h, seenF_in (by simp [h])]
  · rw [if_neg h]
    by_cases hl : x ∈ L
    · rw [seenF_in hl, seenF_in (by simp [hl])]
    · rw [seenF_not hl, seenF_not (by simp [h, hl])]
theorem seenF_nil : seenF [] = fun _ => none := by funext x; simp [seenF]
def small (kf : ByteArray → Option Int) (k : ByteArray) : Bool := match kf k with | some n => decide (n < 1000) | none => false
theorem ON.small {i : Nat} {ts : List Tk} {zs : List Ot} {tm kf : ByteArray → Option Int} (h : ON i ts zs tm kf) (hi : i ≤ 80) {ks : List ByteArray} (hn : ks.Nodup) (hd : ∀ k ∈ ks, kf k ≠ none) (ha : ∀ k n, kf k = some n → k ∈ ks) : (ks.filter (small kf)).length = ts.length + zs.length := by
  have hl : (keysOf ts zs).length = ts.length + zs.length := by simp [keysOf]
  rw [← hl]
  refine Nat.le_antisymm (nodup_sub_len _ _ (List.Nodup.sublist List.filter_sublist hn) fun k hk => ?_) (nodup_sub_len _ _ h.nd fun k hk => ?_)
  · obtain ⟨h1, h2⟩ := List.mem_filter.1 hk
    unfold Proofs.Ytpbheicfplpemaa.small at h2
    cases e : kf k with
    | none => rw [e] at h2; cases h2
    | some n => rw [e] at h2; exact h.rest k n e (by simpa using h2)
  · rw [List.mem_filter]
    unfold keysOf at hk
    rcases List.mem_append.1 hk with hk | hk
    · obtain ⟨t, ht, rfl⟩ := List.mem_map.1 hk
      refine ⟨ha _ _ (h.wt t ht), ?_⟩
      unfold Proofs.Ytpbheicfplpemaa.small
      rw [h.wt t ht]
      have := h.att t ht
      simp; omega
    · obtain ⟨x, hx, rfl⟩ := List.mem_map.1 hk
      refine ⟨ha _ _ (h.out x hx), ?_⟩
      unfold Proofs.Ytpbheicfplpemaa.small
      rw [h.out x hx]
      have := h.att2 x hx
      simp; omega
theorem ON.small_le {i : Nat} {ts : List Tk} {zs : List Ot} {tm kf : ByteArray → Option Int} (h : ON i ts zs tm kf) {ks : List ByteArray} (hn : ks.Nodup) : (ks.filter (Proofs.Ytpbheicfplpemaa.small kf)).length ≤ i := by
  have hl : (keysOf ts zs).length = ts.length + zs.length := by simp [keysOf]
  refine Nat.le_trans (nodup_sub_len _ _ (List.Nodup.sublist List.filter_sublist hn) fun k hk => ?_) (Nat.le_trans (Nat.le_of_eq hl) h.len)
  obtain ⟨h1, h2⟩ := List.mem_filter.1 hk
  unfold Proofs.Ytpbheicfplpemaa.small at h2
  cases e : kf k with
  | none => rw [e] at h2; cases h2
  | some n => rw [e] at h2; exact h.rest k n e (by simpa using h2)
theorem sV_some {m : ByteArray → Option Int} {k : ByteArray} {v : Value} (h : sV m k = some v) : ∃ x, m k = some x ∧ v = .int .i64 x := by
  unfold sV at h
  cases e : m k with
  | none => rw [e] at h; cases h
  | some x => rw [e] at h; injection h with h; exact ⟨x, rfl, h.symm⟩
theorem str_cell {w : World} {base n g cap : Nat} {ts : List Tk} (h : w.ownsRow base 9 1 (.slice (some ⟨g, 0, none⟩) n cap) n (ts.map fun t => .string t.key)) (k : Nat) (hk : k < ts.length) (hn : n = ts.length) : w.cell? ⟨g, k, none⟩ = some (.string (ts[k]).key) := by
  rw [h.cellAt k (by rw [Nat.mul_one]; omega), List.getElem?_map, List.getElem?_eq_getElem hk]
  rfl
theorem ou_cells {w : World} {base n g cap : Nat} {zs : List Ot} (h : w.ownsRow base 42 3 (.slice (some ⟨g, 0, none⟩) n cap) n (zs.flatMap ouC)) (k : Nat) (hk : k < zs.length) (hn : n = zs.length) : w.cell? ⟨g, k * 3, none⟩ = some (.string (zs[k]).tk.key) ∧ w.cell? ⟨g, k * 3 + 1, none⟩ = some (.int .i64 (zs[k]).token) ∧ w.cell? ⟨g, k * 3 + 2, none⟩ = some (.int .i64 (zs[k]).tk.att) := by
  have hx : ∀ j, j < 3 → w.cell? ⟨g, k * 3 + j, none⟩ = (ouC zs[k])[j]? := fun j hj => by
    rw [h.cellAt _ (by omega), flat_get ouC 3 ouC_len zs k j hj, List.getElem?_eq_getElem hk]
    rfl
  exact ⟨hx 0 (by omega), hx 1 (by omega), hx 2 (by omega)⟩
theorem lookS {w : World} {M n : Nat} {m : ByteArray → Option Int} (h : MapIs kStr w M (sV m) n) (k : ByteArray) (c : Bool) : (Instr.lookup 47 (.map (some M)) (.string k) c).run Try.prog w = .ok (if c then .tuple #[.int .i64 ((m k).getD 0), .bool (m k).isSome] else .int .i64 ((m k).getD 0)) w := by
  have := MapIs.lookup (t := 47) (e := 3) h (str_keys Try.underlying9) Try.underlying47 (zeroIntE _) k c
  unfold sV at this
  cases e : m k with
  | none => simpa [e, kStr] using this
  | some x => simpa [e, kStr] using this
set_option maxRecDepth 20000 in
set_option maxHeartbeats 8000000 in
theorem stand_any (w : World) (q : Nat) (most grace next : Int) (wv : Value) (ts : List Tk) (O T : Nat) (om : Int → Option Ot) (tm : ByteArray → Option Int) (h : QS w q most grace next wv ts O T om tm) (zs : List Ot) (hz : OutsS om zs) (ho : ∀ x ∈ zs, OtOk x) (K nk hb : Nat) (kf : ByteArray → Option Int) (hK : MapIs kStr w K (sV kf) nk) (hv : Value) (hr : w.ownsRow hb 53 2 hv zs.length ((zs.map hdo).flatMap hdC)) (i : Nat) (hon : ON i ts zs tm kf) (hi : i ≤ 80) :
    Calls Try.prog 22 #[.pointer (some ⟨q, 0, none⟩), .map (some K), hv] w fun e w' => e = .returned (.bool true) ∧ Below w.heap.size w w' := by
  have hmm := @run_makeMap Try.prog
  have hll := hon.len
  obtain ⟨AH, cH, rfl⟩ := own_slice' hr
  have HH := Lib.hid h
  have HZ := Lib.hid hz
  have HK := Lib.hid hK
  have HR := Lib.hid hr
  have HON := Lib.hid hon
  have HW := Lib.hid (waitsQ w q most grace next wv ts O T om tm h)
  have HOu := Lib.hid (fun (X : World) (hX : Below w.heap.size w X) => outsQ X q most grace next wv ts O T om tm (h.bel hX) zs hz ho (by omega))
  clear h hz hK hr hon
  go_enter Try.func22, Try.ntmps22
  go_upto_region 2 with (go_at_call 25; refine HW.out.mono ?_; rintro e w1 ⟨v1, rfl, r1, b1⟩; obtain ⟨A1, c1, rfl⟩ := own_slice' r1; have R1 := Lib.hid r1; have B1 := Lib.hid b1; clear r1 b1)
  have hO := Lib.hid (HOu.out w1 B1.out)
  clear HW HOu
  go_upto_region 3 with (go_at_call 18; refine hO.out.mono ?_; rintro e w2 ⟨v2, rfl, r2, b2⟩; obtain ⟨A2, c2, rfl⟩ := own_slice' r2; have R2 := Lib.hid r2; have B2 := Lib.hid (B1.out.trans (b2.mono B1.out.size)); have R12 := Lib.hid (own_turns R1.out (.of_below (S := fun _ => False) b2) (fun _ _ => id)); clear r2 b2)
  clear hO R1 B1
  have hM0 := MapIs.empty kStr w2
  rw [show (fun _ => none : ByteArray → Option Value) = sV (seenF ((ts.take 0).map (·.key))) from by funext x; simp [sV, seenF]] at hM0
  have HM0 := Lib.hid hM0
  have HB0 := Lib.hid (Below.new w2 (.map #[] 0))
  clear hM0
  go_wp2_with fail
  go_loopw [10] (fun iv wr => ∃ (j n : Nat), j ≤ ts.length ∧ iv = .int .i64 (j : Int) ∧ Hid (MapIs kStr wr w2.heap.size (sV (seenF ((ts.take j).map (·.key)))) n) ∧ Hid (Below w2.heap.size w2 wr)) (fun iv _ => ts.length - (intOf iv).toNat)
  case atStart => exact ⟨0, 0, by omega, rfl, HM0, HB0⟩
  case round =>
    clear HM0 HB0
    obtain ⟨j, n, hj, rfl, hM, hB⟩ := hrel
    by_cases hlt : j < ts.length
    · have hlt1 : (j : Int) < (ts.length : Int) := by omega
      have hR := own_turns R12.out (.of_below (S := fun _ => False) hB.out) (fun _ _ => id)
      obtain ⟨g, c0, he, hvb, hg, hnc, hcm⟩ := own_at hR (by omega)
      injection he with he1 he2 he3
      subst he1 he3
      have d0 := str_cell hR j hlt rfl
      have hnot : seenF ((ts.take j).map (·.key)) (ts[j]).key = none := by
        refine seenF_not fun hmem => ?_
        obtain ⟨t, ht, e⟩ := List.mem_map.1 hmem
        obtain ⟨k, hk, rfl⟩ := List.mem_iff_getElem.1 ht
        rw [List.length_take] at hk
        rw [List.getElem_take] at e
        have hnd := (List.nodup_append.1 HON.out.nd).1
        have := List.pairwise_iff_getElem.1 hnd k j (by simp; omega) (by simpa using hlt) (by omega)
        simp only [List.getElem_map] at this
        exact this e
      have hlk := lookS hM.out (ts[j]).key false
      rw [hnot] at hlk
      have hsn : (ts.take (j + 1)).map (·.key) = (ts.take j).map (·.key) ++ [(ts[j]).key] := by rw [List.take_succ_eq_append_getElem hlt, List.map_append]; rfl
      have HSn := Lib.hid hsn
      clear hR hnot hsn
      generalize (ts[j]).key = y at *
      simp only [Option.getD_none, Bool.false_eq_true, if_false] at hlk
      go_wp2_with (at_mapUpdate; refine wpl_update _ rfl _ _ _ 47 rfl (str_keys Try.underlying9) Try.underlying47 hM.out y (.int .i64 1) rfl rfl rfl ?_; intro w3 hm3 ht3; have HM3 := Lib.hid hm3; have HT3 := Lib.hid ht3; clear hm3 ht3)
      have HM4 := Lib.hid (by have := HM3.out; rw [show (fun k' => if k' = y then some (Value.int .i64 1) else sV (seenF ((ts.take j).map (·.key))) k') = sV (seenF ((ts.take (j + 1)).map (·.key))) from by rw [HSn.out, ← seenF_upd, sV_upd]] at this; exact this)
      have HB4 := Lib.hid (hB.out.trans ((Turns.of_map (S := fun i => i = w2.heap.size) HT3.out rfl).below hB.out.size fun i _ e => Nat.le_of_eq e.symm))
      go_roundw
      case measure => simp only [intOf]; omega
      case rel => exact ⟨j + 1, _, by omega, by go_num, HM4, HB4⟩
    · obtain rfl : j = ts.length := by omega
      have hlt1 : ¬ (ts.length : Int) < (ts.length : Int) := by omega
      have hM0 := hM.out
      rw [List.take_length, show ts.map (·.key) = ts.map (·.key) ++ (zs.take 0).map (·.tk.key) from by simp] at hM0
      have HM0 := Lib.hid hM0
      clear hM hM0
      go_wp2_with fail
      go_loopw [11, 12] (fun iv _ wr => ∃ (j n : Nat), j ≤ zs.length ∧ iv = .int .i64 (j : Int) ∧ Hid (MapIs kStr wr w2.heap.size (sV (seenF (ts.map (·.key) ++ (zs.take j).map (·.tk.key)))) n) ∧ Hid (Below w2.heap.size w2 wr)) (fun iv _ _ => zs.length - (intOf iv).toNat)
      case atStart => exact ⟨0, _, by omega, rfl, HM0, hB⟩
      case round =>
        clear HM0 hB
        obtain ⟨j, n, hj, rfl, hM, hB⟩ := hrel
        by_cases hlt : j < zs.length
        · have hlt1 : (j : Int) < (zs.length : Int) := by omega
          have hR := own_turns R2.out (.of_below (S := fun _ => False) hB.out) (fun _ _ => id)
          obtain ⟨g, c0, he, hvb, hg, hnc, hcm⟩ := own_at hR (by omega)
          injection he with he1 he2 he3
          subst he1 he3
          obtain ⟨d0, d1, d2⟩ := ou_cells hR j hlt rfl
          have hnot : seenF (ts.map (·.key) ++ (zs.take j).map (·.tk.key)) (zs[j]).tk.key = none := by
            refine seenF_not fun hmem => ?_
            have hnd := List.nodup_append.1 HON.out.nd
            rcases List.mem_append.1 hmem with hmem | hmem
            · exact hnd.2.2 _ hmem _ (List.mem_map.2 ⟨_, List.getElem_mem hlt, rfl⟩) rfl
            · obtain ⟨t, ht, e⟩ := List.mem_map.1 hmem
              obtain ⟨k, hk, rfl⟩ := List.mem_iff_getElem.1 ht
              rw [List.length_take] at hk
              rw [List.getElem_take] at e
              have := List.pairwise_iff_getElem.1 hnd.2.1 k j (by simp; omega) (by simpa using hlt) (by omega)
              simp only [List.getElem_map] at this
              exact this e
          have hlk := lookS hM.out (zs[j]).tk.key false
          rw [hnot] at hlk
          have hsn : ts.map (·.key) ++ (zs.take (j + 1)).map (·.tk.key) = (ts.map (·.key) ++ (zs.take j).map (·.tk.key)) ++ [(zs[j]).tk.key] := by rw [List.take_succ_eq_append_getElem hlt, List.map_append, List.append_assoc]; rfl
          have HSn := Lib.hid hsn
          have HBw := Lib.hid (B2.out.trans (hB.out.mono B2.out.size))
          have HRj := Lib.hid hR
          have HHe := Lib.hid (fun (X : World) (hX : X.ownsRow hb 53 2 (.slice AH zs.length cH) zs.length ((zs.map hdo).flatMap hdC)) => held1 X hb zs.length _ (zs.map hdo) hX (by simp) (by omega) (zs[j]).token j (by simpa using hlt) (by simp [hdo]) (fun k hk => by
            simp only [List.getElem_map, hdo]
            have := List.pairwise_iff_getElem.1 HZ.out.ris k j (by omega) hlt hk
            omega))
          have HKf := Lib.hid (HON.out.out _ (List.getElem_mem hlt))
          have HDA := Lib.hid (fun (X : World) (hX : X.ownsRow hb 53 2 (.slice AH zs.length cH) zs.length ((zs.map hdo).flatMap hdC)) (gh ch : Nat) (e : (Value.slice AH zs.length cH) = .slice (some ⟨gh, 0, none⟩) zs.length ch) => by
            rw [e] at hX
            have := (hd_cells hX (by simp) j (by simpa using hlt)).2
            simpa [hdo] using this)
          have HPr : Hid (∀ k (hk : k < j), (zs[k]'(by omega)).token < (zs[j]).token) := Lib.hid (fun k hk => List.pairwise_iff_getElem.1 HZ.out.ris k j (by omega) hlt hk)
          clear hR hnot hsn
          generalize hyj : zs[j] = y at *
          have HYJ := Lib.hid hyj
          clear hyj
          simp only [Option.getD_none, Bool.false_eq_true, if_false] at hlk
          go_upto_region 12 with (at_mapUpdate; refine wpl_update _ rfl _ _ _ 47 rfl (str_keys Try.underlying9) Try.underlying47 hM.out y.tk.key (.int .i64 1) rfl rfl rfl ?_; intro w3 hm3 ht3; have HM3 := Lib.hid hm3; have HT3 := Lib.hid ht3; clear hm3 ht3)
          have HB4 := Lib.hid (hB.out.trans ((Turns.of_map (S := fun i => i = w2.heap.size) HT3.out rfl).below hB.out.size fun i _ e => Nat.le_of_eq e.symm))
          have HM4 := Lib.hid (by have := HM3.out; rw [show (fun k' => if k' = y.tk.key then some (Value.int .i64 1) else sV (seenF (ts.map (·.key) ++ (zs.take j).map (·.tk.key))) k') = sV (seenF (ts.map (·.key) ++ (zs.take (j + 1)).map (·.tk.key))) from by rw [HSn.out, ← seenF_upd, sV_upd]] at this; exact this)
          have e0 := (HT3.out.cell ⟨g, j * 3, none⟩).trans d0
          have e1 := (HT3.out.cell ⟨g, j * 3 + 1, none⟩).trans d1
          have e2 := (HT3.out.cell ⟨g, j * 3 + 2, none⟩).trans d2
          clear d0 d1 d2 hlk
          have HBx := B2.out.trans (HB4.out.mono B2.out.size)
          have hRH := own_turns HR.out (.of_below (S := fun _ => False) HBx) (fun _ _ => id)
          have hHe := Lib.hid (HHe.out w3 hRH)
          go_upto_region 13 with (go_at_call 20; refine hHe.out.mono ?_; rintro e w4 ⟨rfl, rfl⟩)
          obtain ⟨gh, ch, he, hvb2, hgh, hnc2, hcm2⟩ := own_at hRH (by omega)
          have f1 := HDA.out _ hRH gh ch he
          injection he with he1 he2 he3
          subst he1 he3
          have hlk := fun n : Nat => lookS ((HK.out.below HBx).below (below_drewN' (Below.refl _ _) n)) y.tk.key false
          rw [HKf.out] at hlk
          simp only [Option.getD_some, Bool.false_eq_true, if_false] at hlk
          have hneg : decide ((j : Int) < 0) = false := decide_eq_false (by omega)
          have RJ := Lib.hid (own_turns HRj.out (.of_map (S := fun i => i = w2.heap.size) HT3.out rfl) (fun g' hg' e => by have := (own_lt R2.out hg').2; omega))
          clear hHe hRH HBx
          rcases Nat.eq_zero_or_pos j with rfl | hj0
          · have hpos : decide (0 < (((0 : Nat) : Int))) = false := decide_eq_false (by omega)
            go_big_quiet (fail)
            clear hlk e0 e1 e2 f1 hneg hpos
            go_wp2_with fail
            go_roundw
            case measure => simp only [intOf]; omega
            case rel => exact ⟨0 + 1, _, by omega, by go_num, Lib.hid (HM4.out.below (below_drewN' (Below.refl _ _) nq)), Lib.hid (HB4.out.trans (below_drewN' (Below.refl _ _) nq))⟩
          · have hpos : decide (0 < (j : Int)) = true := decide_eq_true (by omega)
            have hs1 : IntKind.i64.wrap ((j : Int) - 1) = ((j - 1 : Nat) : Int) := by rw [IntKind.wrap_i64]; omega
            have hs2 : wrap64 ((j : Int) - 1) = ((j - 1 : Nat) : Int) := by unfold wrap64; omega
            have hs3 : (j : Int) - 1 = ((j - 1 : Nat) : Int) := by omega
            have hjl : j - 1 < zs.length := by omega
            have hge := decide_eq_false (show ¬ y.token ≤ (zs[j - 1]'(by omega)).token from by have := HPr.out (j - 1) (by omega); omega)
            obtain ⟨_, b1, _⟩ := ou_cells RJ.out (j - 1) (by omega) rfl
            generalize zs[j - 1]'(by omega) = x at *
            go_big_quiet (fail)
            clear hlk e0 e1 e2 f1 hneg hpos hge b1 hs1 hs2 hs3
            go_wp2_with fail
            go_roundw
            case measure => simp only [intOf]; omega
            case rel => exact ⟨j + 1, _, by omega, by go_num, Lib.hid (HM4.out.below (below_drewN' (Below.refl _ _) nq)), Lib.hid (HB4.out.trans (below_drewN' (Below.refl _ _) nq))⟩
        · obtain rfl : j = zs.length := by omega
          have hlt1 : ¬ (zs.length : Int) < (zs.length : Int) := by omega
          have hM0 := hM.out
          rw [List.take_length, show ts.map (·.key) ++ zs.map (·.tk.key) = keysOf ts zs from rfl] at hM0
          have HM0 := Lib.hid hM0
          have HKw := Lib.hid (HK.out.below (B2.out.trans (hB.out.mono B2.out.size)))
          clear hM hM0 R2 R12
          go_wp2_with (at_range; refine wpl_range _ rfl _ 47 rfl Try.underlying47 rfl HKw.out ?_; intro w5 hrg0 hg0 hs0; have HRg := Lib.hid hrg0; have HB5 := Lib.hid ((Below.refl wr.heap.size wr).grown hg0 (Nat.le_refl _) (fun r e => by cases e)); clear hrg0 hg0 hs0)
          have HM5 := Lib.hid (HM0.out.below HB5.out)
          have HB6 := Lib.hid (hB.out.trans (HB5.out.mono hB.out.size))
          have hrl : w2.heap.size < wr.heap.size := HM0.out.lt
          generalize wr.heap.size = r at *
          clear HM0 HB5 hB HKw
          go_loopw [13, 14, 15] (fun lv _ _ wq => ∃ (ks : List ByteArray) (cnt : Nat), lv = .int .i64 (((ks.filter (Proofs.Ytpbheicfplpemaa.small kf)).length : Nat) : Int) ∧ Hid (Rng kStr wq K r (sV kf) nk ks cnt) ∧ Hid (MapIs kStr wq w2.heap.size (sV (seenF (keysOf ts zs))) n) ∧ Hid (Below w2.heap.size w2 wq)) (fun _ _ _ wq => wq.rangeLeft K r)
          case atStart => exact ⟨[], nk, rfl, HRg, HM5, HB6⟩
          case round =>
            clear HRg HM5 HB6
            obtain ⟨ks, cnt, rfl, hRg, hM, hB⟩ := hrel
            have hsl := HON.out.small_le hRg.out.nodup
            go_wp2_with (at_next; refine wpl_next _ rfl _ rfl (fun a b e => by unfold kStr at e; injection e) rfl hRg.out ?_ ?_)
            · intro hc0 hl0
              have hsm := HON.out.small hi hRg.out.nodup (fun k hk => by have := hRg.out.dom k hk; intro e; exact this (by unfold sV; rw [e]; rfl)) (fun k n hk => hl0 k (.int .i64 n) (by unfold sV; rw [hk]; rfl))
              have HL := Lib.hid (lenQ wr q most grace next wv ts O T om tm (HH.out.bel (B2.out.trans (hB.out.mono B2.out.size))))
              rw [hsm]
              clear hl0
              go_wp2_with (go_at_call 11; refine HL.out.mono ?_; rintro e w' ⟨rfl, rfl⟩)
              go_ret
              exact ⟨rfl, B2.out.trans (hB.out.mono B2.out.size)⟩
            · intro k v w3 cnt2 hkv hnk hrg2 hlt2 hg2 hs2 hen
              obtain ⟨x, hx, rfl⟩ := sV_some hkv
              simp only [kStr] at hen ⊢
              have T2 : Turns (fun i => i = r) wr w3 := .of_grown hg2 (fun r' e => by injection e with e; exact e.symm)
              have HB7 := Lib.hid (hB.out.trans (T2.below hB.out.size fun i _ e => by have e2 : i = r := e; omega))
              have HM7 := Lib.hid (hM.out.turns T2 (fun e => by have e2 : w2.heap.size = r := e; omega))
              have HRg2 := Lib.hid hrg2
              have HLt := Lib.hid (show wr.rangeLeft K r = cnt from hRg.out.left_eq)
              clear hg2 hs2 hrg2 T2
              by_cases hsm : x < 1000
              · have hin := HON.out.rest k x hx hsm
                have hlk := lookS HM7.out k false
                rw [seenF_in hin] at hlk
                simp only [Option.getD_some, Bool.false_eq_true, if_false] at hlk
                have hf : ((ks ++ [k]).filter (Proofs.Ytpbheicfplpemaa.small kf)).length = (ks.filter (Proofs.Ytpbheicfplpemaa.small kf)).length + 1 := by
                  rw [List.filter_append, List.length_append]
                  simp [Proofs.Ytpbheicfplpemaa.small, hx, hsm]
                have HF := Lib.hid hf
                clear hf hin hx hkv
                generalize (ks.filter (Proofs.Ytpbheicfplpemaa.small kf)).length = lf at *
                go_wp2_with fail
                go_roundw
                case measure => rw [HRg2.out.left_eq, HLt.out]; exact hlt2
                case rel => exact ⟨ks ++ [k], cnt2, by rw [HF.out]; go_num, HRg2, HM7, HB7⟩
              · have hf : ((ks ++ [k]).filter (Proofs.Ytpbheicfplpemaa.small kf)).length = (ks.filter (Proofs.Ytpbheicfplpemaa.small kf)).length := by
                  rw [List.filter_append, List.length_append]
                  simp [Proofs.Ytpbheicfplpemaa.small, hx, hsm]
                have HF := Lib.hid hf
                clear hf hx hkv
                generalize (ks.filter (Proofs.Ytpbheicfplpemaa.small kf)).length = lf at *
                go_wp2_with fail
                go_roundw
                case measure => rw [HRg2.out.left_eq, HLt.out]; exact hlt2
                case rel => exact ⟨ks ++ [k], cnt2, by rw [HF.out], HRg2, HM7, HB7⟩
end Go.Proofs.Ytpbheicfplpemaa
