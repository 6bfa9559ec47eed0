/- wal: WalKnown. -/
import Derived.Test.YteihedfmmiihiaaGreatWmM
import Derived.Test.YteihedfmmiihiaaGreatWlAw
import Derived.Test.YteihedfmmiihiaaGreatWlKy
namespace Go.Proofs.YteihedfmmiihiaaGreat
open Go.RowKit Go.Maps Go.Sort Go.Shelf

/-- an entry of a log in memory is written over, its term or its text -/
theorem lg_put {w : World} {q o n c : Nat} {L : List En} (h : Lg w (some ⟨q, o, none⟩) n c L) (i : Nat) (hi : i < L.length) (x : En) (m : Nat) (u : Value)
    (hm : (m = o + i * 2 ∧ u = .int .i64 x.term ∧ x.data = L[i].data) ∨ (m = o + i * 2 + 1 ∧ u = .string x.data ∧ x.term = L[i].term)) : Lg (w.setCell ⟨q, m, none⟩ u) (some ⟨q, o, none⟩) n c (L.set i x) := by
  refine ⟨by rw [List.length_set]; exact h.len, h.cap, (fun e => by cases e), fun k hk => ?_⟩
  rw [List.length_set] at hk
  obtain ⟨g', o', cs, e, hb, h1, h2⟩ := h.ens k hk
  injection e with e
  injection e with e1 e2
  subst e1 e2
  have hB : Blk w q 29 cs.toList := by unfold Blk; rw [hb]
  have hB2 := hB.set m u
  have hc : ∀ j, j ≠ m → (w.setCell ⟨q, m, none⟩ u).cell? ⟨q, j, none⟩ = w.cell? ⟨q, j, none⟩ := fun j hj => by
    rw [hB2.cell, hB.cell, List.getElem?_set_ne (Ne.symm hj)]
  have hlen : ∀ j v, w.cell? ⟨q, j, none⟩ = some v → j < cs.toList.length := fun j v hv => by
    rw [hB.cell] at hv
    exact (List.getElem?_eq_some_iff.1 hv).1
  have hs : m < cs.toList.length → (w.setCell ⟨q, m, none⟩ u).cell? ⟨q, m, none⟩ = some u := fun hl => by
    rw [hB2.cell, List.getElem?_set_self hl]
  refine ⟨q, o, _, rfl, hB2, ?_, ?_⟩
  · by_cases hki : i = k
    · subst hki
      rw [List.getElem_set_self]
      rcases hm with ⟨rfl, rfl, _⟩ | ⟨rfl, rfl, e⟩
      · exact hs (hlen _ _ h1)
      · rw [hc _ (by omega), h1, e]
    · rw [List.getElem_set_ne hki]
      rw [hc _ (by rcases hm with ⟨rfl, _⟩ | ⟨rfl, _⟩ <;> omega), h1]
  · by_cases hki : i = k
    · subst hki
      rw [List.getElem_set_self]
      rcases hm with ⟨rfl, rfl, e⟩ | ⟨rfl, rfl, _⟩
      · rw [hc _ (by omega), h2, e]
      · exact hs (hlen _ _ h2)
    · rw [List.getElem_set_ne hki]
      rw [hc _ (by rcases hm with ⟨rfl, _⟩ | ⟨rfl, _⟩ <;> omega), h2]
theorem made_en : ∀ n, (madeCells #[.int .i64 0, .string ⟨#[]⟩] (n * 2)).toList = (List.replicate n (⟨0, ⟨#[]⟩⟩ : En)).flatMap enC
  | 0 => by simp [madeCells]
  | n + 1 => by
    have ih := made_en n
    have e : (n + 1) * 2 = n * 2 + 1 + 1 := by omega
    unfold madeCells at ih ⊢
    rw [e, List.replicate_succ', List.flatMap_append, ← ih]
    simp only [Array.toList_map, Array.toList_range]
    rw [List.range_succ, List.range_succ, List.map_append, List.map_append, List.append_assoc]
    have h1 : n * 2 % 2 = 0 := by omega
    have h2 : (n * 2 + 1) % 2 = 1 := by omega
    simp [h1, h2, enC]
/-- a log of n entries, made -/
theorem make_en (n : Nat) (hn : n ≤ 1000000) : ∃ Z : Array Value, ∀ w : World, (Instr.makeSlice 25 (.int .i64 (n : Int)) (.int .i64 (n : Int))).run Tryz.prog w = .ok (.slice (some ⟨w.heap.size, 0, none⟩) n n) (w.alloc (.cells Z 29)) ∧
    OwnE (w.alloc (.cells Z 29)) w.heap.size (some ⟨w.heap.size, 0, none⟩) n (List.replicate n ⟨0, ⟨#[]⟩⟩) := by
  obtain ⟨i0, hi, hz0, hz1, hz2⟩ := info_parts info_entry
  refine ⟨madeCells #[.int .i64 0, .string ⟨#[]⟩] (n * 2), fun w => ⟨?_, ?_⟩⟩
  · have h := run_make (P := Tryz.prog) w 25 29 i0 (.agg #[.int .i64 0, .string ⟨#[]⟩]) Tryz.underlying25 hi hz0 .i64 .i64 (n : Int) (n : Int) (by omega) (by omega) (by rw [hz2]; omega) (by omega)
    rw [h, hz1]
    simp [Value.cells]
  · unfold OwnE
    rw [← made_en, List.length_replicate]
    exact World.ownsRow_lit w _ n (Nat.le_refl _) (by unfold maxLen; omega) (size_madeCells _ _)
/-- a row of zero bytes, made, as a text -/
theorem make_bs (n : Nat) (hn : n ≤ 1000000) : ∃ Z : Array Value, ∃ T : ByteArray, T.size = n ∧ ∀ w : World, (Instr.makeSlice 30 (.int .i64 (n : Int)) (.int .i64 (n : Int))).run Tryz.prog w = .ok (.slice (some ⟨w.heap.size, 0, none⟩) n n) (w.alloc (.cells Z 5)) ∧
    (∀ k, (convert 30 9 (.slice (some ⟨w.heap.size, 0, none⟩) n n)).run Tryz.prog ((w.alloc (.cells Z 5)).drewN k) = .ok (.string T) ((w.alloc (.cells Z 5)).drewN k)) := by
  obtain ⟨i0, hi, hz0, hz1, hz2⟩ := info_parts info_u8
  have hZ : (Cd.bytesV (List.replicate n 0)).toArray = madeCells #[.int .u8 0] n := by
    apply Array.ext'
    rw [toList_madeCells_one]
    simp [Cd.bytesV, Cd.byteV]
  refine ⟨madeCells #[.int .u8 0] n, ⟨(List.replicate n 0).toArray⟩, by simp [ByteArray.size], fun w => ⟨?_, fun k => ?_⟩⟩
  · have h := run_make (P := Tryz.prog) w 30 5 i0 (.int .u8 0) Tryz.underlying30 hi hz0 .i64 .i64 (n : Int) (n : Int) (by omega) (by omega) (by rw [hz2]; omega) (by omega)
    rw [h, hz1]
    simp [Value.cells]
  · have hb : Bs (w.alloc (.cells (madeCells #[.int .u8 0] n) 5)) (some ⟨w.heap.size, 0, none⟩) n (List.replicate n 0) := by
      rw [← hZ]
      exact .of_own (base := w.heap.size) (cap := n) ⟨by simp [Cd.bytesV], .inr ⟨w.heap.size, n, _, rfl, Nat.le_refl _, heap_alloc_new w _, Nat.le_refl _, by unfold maxLen; omega, by simp [Cd.bytesV], by rw [Nat.mul_one]; exact List.take_of_length_le (by simp [Cd.bytesV])⟩⟩ (by simp)
    have hq := run_conv_bs (P := Tryz.prog) (w := (w.alloc (.cells (madeCells #[.int .u8 0] n) 5)).drewN k) (hb.below (below_drewN' (Below.refl _ _) k)) 30 9 5 Tryz.underlying30 Tryz.underlying5 Tryz.underlying9
    exact hq n
/-- the log that is filled, behind i rounds -/
def lkL (Z : List En) : Nat → List En
  | 0 => Z
  | i + 1 => (lkL Z i).set i ⟨1 + (i : Int), ⟨#[]⟩⟩
theorem lkL_len (Z : List En) : ∀ i, (lkL Z i).length = Z.length
  | 0 => rfl
  | i + 1 => by rw [lkL, List.length_set, lkL_len Z i]
theorem lkL_data (Z : List En) (hZ : ∀ x ∈ Z, x.data = ⟨#[]⟩) : ∀ i (x : En), x ∈ lkL Z i → x.data = ⟨#[]⟩
  | 0, x, h => hZ x h
  | i + 1, x, h => by
    rcases List.mem_or_eq_of_mem_set h with h | h
    · exact lkL_data Z hZ i x h
    · rw [h]
theorem lkL_at (Z : List En) : ∀ i k (hk : k < (lkL Z i).length), k < i → (lkL Z i)[k] = ⟨1 + (k : Int), ⟨#[]⟩⟩
  | i + 1, k, hk, hki => by
    simp only [lkL]
    by_cases e : i = k
    · subst e
      rw [List.getElem_set_self]
    · rw [List.getElem_set_ne e]
      exact lkL_at Z i k (by rw [lkL_len]; rw [lkL_len] at hk; exact hk) (by omega)
theorem sum_set (f : En → Nat) : ∀ (L : List En) (i : Nat) (x : En), ((L.set i x).map f).sum ≤ (L.map f).sum + f x
  | [], _, _ => by simp
  | y :: L, 0, x => by simp only [List.set_cons_zero, List.map_cons, List.sum_cons]; omega
  | y :: L, i + 1, x => by
    have := sum_set f L i x
    simp only [List.set_cons_succ, List.map_cons, List.sum_cons]
    omega
theorem sum_empty : ∀ L : List En, (∀ x ∈ L, x.data = ⟨#[]⟩) → (L.map fun x => 32 + x.data.size).sum = 32 * L.length
  | [], _ => rfl
  | x :: L, h => by
    have h1 := sum_empty L (fun y hy => h y (List.mem_cons_of_mem _ hy))
    have h2 := h x List.mem_cons_self
    simp only [List.map_cons, List.sum_cons, List.length_cons, h1, h2]
    show 32 + 0 + _ = _
    omega
/-- the world's wal, in memory -/
def xw (x : Nat) (V : World) : Value := (V.cell? ⟨x, 1, none⟩).getD undef
/-- what is as long as may be -/
structure FullS (Z : List En) (T : ByteArray) (i : Nat) (s : Sv) : Prop where
  num : i = 4096
  term : s.term = 1152921504606846976
  vote : s.vote = 6
  len : s.log.length = 4096
  log : s.log = (lkL Z i).set 7 ⟨8, T⟩
theorem FullS.cap {Z : List En} {T : ByteArray} {i : Nat} {s : Sv} (h : FullS Z T i s) (hZ : ∀ x ∈ Z, x.data = ⟨#[]⟩) (hZl : Z.length = 4096) (hT : T.size = 65536) : Cap s := by
  refine ⟨⟨by rw [h.term]; decide, by rw [h.vote]; decide, by rw [h.len]; exact Nat.le_refl _, fun x hx => ?_⟩, ?_⟩
  · rw [h.log] at hx
    rcases List.mem_or_eq_of_mem_set hx with hx | rfl
    · obtain ⟨k, hk, rfl⟩ := List.getElem_of_mem hx
      have hk2 := hk
      rw [lkL_len, hZl] at hk2
      rw [lkL_at Z i k hk (by have := h.num; omega)]
      exact ⟨⟨by simp only; omega, by simp only; omega⟩, by show 0 ≤ _; omega⟩
    · exact ⟨⟨by simp only; omega, by simp only; omega⟩, by simp only; omega⟩
  · unfold wt
    rw [h.log]
    have h1 := sum_set (fun x => 32 + x.data.size) (lkL Z i) 7 ⟨8, T⟩
    have h2 := sum_empty (lkL Z i) (lkL_data Z hZ i)
    rw [lkL_len, hZl] at h2
    simp only at h1
    omega
/-- none of these may be kept -/
theorem more_bad {r : Sv} (h : r.log.length = 4097) : mayB r = false := by
  by_cases hm : mayB r = true
  · have := ((mayB_iff r).1 hm).log
    omega
  · simpa using hm
theorem deep_bad {r : Sv} (i : Nat) (hi : i < r.log.length) (h : 65536 < r.log[i].data.size) : mayB r = false := by
  by_cases hm : mayB r = true
  · have := (((mayB_iff r).1 hm).en _ (List.getElem_mem hi)).data
    omega
  · simpa using hm
theorem high_bad {r : Sv} (h : 1152921504606846976 < r.term) : mayB r = false := by
  by_cases hm : mayB r = true
  · have := ((mayB_iff r).1 hm).term
    omega
  · simpa using hm
theorem voted_bad {r : Sv} (h : 6 < r.vote) : mayB r = false := by
  by_cases hm : mayB r = true
  · have := ((mayB_iff r).1 hm).vote
    omega
  · simpa using hm
set_option maxRecDepth 20000 in
set_option maxHeartbeats 8000000 in
theorem known_any (w : World) : Calls Tryz.prog 3 #[] w fun e w' => e = .returned (.bool true) ∧ Below w.heap.size w w' := by
  have HBG := Lib.hid (begin_any w)
  obtain ⟨H, hH⟩ : ∃ H, w.heap.size = H := ⟨_, rfl⟩
  have HH := Lib.hid hH
  clear hH
  go_enter Tryz.func3, Tryz.ntmps3
  go_wp2_with fail
  refine HBG.out.mono ?_
  rintro e w1 ⟨x, d, F, N, dk, wl, rfl, hax, hlit, hN10, hb1⟩
  rw [HH.out] at hax hb1
  have A1 := Lib.hid hax
  have HLT1 := Lib.hid hlit
  have B1 := Lib.hid hb1
  clear hax hlit hb1 HBG
  obtain ⟨ZE, hZE⟩ := make_en 4096 (by omega)
  have km : ∀ w : World, (Instr.makeSlice 25 (.int .i64 4096) (.int .i64 4096)).run Tryz.prog w = .ok (.slice (some ⟨w.heap.size, 0, none⟩) 4096 4096) (w.alloc (.cells ZE 29)) := fun w => (hZE w).1
  have OE0 := Lib.hid (hZE w1).2
  clear hZE
  obtain ⟨ge, hge⟩ : ∃ ge, w1.heap.size = ge := ⟨_, rfl⟩
  have HGE := Lib.hid hge
  have BA := Lib.hid (Below.new2 w1 (.cells ZE 29) (.cells #[.int .i64 1152921504606846976, .int .i64 6, .slice (some ⟨w1.heap.size, 0, none⟩) 4096 4096] 27))
  have KG := Lib.hid (Blk.new2 w1 (.cells ZE 29) 27 [.int .i64 1152921504606846976, .int .i64 6, .slice (some ⟨w1.heap.size, 0, none⟩) 4096 4096])
  have LE := Lib.hid (OE0.out.bel (Below.new (w1.alloc (.cells ZE 29)) (.cells #[.int .i64 1152921504606846976, .int .i64 6, .slice (some ⟨w1.heap.size, 0, none⟩) 4096 4096] 27))).lg
  obtain ⟨Z, hZ⟩ : ∃ Z, List.replicate 4096 (⟨0, ⟨#[]⟩⟩ : En) = Z := ⟨_, rfl⟩
  have hZd : ∀ x ∈ Z, x.data = ⟨#[]⟩ := fun x hx => by
    rw [← hZ] at hx
    rw [List.eq_of_mem_replicate hx]
  have hZl : Z.length = 4096 := by rw [← hZ]; exact List.length_replicate
  rw [hZ] at LE
  rw [hZl] at LE
  clear hZ OE0
  have HZD := Lib.hid hZd
  have HZL := Lib.hid hZl
  go_upto_region 5 with (fail)
  rw [hge] at BA KG LE
  clear hge km
  generalize ((w1.alloc (.cells ZE 29)).alloc (.cells #[.int .i64 1152921504606846976, .int .i64 6, .slice (some ⟨ge, 0, none⟩) 4096 4096] 27)) = Y at *
  go_wp2_with fail
  go_loopw [4] (fun iv wr => ∃ i : Nat, i ≤ 4096 ∧ iv = .int .i64 (i : Int) ∧ Hid (Lg wr (some ⟨ge, 0, none⟩) 4096 4096 (lkL Z i)) ∧ Hid (Blk wr (ge + 1) 27 [.int .i64 1152921504606846976, .int .i64 6, .slice (some ⟨ge, 0, none⟩) 4096 4096]) ∧ Hid (Below ge w1 wr)) (fun iv _ => 4096 - (intOf iv).toNat)
  case atStart => exact ⟨0, by omega, rfl, LE, KG, BA⟩
  case round =>
    obtain ⟨i, hi, rfl, hL, hK, hB⟩ := hrel
    have k2 : wr.cell? ⟨ge + 1, 2, none⟩ = some (.slice (some ⟨ge, 0, none⟩) 4096 4096) := hK.out.cell 2
    by_cases hlt : i < 4096
    · have hlt1 : (i : Int) < 4096 := by omega
      have hlen : i < (lkL Z i).length := by rw [lkL_len]; have := HZL.out; omega
      obtain ⟨q, o, cs, e, hb, c0, c1⟩ := hL.out.ens i hlen
      injection e with e
      injection e with e1 e2
      subst e1 e2
      rw [Nat.zero_add] at c0 c1
      have hBE : Blk wr ge 29 cs.toList := by unfold Blk; rw [hb]
      have z0 := hBE.fz (i * 2)
      have L2 := Lib.hid (lg_put hL.out i hlen ⟨1 + (i : Int), (lkL Z i)[i].data⟩ (i * 2) (.int .i64 (1 + (i : Int))) (.inl ⟨by omega, rfl, rfl⟩))
      have hdat : (lkL Z i)[i].data = ⟨#[]⟩ := lkL_data Z HZD.out i _ (List.getElem_mem hlen)
      rw [hdat] at L2
      have K2 := Lib.hid (hK.out.far (p := ⟨ge, i * 2, none⟩) (show ge + 1 ≠ ge by omega) (.int .i64 (1 + (i : Int))))
      have B2 := Lib.hid (hB.out.setCell (p := ⟨ge, i * 2, none⟩) (Nat.le_refl _) (.int .i64 (1 + (i : Int))))
      generalize (lkL Z i)[i].term = oldt at c0
      clear hb hBE hdat c1
      go_wp2_with fail
      refine ⟨⟨i + 1, by omega, by simp, L2, K2, B2⟩, ?_⟩
      simp [intOf]; omega
    · have hi4 : i = 4096 := by omega
      have hlt1 : ¬ (i : Int) < 4096 := by omega
      have hlen : 7 < (lkL Z i).length := by rw [lkL_len]; have := HZL.out; omega
      obtain ⟨q, o, cs, e, hb, c0, c1⟩ := hL.out.ens 7 hlen
      injection e with e
      injection e with e1 e2
      subst e1 e2
      obtain ⟨ZB, T, hT, hmb⟩ := make_bs 65536 (by omega)
      have HTS := Lib.hid hT
      have kb1 : ∀ w : World, (Instr.makeSlice 30 (.int .i64 65536) (.int .i64 65536)).run Tryz.prog w = .ok (.slice (some ⟨w.heap.size, 0, none⟩) 65536 65536) (w.alloc (.cells ZB 5)) := fun w => (hmb w).1
      have kb2 : ∀ (w : World) k, (convert 30 9 (.slice (some ⟨w.heap.size, 0, none⟩) 65536 65536)).run Tryz.prog ((w.alloc (.cells ZB 5)).drewN k) = .ok (.string T) ((w.alloc (.cells ZB 5)).drewN k) := fun w => (hmb w).2
      have kb3 : (convert 30 9 (.slice (some ⟨wr.heap.size, 0, none⟩) 65536 65536)).run Tryz.prog (wr.alloc (.cells ZB 5)).drew = .ok (.string T) (wr.alloc (.cells ZB 5)).drew := kb2 wr 1
      clear kb2
      generalize (lkL Z i)[7].data = oldd at c1
      have hBE : Blk wr ge 29 cs.toList := by unfold Blk; rw [hb]
      have c1' : wr.cell? ⟨ge, 15, none⟩ = some (.string oldd) := c1
      have c1b : (wr.alloc (.cells ZB 5)).cell? ⟨ge, 15, none⟩ = some (.string oldd) := by rw [(hBE.alloc _).cell, ← hBE.cell]; exact c1
      have z1 := hBE.fz 15
      have z1b := (hBE.alloc (.cells ZB 5)).fz 15
      have k2b : (wr.alloc (.cells ZB 5)).cell? ⟨ge + 1, 2, none⟩ = some (.slice (some ⟨ge, 0, none⟩) 4096 4096) := (hK.out.alloc _).cell 2
      clear hmb hT hlt
      go_upto_region 9 with (fail)
      go_region
      have h7 : (lkL Z i)[7] = ⟨8, ⟨#[]⟩⟩ := lkL_at Z i 7 hlen (by omega)
      have L9 := Lib.hid ((lg_put (hL.out.bel (Below.new wr (.cells ZB 5))) 7 hlen ⟨8, T⟩ 15 (.string T) (.inr ⟨by omega, rfl, by rw [h7]⟩)).bel (below_drewN' (Below.refl _ _) 1))
      have K9 : Hid (Blk ((wr.alloc (.cells ZB 5)).setCell ⟨ge, 15, none⟩ (.string T)).drew (ge + 1) 27 [.int .i64 1152921504606846976, .int .i64 6, .slice (some ⟨ge, 0, none⟩) 4096 4096]) := Lib.hid ((hK.out.alloc _).far (p := ⟨ge, 15, none⟩) (show ge + 1 ≠ ge by omega) _).drew
      have B9 : Hid (Below ge w1 ((wr.alloc (.cells ZB 5)).setCell ⟨ge, 15, none⟩ (.string T)).drew) := Lib.hid (below_drewN' ((hB.out.alloc (by have := hK.out.lt; omega) _).setCell (p := ⟨ge, 15, none⟩) (Nat.le_refl _) _) 1)
      have L9 : Hid (Lg ((wr.alloc (.cells ZB 5)).setCell ⟨ge, 15, none⟩ (.string T)).drew (some ⟨ge, 0, none⟩) 4096 4096 ((lkL Z i).set 7 ⟨8, T⟩)) := L9
      generalize ((wr.alloc (.cells ZB 5)).setCell ⟨ge, 15, none⟩ (.string T)).drew = X at *
      clear k2 k2b c0 c1 c1' c1b z1 z1b kb1 kb3 hb hBE h7
      obtain ⟨s, HF⟩ : ∃ s : Sv, FullS Z T i s := ⟨⟨1152921504606846976, 6, (lkL Z i).set 7 ⟨8, T⟩⟩, hi4, rfl, rfl, by simp only; rw [List.length_set, lkL_len, HZL.out], rfl⟩
      have HCAP := Lib.hid (HF.cap HZD.out HZL.out HTS.out)
      have HFU := Lib.hid HF
      rw [← HF.log] at L9
      have h70 : 7 < s.log.length := by rw [HF.len]; omega
      have H7 : Hid (s.log[7].term = 8 ∧ s.log[7].data = T) := Lib.hid (by
        have e : s.log[7]'h70 = ((lkL Z i).set 7 ⟨8, T⟩)[7]'(by rw [← HF.log]; exact h70) := by congr 1 <;> first | exact HF.log | rfl
        rw [e, List.getElem_set_self]
        exact ⟨rfl, rfl⟩)
      clear hlen hlt1 hL hK hB HF hi4
      have AX9 := Lib.hid (A1.out.bel (by rw [HGE.out]; exact B9.out))
      have HLT : Hid (x < ge ∧ d < ge ∧ F < ge ∧ wl < ge) := Lib.hid (by
        obtain ⟨_, _, _, _, _, hb, _⟩ := A1.out.blk
        obtain ⟨_, _, _, hw, _, _⟩ := A1.out.wal
        have h1 := hb.lt
        have h2 := hw.lt
        have h3 := DS.lts A1.out.is
        have h4 := HGE.out
        omega)
      have HLO := Lib.hid A1.out.lo
      have HKX := keep_x X H x d F N dk none0 wl AX9.out (by omega) (by have := K9.out.lt; have := HLO.out; have := HLT.out; omega) s (some ⟨ge, 0, none⟩) 4096 (by rw [HFU.out.len]; exact L9.out) HCAP.out
      unfold svV at HKX
      rw [HFU.out.term, HFU.out.vote, HFU.out.len] at HKX
      have HKX := Lib.hid HKX
      have k0 : X.cell? ⟨ge + 1, 0, none⟩ = some (.int .i64 1152921504606846976) := K9.out.cell 0
      have k1 : X.cell? ⟨ge + 1, 1, none⟩ = some (.int .i64 6) := K9.out.cell 1
      have k2 : X.cell? ⟨ge + 1, 2, none⟩ = some (.slice (some ⟨ge, 0, none⟩) 4096 4096) := K9.out.cell 2
      go_wp2_with fail
      refine HKX.out.mono ?_
      rintro e w4 ⟨rfl, ht4, hcase⟩
      rcases hcase with ⟨dk4, ha4, hl4⟩ | ⟨_, _, hn⟩
      · have A4 := Lib.hid ha4
        have LT4 := Lib.hid (hl4 HLT1.out)
        have hfk : ∀ q, ge ≤ q → ¬ KSet x d F wl q := fun q hq e => by have := HLT.out; unfold KSet XSet at e; omega
        have K4 := Lib.hid (K9.out.turns ht4 (hfk _ (by omega)))
        have L4 := Lib.hid (L9.out.keep ht4 (fun q cs hq e => by injection e with e; subst e; exact hfk _ (Nat.le_refl _)))
        have T4 : Hid (Turns (fun q => H ≤ q) w1 w4) := Lib.hid ((Turns.of_below (by rw [HGE.out]; exact B9.out)).then (ht4.mono (fun q _ e => by have := HLO.out; unfold KSet XSet at e; omega)))
        obtain ⟨_, _, _, _, _, hb4, _⟩ := ha4.blk
        have q1 : w4.cell? ⟨x, 1, none⟩ = some (.pointer (some ⟨wl, 0, none⟩)) := hb4.cell 1
        have HO := Lib.hid (open_x w4 H x d F (N + 5) dk4 s none ha4.rx (by omega) (by have := hb4.lt; have := HLO.out; omega))
        clear ha4 hl4 hfk ht4 hb4 HKX k0 k1 k2
        go_wp2_with fail
        refine HO.out.mono ?_
        rintro e w5 ⟨rfl, ht5, hcase⟩
        rcases hcase with ⟨dk5, s5, wl5, ha5, hs5, _, hl5⟩ | ⟨_, _, hn⟩
        · obtain rfl : s5 = s := by
            rcases hs5 with e | e
            · exact e
            · cases e
          have A5 := Lib.hid ha5
          have LT5 := Lib.hid (hl5 LT4.out)
          have hfk : ∀ q, ge ≤ q → ¬ XSet x d F q := fun q hq e => by have := HLT.out; unfold XSet at e; omega
          have K5 := Lib.hid (K4.out.turns ht5 (hfk _ (by omega)))
          have L5 := Lib.hid (L4.out.keep ht5 (fun q cs hq e => by injection e with e; subst e; exact hfk _ (Nat.le_refl _)))
          have T5 : Hid (Turns (fun q => H ≤ q) w1 w5) := Lib.hid (T4.out.then (ht5.mono (fun q _ e => by have := HLO.out; unfold XSet at e; omega)))
          clear ha5 hs5 hl5 hfk ht5 HO q1
          obtain ⟨M, hM⟩ : ∃ M, w5.heap.size = M := ⟨_, rfl⟩
          have HM := Lib.hid hM
          clear hM
          have HMG := Lib.hid (show ge + 1 < M by have := K5.out.lt; have := HM.out; omega)
          have BV0 : Hid (Below M w5 w5) := Lib.hid (Below.refl _ _)
          have KV0 := K5
          have LV0 := L5
          have hs0 : Hid (M ≤ w5.heap.size) := Lib.hid (by have := HM.out; omega)
          have HCP := copy_any w5 (some ⟨ge, 0, none⟩) 4096 4096 s5 LV0.out (by have := HCAP.out.len; omega)
          unfold SavedY svV at HCP
          rw [HFU.out.term, HFU.out.vote, HFU.out.len] at HCP
          have HCP := Lib.hid HCP
          have k0 : w5.cell? ⟨ge + 1, 0, none⟩ = some (.int .i64 1152921504606846976) := KV0.out.cell 0
          have k1 : w5.cell? ⟨ge + 1, 1, none⟩ = some (.int .i64 6) := KV0.out.cell 1
          have k2 : w5.cell? ⟨ge + 1, 2, none⟩ = some (.slice (some ⟨ge, 0, none⟩) 4096 4096) := KV0.out.cell 2
          go_wp2_with fail
          refine HCP.out.mono ?_
          rintro e U1 ⟨A1, c1, rfl, ho, hb⟩
          have BU := Lib.hid (Below.new U1 (.cells #[.int .i64 1152921504606846976, .int .i64 6, .slice A1 4096 c1] 27))
          have KB1 := Lib.hid (Blk.new U1 27 [.int .i64 1152921504606846976, .int .i64 6, .slice A1 4096 c1])
          have HBB1 := Lib.hid (below_trans' hb BU.out)
          have OW1 := Lib.hid (ho.bel BU.out)
          have HVS1 := Lib.hid (show w5.heap.size ≤ U1.heap.size from hb.size)
          go_upto_region 13 with (fail)
          obtain ⟨b1, hbn⟩ : ∃ b, U1.heap.size = b := ⟨_, rfl⟩
          rw [hbn] at KB1 HVS1 ⊢
          clear k0 k1 k2 ho hb HCP BU hbn
          generalize (U1.alloc (.cells #[.int .i64 1152921504606846976, .int .i64 6, .slice A1 4096 c1] 27)) = V1a at *
          obtain ⟨L7, hL7⟩ : ∃ r, r = s5.log ++ [(⟨1, ⟨#[]⟩⟩ : En)] := ⟨_, rfl⟩
          have HN := Below.new V1a (.cells #[.int .i64 1, .string ⟨#[]⟩] 29)
          obtain ⟨A7, c7, V1b, h1, h2, h3, h4⟩ := append_own_en (V1a.alloc (.cells #[.int .i64 1, .string ⟨#[]⟩] 29)) w5.heap.size A1 c1 s5.log (OW1.out.bel HN) (by have := HN.size; have := HVS1.out; have := KB1.out.lt; omega) (some ⟨V1a.heap.size, 0, none⟩) 1 1 [(⟨1, ⟨#[]⟩⟩ : En)] (own_en1 V1a ⟨1, ⟨#[]⟩⟩ 1 rfl).lg (by have := HCAP.out.len; simp only [List.length_singleton]; omega) 25 L7 hL7
          have hl7 : L7.length = 4097 := by rw [hL7, List.length_append, HFU.out.len]; rfl
          rw [HFU.out.len, hl7] at h1
          have HR := Lib.hid h1
          have O7 : Hid (Lg V1b A7 4097 c7 L7) := Lib.hid (by have := h2.lg; rwa [hl7] at this)
          have HN7 := Lib.hid hl7
          have P1 : Hid (Blk V1b b1 27 [.int .i64 1152921504606846976, .int .i64 6, .slice A1 4096 c1]) := Lib.hid ((KB1.out.bel HN).turns h4 (fun e => e.ne (KB1.out.bel HN) (by decide) rfl))
          have HB1 : Hid (Below w5.heap.size w5 V1b) := Lib.hid ((HBB1.out.trans (HN.mono HBB1.out.size)).trans h3)
          have k2 : V1a.cell? ⟨b1, 2, none⟩ = some (.slice A1 4096 c1) := KB1.out.cell 2
          have p2 : V1b.cell? ⟨b1, 2, none⟩ = some (.slice A1 4096 c1) := P1.out.cell 2
          have z2 := P1.out.fz 2
          clear h1 h2 h3 h4 HN hL7 hl7
          go_upto_region 14 with (at_builtin; refine wpl_append_run rfl _ _ 25 rfl _ _ rfl rfl _ _ HR.out ?_)
          have KM : Hid (Blk (V1b.setCell ⟨b1, 2, none⟩ (.slice A7 4097 c7)) b1 27 [.int .i64 1152921504606846976, .int .i64 6, .slice A7 4097 c7]) := Lib.hid (P1.out.set 2 _)
          have TS : Turns (fun i => i = b1) V1b (V1b.setCell ⟨b1, 2, none⟩ (.slice A7 4097 c7)) := Turns.of_set (S := fun i => i = b1) V1b ⟨b1, 2, none⟩ _ rfl
          have HT1 : Hid (Below w5.heap.size w5 (V1b.setCell ⟨b1, 2, none⟩ (.slice A7 4097 c7))) := Lib.hid (HB1.out.setCell (p := ⟨b1, 2, none⟩) HVS1.out _)
          clear k2 p2 z2
          generalize (V1b.setCell ⟨b1, 2, none⟩ (.slice A7 4097 c7)) = V1 at *
          have LM := Lib.hid (O7.out.keep TS (fun q cs hq _ e => IsEn.ne ⟨cs, hq⟩ P1.out (by decide) e))
          clear TS HR
          have KV1 := Lib.hid (KV0.out.bel HT1.out)
          have LV1 := Lib.hid (LV0.out.bel HT1.out)
          have BV1 := Lib.hid (BV0.out.trans (HT1.out.mono hs0.out))
          have hs1 := Lib.hid (Nat.le_trans hs0.out HT1.out.size)
          have HCP := copy_any V1 (some ⟨ge, 0, none⟩) 4096 4096 s5 LV1.out (by have := HCAP.out.len; omega)
          unfold SavedY svV at HCP
          rw [HFU.out.term, HFU.out.vote, HFU.out.len] at HCP
          have HCP := Lib.hid HCP
          have k0 : V1.cell? ⟨ge + 1, 0, none⟩ = some (.int .i64 1152921504606846976) := KV1.out.cell 0
          have k1 : V1.cell? ⟨ge + 1, 1, none⟩ = some (.int .i64 6) := KV1.out.cell 1
          have k2 : V1.cell? ⟨ge + 1, 2, none⟩ = some (.slice (some ⟨ge, 0, none⟩) 4096 4096) := KV1.out.cell 2
          go_wp2_with fail
          refine HCP.out.mono ?_
          rintro e U2 ⟨A2, c2, rfl, ho, hb⟩
          have BU := Lib.hid (Below.new U2 (.cells #[.int .i64 1152921504606846976, .int .i64 6, .slice A2 4096 c2] 27))
          have KB2 := Lib.hid (Blk.new U2 27 [.int .i64 1152921504606846976, .int .i64 6, .slice A2 4096 c2])
          have HBB2 := Lib.hid (below_trans' hb BU.out)
          have OW2 := Lib.hid (ho.bel BU.out)
          have HVS2 := Lib.hid (show V1.heap.size ≤ U2.heap.size from hb.size)
          go_upto_region 15 with (fail)
          obtain ⟨b2, hbn⟩ : ∃ b, U2.heap.size = b := ⟨_, rfl⟩
          rw [hbn] at KB2 HVS2 ⊢
          clear k0 k1 k2 ho hb HCP BU hbn
          generalize (U2.alloc (.cells #[.int .i64 1152921504606846976, .int .i64 6, .slice A2 4096 c2] 27)) = V2a at *
          have hl2 : 7 < s5.log.length := by have := HFU.out.len; omega
          obtain ⟨q2, o2, e2⟩ := OW2.out.lg.ens.some_at (by omega)
          have e3 := (OW2.out.rowE q2 (by rw [e2]; rfl)).1
          subst e3
          obtain ⟨g', o', cs, e4, hb, _, c1⟩ := OW2.out.lg.ens 7 hl2
          injection e4 with e4
          injection e4 with e5 e6
          subst e5 e6
          rw [H7.out.2] at c1
          have c1' : V2a.cell? ⟨q2, 15, none⟩ = some (.string T) := c1
          have hBE : Blk V2a q2 29 cs.toList := by unfold Blk; rw [hb]
          have z1 := hBE.fz 15
          have k2 : V2a.cell? ⟨b2, 2, none⟩ = some (.slice (some ⟨q2, 0, none⟩) 4096 c2) := KB2.out.cell 2
          have hc2 : (4096 : Int) ≤ (c2 : Int) := by have := OW2.out.lg.cap.1; have := HFU.out.len; omega
          have LG2 := Lib.hid OW2.out.lg
          have hge2 := Lib.hid (OW2.out.ge q2 rfl)
          have hqb : q2 ≠ b2 := fun e => by rw [e] at hBE; have := hBE.symm.trans KB2.out; simp at this
          have hTs : ¬ 9223372036854775807 < T.size + 1 := by have := HTS.out; omega
          clear hb c1 e2
          go_upto_region 15 with (fail)
          go_region
          clear hTs
          obtain ⟨T2, hT2⟩ : ∃ T2 : ByteArray, T ++ ⟨#[120]⟩ = T2 := ⟨_, rfl⟩
          rw [hT2]
          have HT2S : Hid (65536 < T2.size) := Lib.hid (by rw [← hT2, ByteArray.size_append, HTS.out]; decide)
          have LD : Hid (Lg (V2a.setCell ⟨q2, 15, none⟩ (.string T2)).drew (some ⟨q2, 0, none⟩) s5.log.length c2 (s5.log.set 7 ⟨8, T2⟩)) := Lib.hid ((lg_put LG2.out 7 hl2 ⟨8, T2⟩ 15 (.string T2) (.inr ⟨by omega, rfl, H7.out.1.symm⟩)).bel (below_drewN' (Below.refl _ _) 1))
          have KD : Hid (Blk (V2a.setCell ⟨q2, 15, none⟩ (.string T2)).drew b2 27 [.int .i64 1152921504606846976, .int .i64 6, .slice (some ⟨q2, 0, none⟩) 4096 c2]) := Lib.hid (KB2.out.far (p := ⟨q2, 15, none⟩) hqb.symm _).drew
          have HT2 : Hid (Below V1.heap.size V1 (V2a.setCell ⟨q2, 15, none⟩ (.string T2)).drew) := Lib.hid (below_drewN' (HBB2.out.setCell (p := ⟨q2, 15, none⟩) hge2.out _) 1)
          clear k2 c1' z1 hBE hT2 hqb
          generalize (V2a.setCell ⟨q2, 15, none⟩ (.string T2)).drew = V2 at *
          have KV2 := Lib.hid (KV1.out.bel HT2.out)
          have LV2 := Lib.hid (LV1.out.bel HT2.out)
          have BV2 := Lib.hid (BV1.out.trans (HT2.out.mono hs1.out))
          have hs2 := Lib.hid (Nat.le_trans hs1.out HT2.out.size)
          have KM := Lib.hid (KM.out.bel HT2.out)
          have LM := Lib.hid (LM.out.bel HT2.out)
          have HCP := copy_any V2 (some ⟨ge, 0, none⟩) 4096 4096 s5 LV2.out (by have := HCAP.out.len; omega)
          unfold SavedY svV at HCP
          rw [HFU.out.term, HFU.out.vote, HFU.out.len] at HCP
          have HCP := Lib.hid HCP
          have k0 : V2.cell? ⟨ge + 1, 0, none⟩ = some (.int .i64 1152921504606846976) := KV2.out.cell 0
          have k1 : V2.cell? ⟨ge + 1, 1, none⟩ = some (.int .i64 6) := KV2.out.cell 1
          have k2 : V2.cell? ⟨ge + 1, 2, none⟩ = some (.slice (some ⟨ge, 0, none⟩) 4096 4096) := KV2.out.cell 2
          go_wp2_with fail
          refine HCP.out.mono ?_
          rintro e U3 ⟨A3, c3, rfl, ho, hb⟩
          have BU := Lib.hid (Below.new U3 (.cells #[.int .i64 1152921504606846976, .int .i64 6, .slice A3 4096 c3] 27))
          have KB3 := Lib.hid (Blk.new U3 27 [.int .i64 1152921504606846976, .int .i64 6, .slice A3 4096 c3])
          have HBB3 := Lib.hid (below_trans' hb BU.out)
          have OW3 := Lib.hid (ho.bel BU.out)
          have HVS3 := Lib.hid (show V2.heap.size ≤ U3.heap.size from hb.size)
          go_upto_region 17 with (fail)
          obtain ⟨b3, hbn⟩ : ∃ b, U3.heap.size = b := ⟨_, rfl⟩
          rw [hbn] at KB3 HVS3 ⊢
          clear k0 k1 k2 ho hb HCP BU hbn
          generalize (U3.alloc (.cells #[.int .i64 1152921504606846976, .int .i64 6, .slice A3 4096 c3] 27)) = V3a at *
          have k0 : V3a.cell? ⟨b3, 0, none⟩ = some (.int .i64 1152921504606846976) := KB3.out.cell 0
          have z0 := KB3.out.fz 0
          go_upto_region 18 with (fail)
          have KH : Hid (Blk (V3a.setCell ⟨b3, 0, none⟩ (.int .i64 1152921504606846977)) b3 27 [.int .i64 1152921504606846977, .int .i64 6, .slice A3 4096 c3]) := Lib.hid (KB3.out.set 0 _)
          have LH : Hid (Lg (V3a.setCell ⟨b3, 0, none⟩ (.int .i64 1152921504606846977)) A3 s5.log.length c3 s5.log) := Lib.hid (OW3.out.lg.keep (Turns.of_set (S := fun i => i = b3) V3a ⟨b3, 0, none⟩ _ rfl) (fun q cs hq _ e => IsEn.ne ⟨cs, hq⟩ KB3.out (by decide) e))
          have HT3 : Hid (Below V2.heap.size V2 (V3a.setCell ⟨b3, 0, none⟩ (.int .i64 1152921504606846977))) := Lib.hid (HBB3.out.setCell (p := ⟨b3, 0, none⟩) HVS3.out _)
          clear k0 z0
          generalize (V3a.setCell ⟨b3, 0, none⟩ (.int .i64 1152921504606846977)) = V3 at *
          have KV3 := Lib.hid (KV2.out.bel HT3.out)
          have LV3 := Lib.hid (LV2.out.bel HT3.out)
          have BV3 := Lib.hid (BV2.out.trans (HT3.out.mono hs2.out))
          have hs3 := Lib.hid (Nat.le_trans hs2.out HT3.out.size)
          have KM := Lib.hid (KM.out.bel HT3.out)
          have LM := Lib.hid (LM.out.bel HT3.out)
          have KD := Lib.hid (KD.out.bel HT3.out)
          have LD := Lib.hid (LD.out.bel HT3.out)
          have HCP := copy_any V3 (some ⟨ge, 0, none⟩) 4096 4096 s5 LV3.out (by have := HCAP.out.len; omega)
          unfold SavedY svV at HCP
          rw [HFU.out.term, HFU.out.vote, HFU.out.len] at HCP
          have HCP := Lib.hid HCP
          have k0 : V3.cell? ⟨ge + 1, 0, none⟩ = some (.int .i64 1152921504606846976) := KV3.out.cell 0
          have k1 : V3.cell? ⟨ge + 1, 1, none⟩ = some (.int .i64 6) := KV3.out.cell 1
          have k2 : V3.cell? ⟨ge + 1, 2, none⟩ = some (.slice (some ⟨ge, 0, none⟩) 4096 4096) := KV3.out.cell 2
          go_wp2_with fail
          refine HCP.out.mono ?_
          rintro e U4 ⟨A4, c4, rfl, ho, hb⟩
          have BU := Lib.hid (Below.new U4 (.cells #[.int .i64 1152921504606846976, .int .i64 6, .slice A4 4096 c4] 27))
          have KB4 := Lib.hid (Blk.new U4 27 [.int .i64 1152921504606846976, .int .i64 6, .slice A4 4096 c4])
          have HBB4 := Lib.hid (below_trans' hb BU.out)
          have OW4 := Lib.hid (ho.bel BU.out)
          have HVS4 := Lib.hid (show V3.heap.size ≤ U4.heap.size from hb.size)
          go_upto_region 19 with (fail)
          obtain ⟨b4, hbn⟩ : ∃ b, U4.heap.size = b := ⟨_, rfl⟩
          rw [hbn] at KB4 HVS4 ⊢
          clear k0 k1 k2 ho hb HCP BU hbn
          generalize (U4.alloc (.cells #[.int .i64 1152921504606846976, .int .i64 6, .slice A4 4096 c4] 27)) = V4a at *
          have k1 : V4a.cell? ⟨b4, 1, none⟩ = some (.int .i64 6) := KB4.out.cell 1
          have z1 := KB4.out.fz 1
          go_upto_region 20 with (fail)
          have KO : Hid (Blk (V4a.setCell ⟨b4, 1, none⟩ (.int .i64 7)) b4 27 [.int .i64 1152921504606846976, .int .i64 7, .slice A4 4096 c4]) := Lib.hid (KB4.out.set 1 _)
          have LO : Hid (Lg (V4a.setCell ⟨b4, 1, none⟩ (.int .i64 7)) A4 s5.log.length c4 s5.log) := Lib.hid (OW4.out.lg.keep (Turns.of_set (S := fun i => i = b4) V4a ⟨b4, 1, none⟩ _ rfl) (fun q cs hq _ e => IsEn.ne ⟨cs, hq⟩ KB4.out (by decide) e))
          have HT4 : Hid (Below V3.heap.size V3 (V4a.setCell ⟨b4, 1, none⟩ (.int .i64 7))) := Lib.hid (HBB4.out.setCell (p := ⟨b4, 1, none⟩) HVS4.out _)
          clear k1 z1
          generalize (V4a.setCell ⟨b4, 1, none⟩ (.int .i64 7)) = V4 at *
          have KV4 := Lib.hid (KV3.out.bel HT4.out)
          have LV4 := Lib.hid (LV3.out.bel HT4.out)
          have BV4 := Lib.hid (BV3.out.trans (HT4.out.mono hs3.out))
          have hs4 := Lib.hid (Nat.le_trans hs3.out HT4.out.size)
          have KM := Lib.hid (KM.out.bel HT4.out)
          have LM := Lib.hid (LM.out.bel HT4.out)
          have KD := Lib.hid (KD.out.bel HT4.out)
          have LD := Lib.hid (LD.out.bel HT4.out)
          have KH := Lib.hid (KH.out.bel HT4.out)
          have LH := Lib.hid (LH.out.bel HT4.out)
          have AV : Hid (AX V4 H x d F (N + 5 + 5) dk5 s5 wl5) := Lib.hid (A5.out.bel (by rw [HM.out]; exact BV4.out))
          obtain ⟨_, _, _, _, _, hbx, _⟩ := AV.out.blk
          obtain ⟨_, _, _, hbw, _, _⟩ := AV.out.wal
          have XV := Lib.hid hbx
          have WV := Lib.hid hbw
          clear hbx hbw
          have HAWK : Hid (∀ W, Below V4.heap.size V4 W → Calls Tryz.prog 11 #[] W fun e w' => e = .returned (.bool true) ∧ Below W.heap.size W w') := Lib.hid (fun W _ => awake_any W)
          have HL5 := HFU.out.len
          rw [HL5] at LH LO LD
          have HB1 : Hid (∀ W2, Below V4.heap.size V4 W2 → Calls Tryz.prog 12 #[.pointer (some ⟨wl5, 0, none⟩), .agg #[.int .i64 1152921504606846976, .int .i64 6, .slice A7 4097 c7]] W2 fun e w' => e = .returned (.int .i64 3) ∧ Below W2.heap.size W2 w') := Lib.hid (fun W2 h2 => by
            have h := keep_bad W2 wl5 d _ (WV.out.bel h2) A7 4097 c7 ⟨1152921504606846976, 6, L7⟩ (LM.out.bel h2) (more_bad HN7.out)
            unfold svV at h
            exact h)
          have HB2 : Hid (∀ W2, Below V4.heap.size V4 W2 → Calls Tryz.prog 12 #[.pointer (some ⟨wl5, 0, none⟩), .agg #[.int .i64 1152921504606846976, .int .i64 6, .slice (some ⟨q2, 0, none⟩) 4096 c2]] W2 fun e w' => e = .returned (.int .i64 3) ∧ Below W2.heap.size W2 w') := Lib.hid (fun W2 h2 => by
            have h := keep_bad W2 wl5 d _ (WV.out.bel h2) (some ⟨q2, 0, none⟩) 4096 c2 ⟨1152921504606846976, 6, s5.log.set 7 ⟨8, T2⟩⟩ (LD.out.bel h2) (deep_bad 7 (by simp only; rw [List.length_set]; omega) (by simp only; rw [List.getElem_set_self]; exact HT2S.out))
            unfold svV at h
            exact h)
          have HB3 : Hid (∀ W2, Below V4.heap.size V4 W2 → Calls Tryz.prog 12 #[.pointer (some ⟨wl5, 0, none⟩), .agg #[.int .i64 1152921504606846977, .int .i64 6, .slice A3 4096 c3]] W2 fun e w' => e = .returned (.int .i64 3) ∧ Below W2.heap.size W2 w') := Lib.hid (fun W2 h2 => by
            have h := keep_bad W2 wl5 d _ (WV.out.bel h2) A3 4096 c3 ⟨1152921504606846977, 6, s5.log⟩ (LH.out.bel h2) (high_bad (by simp only; omega))
            unfold svV at h
            exact h)
          have HB4 : Hid (∀ W2, Below V4.heap.size V4 W2 → Calls Tryz.prog 12 #[.pointer (some ⟨wl5, 0, none⟩), .agg #[.int .i64 1152921504606846976, .int .i64 7, .slice A4 4096 c4]] W2 fun e w' => e = .returned (.int .i64 3) ∧ Below W2.heap.size W2 w') := Lib.hid (fun W2 h2 => by
            have h := keep_bad W2 wl5 d _ (WV.out.bel h2) A4 4096 c4 ⟨1152921504606846976, 7, s5.log⟩ (LO.out.bel h2) (voted_bad (by simp only; omega))
            unfold svV at h
            exact h)
          have HOX : Hid (∀ W, Below V4.heap.size V4 W → Calls Tryz.prog 9 #[.pointer (some ⟨x, 0, none⟩)] W fun e w' => e = .returned (.bool true) ∧ Turns (XSet x d F) W w') := Lib.hid (fun W hW => (open_x W H x d F (N + 5 + 5) dk5 s5 none (AV.out.bel hW).rx (by omega) (by have := hW.size; have := XV.out.lt; have := HLO.out; omega)).mono (fun e w' h => ⟨h.1, h.2.1⟩))
          have HFR : Hid (∀ q, ge ≤ q → ¬ XSet x d F q) := Lib.hid (fun q hq e => by have := HLT.out; unfold XSet at e; omega)
          have HBN : Hid (ge ≤ b1 ∧ ge ≤ b2 ∧ ge ≤ b3 ∧ ge ≤ b4) := Lib.hid (by
            have h0 := HMG.out
            have h1 := HM.out
            have h2 := HVS1.out
            have h3 := HVS2.out
            have h4 := HVS3.out
            have h5 := HVS4.out
            have h6 := hs1.out
            have h7 := hs2.out
            have h8 := hs3.out
            omega)
          have HKS : Hid (∀ V, Turns (XSet x d F) V4 V → V.cell? ⟨b1, 0, none⟩ = some (.int .i64 1152921504606846976) ∧ V.cell? ⟨b1, 1, none⟩ = some (.int .i64 6) ∧ V.cell? ⟨b1, 2, none⟩ = some (.slice A7 4097 c7) ∧ V.cell? ⟨b2, 0, none⟩ = some (.int .i64 1152921504606846976) ∧ V.cell? ⟨b2, 1, none⟩ = some (.int .i64 6) ∧ V.cell? ⟨b2, 2, none⟩ = some (.slice (some ⟨q2, 0, none⟩) 4096 c2) ∧ V.cell? ⟨b3, 0, none⟩ = some (.int .i64 1152921504606846977) ∧ V.cell? ⟨b3, 1, none⟩ = some (.int .i64 6) ∧ V.cell? ⟨b3, 2, none⟩ = some (.slice A3 4096 c3) ∧ V.cell? ⟨b4, 0, none⟩ = some (.int .i64 1152921504606846976) ∧ V.cell? ⟨b4, 1, none⟩ = some (.int .i64 7) ∧ V.cell? ⟨b4, 2, none⟩ = some (.slice A4 4096 c4)) := Lib.hid (fun V hV => by
            have m1 := KM.out.turns hV (HFR.out _ HBN.out.1)
            have m2 := KD.out.turns hV (HFR.out _ HBN.out.2.1)
            have m3 := KH.out.turns hV (HFR.out _ HBN.out.2.2.1)
            have m4 := KO.out.turns hV (HFR.out _ HBN.out.2.2.2)
            exact ⟨m1.cell 0, m1.cell 1, m1.cell 2, m2.cell 0, m2.cell 1, m2.cell 2, m3.cell 0, m3.cell 1, m3.cell 2, m4.cell 0, m4.cell 1, m4.cell 2⟩)
          have HKB : Hid (∀ V, Below V4.heap.size V4 V → V.cell? ⟨b1, 0, none⟩ = some (.int .i64 1152921504606846976) ∧ V.cell? ⟨b1, 1, none⟩ = some (.int .i64 6) ∧ V.cell? ⟨b1, 2, none⟩ = some (.slice A7 4097 c7) ∧ V.cell? ⟨b2, 0, none⟩ = some (.int .i64 1152921504606846976) ∧ V.cell? ⟨b2, 1, none⟩ = some (.int .i64 6) ∧ V.cell? ⟨b2, 2, none⟩ = some (.slice (some ⟨q2, 0, none⟩) 4096 c2) ∧ V.cell? ⟨b3, 0, none⟩ = some (.int .i64 1152921504606846977) ∧ V.cell? ⟨b3, 1, none⟩ = some (.int .i64 6) ∧ V.cell? ⟨b3, 2, none⟩ = some (.slice A3 4096 c3) ∧ V.cell? ⟨b4, 0, none⟩ = some (.int .i64 1152921504606846976) ∧ V.cell? ⟨b4, 1, none⟩ = some (.int .i64 7) ∧ V.cell? ⟨b4, 2, none⟩ = some (.slice A4 4096 c4)) := Lib.hid (fun V hV => HKS.out V (.of_below hV))
          have HD1 := Lib.hid (below_drewN' (Below.refl V4.heap.size V4) 1)
          refine wp_region_held_drew (S := fun V => V.cell? ⟨b1, 0, none⟩ = some (.int .i64 1152921504606846976) ∧ V.cell? ⟨b1, 1, none⟩ = some (.int .i64 6) ∧ V.cell? ⟨b1, 2, none⟩ = some (.slice A7 4097 c7) ∧ V.cell? ⟨b2, 0, none⟩ = some (.int .i64 1152921504606846976) ∧ V.cell? ⟨b2, 1, none⟩ = some (.int .i64 6) ∧ V.cell? ⟨b2, 2, none⟩ = some (.slice (some ⟨q2, 0, none⟩) 4096 c2) ∧ V.cell? ⟨b3, 0, none⟩ = some (.int .i64 1152921504606846977) ∧ V.cell? ⟨b3, 1, none⟩ = some (.int .i64 6) ∧ V.cell? ⟨b3, 2, none⟩ = some (.slice A3 4096 c3) ∧ V.cell? ⟨b4, 0, none⟩ = some (.int .i64 1152921504606846976) ∧ V.cell? ⟨b4, 1, none⟩ = some (.int .i64 7) ∧ V.cell? ⟨b4, 2, none⟩ = some (.slice A4 4096 c4)) (by kernel_rfl) (HKB.out _ HD1.out) (fun hHeld => ?_)
          refine wpAnyH_ready (rs := [0]) (by kernel_rfl) (by simp) ?_
          refine AllReadyH.cons (o := _) rfl (fun K hK => ?_) AllReadyH.nil
          go_simp
          go_at_call 11
          refine (HAWK.out _ HD1.out).mono ?_
          rintro e wa ⟨rfl, hba⟩
          have BA := Lib.hid (below_trans' HD1.out hba)
          have hxa : wa.cell? ⟨x, 1, none⟩ = some (.pointer (some ⟨wl5, 0, none⟩)) := (XV.out.bel BA.out).cell 1
          clear hba
          refine hK.out _ _ (HKB.out _ BA.out) (fun hHeld => ?_)
          clear hK K
          try simp only [Act.put, List.getElem_toArray, List.getElem_cons_succ, List.getElem_cons_zero, List.setIfInBounds_toArray, List.set_cons_zero, List.set_cons_succ]
          refine wpAnyH_take (i := 1) (oi := _) (v := ?v1) rfl (by kernel_rfl) (by kernel_rfl) (by kernel_rfl) (fun _ _ _ h => h) (Or.inl ⟨by rfl, ?hy1⟩) (by assumption) ?rest1
          case hy1 =>
            intro w hSw
            try dsimp only at hSw
            go_simp
            try with_reducible rfl
          try simp only [Act.put, List.getElem_toArray, List.getElem_cons_succ, List.getElem_cons_zero, List.setIfInBounds_toArray, List.set_cons_zero, List.set_cons_succ]
          refine wpAnyH_take (i := 2) (oi := _) (v := ?v2) rfl (by kernel_rfl) (by kernel_rfl) (by kernel_rfl) (fun _ _ _ h => h) (Or.inl ⟨by rfl, ?hy2⟩) (by assumption) ?rest2
          case hy2 =>
            intro w hSw
            try dsimp only at hSw
            go_simp
            try with_reducible rfl
          try simp only [Act.put, List.getElem_toArray, List.getElem_cons_succ, List.getElem_cons_zero, List.setIfInBounds_toArray, List.set_cons_zero, List.set_cons_succ]
          refine wpAnyH_take (i := 3) (oi := _) (v := ?v3) rfl (by kernel_rfl) (by kernel_rfl) (by kernel_rfl) (fun _ _ _ h => h) (Or.inl ⟨by rfl, ?hy3⟩) (by assumption) ?rest3
          case hy3 =>
            intro w hSw
            try dsimp only at hSw
            go_simp
            try with_reducible rfl
          try simp only [Act.put, List.getElem_toArray, List.getElem_cons_succ, List.getElem_cons_zero, List.setIfInBounds_toArray, List.set_cons_zero, List.set_cons_succ]
          refine wpAnyH_take (i := 4) (oi := _) (v := ?v4) rfl (by kernel_rfl) (by kernel_rfl) (by kernel_rfl) (fun _ _ _ h => h) (Or.inl ⟨by rfl, ?hy4⟩) (by assumption) ?rest4
          case hy4 =>
            intro w hSw
            try dsimp only at hSw
            go_simp
            try with_reducible rfl
          try simp only [Act.put, List.getElem_toArray, List.getElem_cons_succ, List.getElem_cons_zero, List.setIfInBounds_toArray, List.set_cons_zero, List.set_cons_succ]
          refine wpAnyH_take (i := 6) (oi := _) (v := ?v6) rfl (by kernel_rfl) (by kernel_rfl) (by kernel_rfl) (fun _ _ _ h => h) (Or.inl ⟨by rfl, ?hy6⟩) (by assumption) ?rest6
          case hy6 =>
            intro w hSw
            try dsimp only at hSw
            go_simp
            try with_reducible rfl
          try simp only [Act.put, List.getElem_toArray, List.getElem_cons_succ, List.getElem_cons_zero, List.setIfInBounds_toArray, List.set_cons_zero, List.set_cons_succ]
          refine wpAnyH_ready (rs := [5]) (by kernel_rfl) (by simp) ?_
          refine AllReadyH.cons (o := _) rfl (fun K hK => ?_) AllReadyH.nil
          go_simp
          refine hK.out _ _ (by assumption) (fun hHeld => ?_)
          clear hK K
          try simp only [Act.put, List.getElem_toArray, List.getElem_cons_succ, List.getElem_cons_zero, List.setIfInBounds_toArray, List.set_cons_zero, List.set_cons_succ]
          refine wpAnyH_ready (rs := [7]) (by kernel_rfl) (by simp) ?_
          refine AllReadyH.cons (o := _) rfl (fun K hK => ?_) AllReadyH.nil
          go_simp
          go_at_call 12
          refine (HB1.out _ BA.out).mono ?_
          rintro e y1 ⟨rfl, hb⟩
          have BK1 := Lib.hid (below_trans' BA.out hb)
          have hxk1 : y1.cell? ⟨x, 1, none⟩ = some (.pointer (some ⟨wl5, 0, none⟩)) := (XV.out.bel BK1.out).cell 1
          clear hb
          refine hK.out _ _ (HKB.out _ BK1.out) (fun hHeld => ?_)
          clear hK K
          try simp only [Act.put, List.getElem_toArray, List.getElem_cons_succ, List.getElem_cons_zero, List.setIfInBounds_toArray, List.set_cons_zero, List.set_cons_succ]
          refine wpAnyH_take (i := 8) (oi := _) (v := ?v8) rfl (by kernel_rfl) (by kernel_rfl) (by kernel_rfl) (fun _ _ _ h => h) (Or.inl ⟨by rfl, ?hy8⟩) (by assumption) ?rest8
          case hy8 =>
            intro w hSw
            try dsimp only at hSw
            go_simp
            try with_reducible rfl
          try simp only [Act.put, List.getElem_toArray, List.getElem_cons_succ, List.getElem_cons_zero, List.setIfInBounds_toArray, List.set_cons_zero, List.set_cons_succ]
          refine wpAnyH_take (i := 9) (oi := _) (v := ?v9) rfl (by kernel_rfl) (by kernel_rfl) (by kernel_rfl) (fun _ _ _ h => h) (Or.inl ⟨by rfl, ?hy9⟩) (by assumption) ?rest9
          case hy9 =>
            intro w hSw
            try dsimp only at hSw
            go_simp
            try with_reducible rfl
          try simp only [Act.put, List.getElem_toArray, List.getElem_cons_succ, List.getElem_cons_zero, List.setIfInBounds_toArray, List.set_cons_zero, List.set_cons_succ]
          refine wpAnyH_take (i := 10) (oi := _) (v := ?v10) rfl (by kernel_rfl) (by kernel_rfl) (by kernel_rfl) (fun _ _ _ h => h) (Or.inl ⟨by rfl, ?hy10⟩) (by assumption) ?rest10
          case hy10 =>
            intro w hSw
            try dsimp only at hSw
            go_simp
            try with_reducible rfl
          try simp only [Act.put, List.getElem_toArray, List.getElem_cons_succ, List.getElem_cons_zero, List.setIfInBounds_toArray, List.set_cons_zero, List.set_cons_succ]
          refine wpAnyH_take (i := 11) (oi := _) (v := ?v11) rfl (by kernel_rfl) (by kernel_rfl) (by kernel_rfl) (fun _ _ _ h => h) (Or.inl ⟨by rfl, ?hy11⟩) (by assumption) ?rest11
          case hy11 =>
            intro w hSw
            try dsimp only at hSw
            go_simp
            try with_reducible rfl
          try simp only [Act.put, List.getElem_toArray, List.getElem_cons_succ, List.getElem_cons_zero, List.setIfInBounds_toArray, List.set_cons_zero, List.set_cons_succ]
          refine wpAnyH_take (i := 12) (oi := _) (v := ?v12) rfl (by kernel_rfl) (by kernel_rfl) (by kernel_rfl) (fun _ _ _ h => h) (Or.inl ⟨by rfl, ?hy12⟩) (by assumption) ?rest12
          case hy12 =>
            intro w hSw
            try dsimp only at hSw
            go_simp
            try with_reducible rfl
          try simp only [Act.put, List.getElem_toArray, List.getElem_cons_succ, List.getElem_cons_zero, List.setIfInBounds_toArray, List.set_cons_zero, List.set_cons_succ]
          refine wpAnyH_take (i := 13) (oi := _) (v := ?v13) rfl (by kernel_rfl) (by kernel_rfl) (by kernel_rfl) (fun _ _ _ h => h) (Or.inl ⟨by rfl, ?hy13⟩) (by assumption) ?rest13
          case hy13 =>
            intro w hSw
            try dsimp only at hSw
            go_simp
            try with_reducible rfl
          try simp only [Act.put, List.getElem_toArray, List.getElem_cons_succ, List.getElem_cons_zero, List.setIfInBounds_toArray, List.set_cons_zero, List.set_cons_succ]
          refine wpAnyH_take (i := 15) (oi := _) (v := ?v15) rfl (by kernel_rfl) (by kernel_rfl) (by kernel_rfl) (fun _ _ _ h => h) (Or.inl ⟨by rfl, ?hy15⟩) (by assumption) ?rest15
          case hy15 =>
            intro w hSw
            try dsimp only at hSw
            go_simp
            try with_reducible rfl
          try simp only [Act.put, List.getElem_toArray, List.getElem_cons_succ, List.getElem_cons_zero, List.setIfInBounds_toArray, List.set_cons_zero, List.set_cons_succ]
          refine wpAnyH_ready (rs := [14]) (by kernel_rfl) (by simp) ?_
          refine AllReadyH.cons (o := _) rfl (fun K hK => ?_) AllReadyH.nil
          go_simp
          refine hK.out _ _ (by assumption) (fun hHeld => ?_)
          clear hK K
          try simp only [Act.put, List.getElem_toArray, List.getElem_cons_succ, List.getElem_cons_zero, List.setIfInBounds_toArray, List.set_cons_zero, List.set_cons_succ]
          refine wpAnyH_ready (rs := [16]) (by kernel_rfl) (by simp) ?_
          refine AllReadyH.cons (o := _) rfl (fun K hK => ?_) AllReadyH.nil
          go_simp
          go_at_call 12
          refine (HB2.out _ BK1.out).mono ?_
          rintro e y2 ⟨rfl, hb⟩
          have BK2 := Lib.hid (below_trans' BK1.out hb)
          have hxk2 : y2.cell? ⟨x, 1, none⟩ = some (.pointer (some ⟨wl5, 0, none⟩)) := (XV.out.bel BK2.out).cell 1
          clear hb
          refine hK.out _ _ (HKB.out _ BK2.out) (fun hHeld => ?_)
          clear hK K
          try simp only [Act.put, List.getElem_toArray, List.getElem_cons_succ, List.getElem_cons_zero, List.setIfInBounds_toArray, List.set_cons_zero, List.set_cons_succ]
          refine wpAnyH_take (i := 17) (oi := _) (v := ?v17) rfl (by kernel_rfl) (by kernel_rfl) (by kernel_rfl) (fun _ _ _ h => h) (Or.inl ⟨by rfl, ?hy17⟩) (by assumption) ?rest17
          case hy17 =>
            intro w hSw
            try dsimp only at hSw
            go_simp
            try with_reducible rfl
          try simp only [Act.put, List.getElem_toArray, List.getElem_cons_succ, List.getElem_cons_zero, List.setIfInBounds_toArray, List.set_cons_zero, List.set_cons_succ]
          refine wpAnyH_take (i := 18) (oi := _) (v := ?v18) rfl (by kernel_rfl) (by kernel_rfl) (by kernel_rfl) (fun _ _ _ h => h) (Or.inl ⟨by rfl, ?hy18⟩) (by assumption) ?rest18
          case hy18 =>
            intro w hSw
            try dsimp only at hSw
            go_simp
            try with_reducible rfl
          try simp only [Act.put, List.getElem_toArray, List.getElem_cons_succ, List.getElem_cons_zero, List.setIfInBounds_toArray, List.set_cons_zero, List.set_cons_succ]
          refine wpAnyH_take (i := 19) (oi := _) (v := ?v19) rfl (by kernel_rfl) (by kernel_rfl) (by kernel_rfl) (fun _ _ _ h => h) (Or.inl ⟨by rfl, ?hy19⟩) (by assumption) ?rest19
          case hy19 =>
            intro w hSw
            try dsimp only at hSw
            go_simp
            try with_reducible rfl
          try simp only [Act.put, List.getElem_toArray, List.getElem_cons_succ, List.getElem_cons_zero, List.setIfInBounds_toArray, List.set_cons_zero, List.set_cons_succ]
          refine wpAnyH_take (i := 20) (oi := _) (v := ?v20) rfl (by kernel_rfl) (by kernel_rfl) (by kernel_rfl) (fun _ _ _ h => h) (Or.inl ⟨by rfl, ?hy20⟩) (by assumption) ?rest20
          case hy20 =>
            intro w hSw
            try dsimp only at hSw
            go_simp
            try with_reducible rfl
          try simp only [Act.put, List.getElem_toArray, List.getElem_cons_succ, List.getElem_cons_zero, List.setIfInBounds_toArray, List.set_cons_zero, List.set_cons_succ]
          refine wpAnyH_take (i := 21) (oi := _) (v := ?v21) rfl (by kernel_rfl) (by kernel_rfl) (by kernel_rfl) (fun _ _ _ h => h) (Or.inl ⟨by rfl, ?hy21⟩) (by assumption) ?rest21
          case hy21 =>
            intro w hSw
            try dsimp only at hSw
            go_simp
            try with_reducible rfl
          try simp only [Act.put, List.getElem_toArray, List.getElem_cons_succ, List.getElem_cons_zero, List.setIfInBounds_toArray, List.set_cons_zero, List.set_cons_succ]
          refine wpAnyH_take (i := 22) (oi := _) (v := ?v22) rfl (by kernel_rfl) (by kernel_rfl) (by kernel_rfl) (fun _ _ _ h => h) (Or.inl ⟨by rfl, ?hy22⟩) (by assumption) ?rest22
          case hy22 =>
            intro w hSw
            try dsimp only at hSw
            go_simp
            try with_reducible rfl
          try simp only [Act.put, List.getElem_toArray, List.getElem_cons_succ, List.getElem_cons_zero, List.setIfInBounds_toArray, List.set_cons_zero, List.set_cons_succ]
          refine wpAnyH_take (i := 24) (oi := _) (v := ?v24) rfl (by kernel_rfl) (by kernel_rfl) (by kernel_rfl) (fun _ _ _ h => h) (Or.inl ⟨by rfl, ?hy24⟩) (by assumption) ?rest24
          case hy24 =>
            intro w hSw
            try dsimp only at hSw
            go_simp
            try with_reducible rfl
          try simp only [Act.put, List.getElem_toArray, List.getElem_cons_succ, List.getElem_cons_zero, List.setIfInBounds_toArray, List.set_cons_zero, List.set_cons_succ]
          refine wpAnyH_ready (rs := [23]) (by kernel_rfl) (by simp) ?_
          refine AllReadyH.cons (o := _) rfl (fun K hK => ?_) AllReadyH.nil
          go_simp
          refine hK.out _ _ (by assumption) (fun hHeld => ?_)
          clear hK K
          try simp only [Act.put, List.getElem_toArray, List.getElem_cons_succ, List.getElem_cons_zero, List.setIfInBounds_toArray, List.set_cons_zero, List.set_cons_succ]
          refine wpAnyH_ready (rs := [25]) (by kernel_rfl) (by simp) ?_
          refine AllReadyH.cons (o := _) rfl (fun K hK => ?_) AllReadyH.nil
          go_simp
          go_at_call 12
          refine (HB3.out _ BK2.out).mono ?_
          rintro e y3 ⟨rfl, hb⟩
          have BK3 := Lib.hid (below_trans' BK2.out hb)
          have hxk3 : y3.cell? ⟨x, 1, none⟩ = some (.pointer (some ⟨wl5, 0, none⟩)) := (XV.out.bel BK3.out).cell 1
          clear hb
          refine hK.out _ _ (HKB.out _ BK3.out) (fun hHeld => ?_)
          clear hK K
          try simp only [Act.put, List.getElem_toArray, List.getElem_cons_succ, List.getElem_cons_zero, List.setIfInBounds_toArray, List.set_cons_zero, List.set_cons_succ]
          refine wpAnyH_take (i := 26) (oi := _) (v := ?v26) rfl (by kernel_rfl) (by kernel_rfl) (by kernel_rfl) (fun _ _ _ h => h) (Or.inl ⟨by rfl, ?hy26⟩) (by assumption) ?rest26
          case hy26 =>
            intro w hSw
            try dsimp only at hSw
            go_simp
            try with_reducible rfl
          try simp only [Act.put, List.getElem_toArray, List.getElem_cons_succ, List.getElem_cons_zero, List.setIfInBounds_toArray, List.set_cons_zero, List.set_cons_succ]
          refine wpAnyH_take (i := 27) (oi := _) (v := ?v27) rfl (by kernel_rfl) (by kernel_rfl) (by kernel_rfl) (fun _ _ _ h => h) (Or.inl ⟨by rfl, ?hy27⟩) (by assumption) ?rest27
          case hy27 =>
            intro w hSw
            try dsimp only at hSw
            go_simp
            try with_reducible rfl
          try simp only [Act.put, List.getElem_toArray, List.getElem_cons_succ, List.getElem_cons_zero, List.setIfInBounds_toArray, List.set_cons_zero, List.set_cons_succ]
          refine wpAnyH_take (i := 28) (oi := _) (v := ?v28) rfl (by kernel_rfl) (by kernel_rfl) (by kernel_rfl) (fun _ _ _ h => h) (Or.inl ⟨by rfl, ?hy28⟩) (by assumption) ?rest28
          case hy28 =>
            intro w hSw
            try dsimp only at hSw
            go_simp
            try with_reducible rfl
          try simp only [Act.put, List.getElem_toArray, List.getElem_cons_succ, List.getElem_cons_zero, List.setIfInBounds_toArray, List.set_cons_zero, List.set_cons_succ]
          refine wpAnyH_take (i := 29) (oi := _) (v := ?v29) rfl (by kernel_rfl) (by kernel_rfl) (by kernel_rfl) (fun _ _ _ h => h) (Or.inl ⟨by rfl, ?hy29⟩) (by assumption) ?rest29
          case hy29 =>
            intro w hSw
            try dsimp only at hSw
            go_simp
            try with_reducible rfl
          try simp only [Act.put, List.getElem_toArray, List.getElem_cons_succ, List.getElem_cons_zero, List.setIfInBounds_toArray, List.set_cons_zero, List.set_cons_succ]
          refine wpAnyH_take (i := 30) (oi := _) (v := ?v30) rfl (by kernel_rfl) (by kernel_rfl) (by kernel_rfl) (fun _ _ _ h => h) (Or.inl ⟨by rfl, ?hy30⟩) (by assumption) ?rest30
          case hy30 =>
            intro w hSw
            try dsimp only at hSw
            go_simp
            try with_reducible rfl
          try simp only [Act.put, List.getElem_toArray, List.getElem_cons_succ, List.getElem_cons_zero, List.setIfInBounds_toArray, List.set_cons_zero, List.set_cons_succ]
          refine wpAnyH_take (i := 31) (oi := _) (v := ?v31) rfl (by kernel_rfl) (by kernel_rfl) (by kernel_rfl) (fun _ _ _ h => h) (Or.inl ⟨by rfl, ?hy31⟩) (by assumption) ?rest31
          case hy31 =>
            intro w hSw
            try dsimp only at hSw
            go_simp
            try with_reducible rfl
          try simp only [Act.put, List.getElem_toArray, List.getElem_cons_succ, List.getElem_cons_zero, List.setIfInBounds_toArray, List.set_cons_zero, List.set_cons_succ]
          refine wpAnyH_take (i := 33) (oi := _) (v := ?v33) rfl (by kernel_rfl) (by kernel_rfl) (by kernel_rfl) (fun _ _ _ h => h) (Or.inl ⟨by rfl, ?hy33⟩) (by assumption) ?rest33
          case hy33 =>
            intro w hSw
            try dsimp only at hSw
            go_simp
            try with_reducible rfl
          try simp only [Act.put, List.getElem_toArray, List.getElem_cons_succ, List.getElem_cons_zero, List.setIfInBounds_toArray, List.set_cons_zero, List.set_cons_succ]
          refine wpAnyH_ready (rs := [32]) (by kernel_rfl) (by simp) ?_
          refine AllReadyH.cons (o := _) rfl (fun K hK => ?_) AllReadyH.nil
          go_simp
          refine hK.out _ _ (by assumption) (fun hHeld => ?_)
          clear hK K
          try simp only [Act.put, List.getElem_toArray, List.getElem_cons_succ, List.getElem_cons_zero, List.setIfInBounds_toArray, List.set_cons_zero, List.set_cons_succ]
          refine wpAnyH_ready (rs := [34]) (by kernel_rfl) (by simp) ?_
          refine AllReadyH.cons (o := _) rfl (fun K hK => ?_) AllReadyH.nil
          go_simp
          go_at_call 12
          refine (HB4.out _ BK3.out).mono ?_
          rintro e y4 ⟨rfl, hb⟩
          have BK4 := Lib.hid (below_trans' BK3.out hb)
          have hxk4 : y4.cell? ⟨x, 1, none⟩ = some (.pointer (some ⟨wl5, 0, none⟩)) := (XV.out.bel BK4.out).cell 1
          clear hb
          refine hK.out _ _ (HKB.out _ BK4.out) (fun hHeld => ?_)
          clear hK K
          try simp only [Act.put, List.getElem_toArray, List.getElem_cons_succ, List.getElem_cons_zero, List.setIfInBounds_toArray, List.set_cons_zero, List.set_cons_succ]
          refine wpAnyH_take (i := 35) (oi := _) (v := ?v35) rfl (by kernel_rfl) (by kernel_rfl) (by kernel_rfl) (fun _ _ _ h => h) (Or.inl ⟨by rfl, ?hy35⟩) (by assumption) ?rest35
          case hy35 =>
            intro w hSw
            try dsimp only at hSw
            go_simp
            try with_reducible rfl
          try simp only [Act.put, List.getElem_toArray, List.getElem_cons_succ, List.getElem_cons_zero, List.setIfInBounds_toArray, List.set_cons_zero, List.set_cons_succ]
          refine wpAnyH_take (i := 36) (oi := _) (v := ?v36) rfl (by kernel_rfl) (by kernel_rfl) (by kernel_rfl) (fun _ _ _ h => h) (Or.inl ⟨by rfl, ?hy36⟩) (by assumption) ?rest36
          case hy36 =>
            intro w hSw
            try dsimp only at hSw
            go_simp
            try with_reducible rfl
          try simp only [Act.put, List.getElem_toArray, List.getElem_cons_succ, List.getElem_cons_zero, List.setIfInBounds_toArray, List.set_cons_zero, List.set_cons_succ]
          refine wpAnyH_take (i := 37) (oi := _) (v := ?v37) rfl (by kernel_rfl) (by kernel_rfl) (by kernel_rfl) (fun _ _ _ h => h) (Or.inl ⟨by rfl, ?hy37⟩) (by assumption) ?rest37
          case hy37 =>
            intro w hSw
            try dsimp only at hSw
            go_simp
            try with_reducible rfl
          try simp only [Act.put, List.getElem_toArray, List.getElem_cons_succ, List.getElem_cons_zero, List.setIfInBounds_toArray, List.set_cons_zero, List.set_cons_succ]
          refine wpAnyH_take (i := 38) (oi := _) (v := ?v38) rfl (by kernel_rfl) (by kernel_rfl) (by kernel_rfl) (fun _ _ _ h => h) (Or.inl ⟨by rfl, ?hy38⟩) (by assumption) ?rest38
          case hy38 =>
            intro w hSw
            try dsimp only at hSw
            go_simp
            try with_reducible rfl
          try simp only [Act.put, List.getElem_toArray, List.getElem_cons_succ, List.getElem_cons_zero, List.setIfInBounds_toArray, List.set_cons_zero, List.set_cons_succ]
          refine wpAnyH_ready (rs := [39]) (by kernel_rfl) (by simp) ?_
          refine AllReadyH.cons (o := _) rfl (fun K hK => ?_) AllReadyH.nil
          go_simp
          go_at_call 9
          refine (HOX.out _ BK4.out).mono ?_
          rintro e y5 ⟨rfl, hto⟩
          have TO := Lib.hid ((Turns.of_below (S := XSet x d F) BK4.out).then hto)
          clear hto
          refine hK.out _ _ (HKS.out _ TO.out) (fun hHeld => ?_)
          clear hK K
          try simp only [Act.put, List.getElem_toArray, List.getElem_cons_succ, List.getElem_cons_zero, List.setIfInBounds_toArray, List.set_cons_zero, List.set_cons_succ]
          refine wpAnyH_take (i := 40) (oi := _) (v := ?v40) rfl (by kernel_rfl) (by kernel_rfl) (by kernel_rfl) (fun _ _ _ h => h) (Or.inl ⟨by rfl, ?hy40⟩) (by assumption) ?rest40
          case hy40 =>
            intro w hSw
            try dsimp only at hSw
            go_simp
            try with_reducible rfl
          try simp only [Act.put, List.getElem_toArray, List.getElem_cons_succ, List.getElem_cons_zero, List.setIfInBounds_toArray, List.set_cons_zero, List.set_cons_succ]
          refine wpAnyH_take (i := 41) (oi := _) (v := ?v41) rfl (by kernel_rfl) (by kernel_rfl) (by kernel_rfl) (fun _ _ _ h => h) (Or.inl ⟨by rfl, ?hy41⟩) (by assumption) ?rest41
          case hy41 =>
            intro w hSw
            try dsimp only at hSw
            go_simp
            try with_reducible rfl
          try simp only [Act.put, List.getElem_toArray, List.getElem_cons_succ, List.getElem_cons_zero, List.setIfInBounds_toArray, List.set_cons_zero]
          refine wpAnyH_done (by kernel_rfl) ?_ _
          go_wp2_with fail
          go_ret
          have TF : Turns (fun q => H ≤ q) w1 y5 := (T5.out.then (.of_below (by rw [HM.out]; exact BV4.out))).then (TO.out.mono (fun q _ e => by have := HLO.out; unfold XSet at e; omega))
          exact ⟨rfl, (by rw [HH.out]; exact B1.out.trans (TF.below (B := H) (by have := HGE.out; have := HLT.out; have := HLO.out; omega) (fun q _ e => e)))⟩
        · exact absurd LT4.out hn
      · exact absurd HLT1.out hn
end Go.Proofs.YteihedfmmiihiaaGreat
