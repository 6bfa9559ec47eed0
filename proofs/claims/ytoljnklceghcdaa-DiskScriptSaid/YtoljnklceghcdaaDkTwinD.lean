/- disk: Twin. -/
import Derived.Test.YtoljnklceghcdaaDkAwake
import Derived.Deep.RegionHeld3
namespace Go.Proofs.Ytoljnklceghcdaa
open Go.RowKit Go.Maps Go.Sort Go.Shelf
variable {Xs : Nat → Prop}

/-- what has been copied -/
def TwinF (Ys : Nat → Prop) (w : World) (p : Fs) (ks : List ByteArray) (mv : ByteArray → Option Value) : Prop :=
  ∀ k, (k ∉ ks ∧ mv k = none) ∨ (k ∈ ks ∧ ∃ l n v, p k = some (l, n) ∧ mv k = some (fileV v n) ∧ FileB Ys w v l ∧ n ≤ l.length)
theorem TwinF.below {Ys : Nat → Prop} {w w' : World} {p : Fs} {ks : List ByteArray} {mv : ByteArray → Option Value} (h : TwinF Ys w p ks mv) (b : Below w.heap.size w w') : TwinF Ys w' p ks mv := fun k => by
  rcases h k with h | ⟨h0, l, n, v, h1, h2, h3, h4⟩
  · exact .inl h
  · exact .inr ⟨h0, l, n, v, h1, h2, h3.below b, h4⟩
theorem TwinF.turns {Ys S : Nat → Prop} {w w' : World} {p : Fs} {ks : List ByteArray} {mv : ByteArray → Option Value} (h : TwinF Ys w p ks mv) (b : Turns S w w') (hn : ∀ g cur, w.heap[g]? = some (.cells cur 5 (0, 0)) → ¬ S g) : TwinF Ys w' p ks mv := fun k => by
  rcases h k with h | ⟨h0, l, n, v, h1, h2, h3, h4⟩
  · exact .inl h
  · exact .inr ⟨h0, l, n, v, h1, h2, h3.turns b (fun g hg => by obtain ⟨_, ⟨cur, e⟩, _⟩ := h3.lt hg; exact hn g cur e), h4⟩
theorem TwinF.add {Ys : Nat → Prop} {w : World} {p : Fs} {ks : List ByteArray} {mv : ByteArray → Option Value} (h : TwinF Ys w p ks mv) (k : ByteArray) (l : List UInt8) (n : Nat) (v : Value) (h1 : p k = some (l, n)) (h3 : FileB Ys w v l) (h4 : n ≤ l.length) : TwinF Ys w p (ks ++ [k]) (fun k' => if k' = k then some (fileV v n) else mv k') := fun k' => by
  by_cases e : k' = k
  · subst e
    exact .inr ⟨by simp, l, n, v, h1, by simp, h3, h4⟩
  · rcases h k' with ⟨a, b⟩ | ⟨h0, l', n', v', a1, a2, a3, a4⟩
    · exact .inl ⟨by simp [a, e], by simp [e, b]⟩
    · exact .inr ⟨by simp [h0], l', n', v', a1, by simp [e, a2], a3, a4⟩
set_option maxRecDepth 20000 in
set_option maxHeartbeats 4000000 in
theorem twinD (w : World) (d F N : Nat) (s : Dk) (h : s.Is Xs w d F N) (hL : Short s.p 100000000) {Ys : Nat → Prop} (hy : ∀ g, Ys g → g < w.heap.size) :
    Calls Try.prog 21 #[.pointer (some ⟨d, 0, none⟩)] w fun e w' => ∃ d2 F2, e = .returned (.pointer (some ⟨d2, 0, none⟩)) ∧ Dk.Is s Ys w' d2 F2 N ∧ w.heap.size ≤ d2 ∧ w.heap.size ≤ F2 ∧ Below w.heap.size w w' := by
  obtain ⟨off, fuse, p⟩ := s
  unfold Dk.Is at h ⊢
  simp only at h hL ⊢
  have HH := Lib.hid h
  have HY := Lib.hid hy
  have HLL := Lib.hid hL
  obtain ⟨c0, c1, c2⟩ := h.cells
  have HM := Lib.hid (made_is w d (some F) c0)
  simp only [Option.isSome_some] at HM
  have hmm := @run_makeMap Try.prog
  have e0 := fun o => ((Below.new w o).cell (p := ⟨d, 0, none⟩) h.lts.1).trans c0
  have e1 := fun o => ((Below.new w o).cell (p := ⟨d, 1, none⟩) h.lts.1).trans c1
  have e2 := fun o => ((Below.new w o).cell (p := ⟨d, 2, none⟩) h.lts.1).trans c2
  have hfu := h.fu
  clear h hy hL
  go_enter Try.func21, Try.ntmps21
  go_upto_region 3 with (go_at_call 32; refine HM.out.mono ?_; rintro e w2 ⟨rfl, rfl⟩)
  go_region
  have hB0 := below_drewN' (Below.new2 w2 (.map #[] 0) (.cells #[.map (some w2.heap.size), .bool off, .int .i64 fuse] 51)) 1
  have BX : Hid (Turns (fun _ => False) w2 ((w2.alloc (.map #[] 0)).alloc (.cells #[.map (some w2.heap.size), .bool off, .int .i64 fuse] 51)).drew) := Lib.hid (.of_below hB0)
  have KX : Hid (Blk ((w2.alloc (.map #[] 0)).alloc (.cells #[.map (some w2.heap.size), .bool off, .int .i64 fuse] 51)).drew (w2.heap.size + 1) 51 [.map (some w2.heap.size), .bool off, .int .i64 fuse]) := Lib.hid ((Blk.new2 w2 (.map #[] 0) 51 [.map (some w2.heap.size), .bool off, .int .i64 fuse]).drewN 1)
  have MX : Hid (MapIs kStr ((w2.alloc (.map #[] 0)).alloc (.cells #[.map (some w2.heap.size), .bool off, .int .i64 fuse] 51)).drew w2.heap.size (fun _ => none) 0) := Lib.hid (((MapIs.empty kStr w2).alloc (.cells #[.map (some w2.heap.size), .bool off, .int .i64 fuse] 51)).below (below_drewN' (Below.refl _ _) 1))
  have hdM := HH.out.lts
  have HDX : Hid (DS Xs ((w2.alloc (.map #[] 0)).alloc (.cells #[.map (some w2.heap.size), .bool off, .int .i64 fuse] 51)).drew d F off fuse p N) := Lib.hid (HH.out.bel hB0)
  clear c0 c1 c2 e0 e1 e2 hB0 hmm
  generalize ((w2.alloc (.map #[] 0)).alloc (.cells #[.map (some w2.heap.size), .bool off, .int .i64 fuse] 51)).drew = X at *
  generalize hM : w2.heap.size = M at *
  have HMq := Lib.hid hM
  clear hM
  obtain ⟨c0, _, _⟩ := HDX.out.cells
  obtain ⟨mv, n0, hN0, hm0, hf0⟩ := HDX.out.files
  have HMX := Lib.hid hm0
  have HFX := Lib.hid hf0
  clear hm0 hf0
  go_wp2_with (at_range; refine wpl_range _ rfl _ 49 rfl Try.underlying49 rfl HMX.out ?_; intro w3 hrg0 hg0 hs0)
  have BX3 := Lib.hid (Turns.of_grown (S := fun i => i = M) hg0 (fun r e => by cases e))
  have KX3 := Lib.hid (KX.out.turns (.of_grown (S := fun _ => False) hg0 (fun r e => by cases e)) id)
  have MX3 := Lib.hid (MX.out.turns (.of_grown (S := fun _ => False) hg0 (fun r e => by cases e)) id)
  have HRG := Lib.hid hrg0
  have hXM : M + 1 < X.heap.size := KX.out.lt
  clear hg0 hs0 hrg0 c0
  generalize hr : X.heap.size = r at *
  have HRq := Lib.hid hr
  clear hr
  go_frame
  go_loopw [4] (fun _ wr => ∃ (ks : List ByteArray) (cnt : Nat) (mv' : ByteArray → Option Value), Hid (Rng kStr wr F r mv n0 ks cnt) ∧ Hid (Turns (fun i => i = M) X wr) ∧ Hid (Blk wr (M + 1) 51 [.map (some M), .bool off, .int .i64 fuse]) ∧ Hid (MapIs kStr wr M mv' ks.length) ∧ Hid (TwinF Ys wr p ks mv')) (fun _ wr => wr.rangeLeft F r)
  case atStart => exact ⟨[], n0, fun _ => none, HRG, BX3, KX3, MX3, Lib.hid (fun k => .inl ⟨by simp, rfl⟩)⟩
  case round =>
    obtain ⟨ks, cnt, mv', hRg, hT, hK, hMp, hTF⟩ := hrel
    go_wp2_with (at_next; refine wpl_next _ rfl _ rfl (fun a b e => by unfold kStr at e; injection e) rfl hRg.out ?_ ?_)
    · intro hc0 hl0
      go_wp2_with fail
      go_ret
      refine ⟨M + 1, M, rfl, ⟨hK.out, ⟨mv', ks.length, ?_, hMp.out, fun k => ?_⟩, hfu⟩, by have := HMq.out; omega, by have := HMq.out; omega, ((BX.out.mono (T := fun i => i = M) (fun _ _ e => e.elim)).then hT.out).below (Nat.le_refl _) (fun _ _ e => by have := HMq.out; omega)⟩
      · have := hRg.out.len; omega
      · rcases hTF.out k with ⟨h1, h2⟩ | ⟨_, h⟩
        · rcases HFX.out k with ⟨h3, _⟩ | ⟨l, n, v, _, h4, _⟩
          · exact .inl ⟨h3, h2⟩
          · exact absurd (hl0 k _ h4) h1
        · exact .inr h
    · intro k v w4 cnt2 hkv hnk hrg2 hlt hg2 hs2 hen
      obtain ⟨l, n, fA, fC, hpk, rfl, hfv, hnl⟩ : ∃ l n A c, p k = some (l, n) ∧ v = fileV (.slice A l.length c) n ∧ FileB Xs X (.slice A l.length c) l ∧ n ≤ l.length := by
        rcases HFX.out k with ⟨_, h2⟩ | ⟨l, n, fv, h1, h2, h3, h4⟩
        · rw [h2] at hkv; cases hkv
        · rw [h2] at hkv
          injection hkv with hkv
          obtain ⟨A, c, rfl, _⟩ := h3.form
          exact ⟨l, n, A, c, h1, hkv.symm, h3, h4⟩
      have hll : l.length ≤ 100000000 := by have := HLL.out k; simpa [pl, hpk] using this
      have HPK := Lib.hid hpk
      have HNK := Lib.hid hnk
      have HFV := Lib.hid hfv
      have HRG2 := Lib.hid hrg2
      have HLT := Lib.hid hlt
      unfold fileV at hen
      unfold kStr at hen ⊢
      have hTr : Turns (fun i => i = r) wr w4 := .of_grown hg2 (fun g e => by injection e with e; exact e.symm)
      have hit := hRg.out.iter
      have hu8 : ∀ g cur, wr.heap[g]? = some (.cells cur 5 (0, 0)) → ¬ g = r := fun g cur e1 e2 => by
        subst e2
        obtain ⟨o, e3, e4⟩ := hit
        rw [e1] at e3
        cases e3
        cases e4
      have hT4 := Lib.hid (hT.out.trans hTr (fun i hi e => by have := HRq.out; omega))
      have hK4 := Lib.hid (hK.out.turns hTr (by omega))
      have hM4 := Lib.hid (hMp.out.turns hTr (by omega))
      have hF4 := Lib.hid (hTF.out.turns hTr hu8)
      have hV4 := Lib.hid (HFV.out.turns hT4.out (fun g hg e => HFV.out.ne_map hg MX.out e))
      clear hkv hnk hrg2 hlt hg2 hs2 hpk hfv hTr hit hu8
      have KW : Hid (Blk (w4.alloc (.cells #[.slice fA l.length fC, .int .i64 (n : Int)] 58)) w4.heap.size 58 [.slice fA l.length fC, .int .i64 (n : Int)]) := Lib.hid (Blk.new w4 58 [.slice fA l.length fC, .int .i64 (n : Int)])
      have TW : Hid (Turns (fun _ => False) w4 (w4.alloc (.cells #[.slice fA l.length fC, .int .i64 (n : Int)] 58))) := Lib.hid (.of_below (Below.new w4 _))
      have hs4 := hT4.out.size
      have hMl := hM4.out.lt
      have hKl := hK4.out.lt
      go_upto_region 7 with (fail)
      generalize w4.alloc (.cells #[.slice fA l.length fC, .int .i64 (n : Int)] 58) = W at *
      generalize w4.heap.size = g at *
      clear hen
      have k0 := KW.out.cell 0
      have k1 := KW.out.cell 1
      have m0 := (hK4.out.turns TW.out id).cell 0
      simp only [List.getElem?_cons_succ, List.getElem?_cons_zero] at k0 k1 m0
      have hWl := KW.out.lt
      have hKWl := (hK4.out.turns TW.out id).lt
      have HVW := Lib.hid (hV4.out.turns TW.out (fun _ _ => id))
      have HMW := Lib.hid (hM4.out.turns TW.out id)
      have HFW := Lib.hid (hF4.out.turns TW.out (fun _ _ _ => id))
      have HTW := Lib.hid (hT4.out.then (TW.out.mono (fun _ _ e => e.elim)))
      have HKW := Lib.hid (hK4.out.turns TW.out id)
      have hWd : Below W.heap.size W W.drew := below_drewN' (Below.refl W.heap.size W) 1
      have HVD := Lib.hid (HVW.out.below hWd)
      have hyW : ∀ g, Ys g → g < W.drew.heap.size := fun i hi => by have := HY.out i hi; have h2 : W.drew.heap.size = W.heap.size := rfl; omega
      have HYW := Lib.hid hyW
      have hc : ∀ X2, Below W.drew.heap.size W.drew X2 → X2.cell? ⟨M + 1, 0, none⟩ = some (.map (some M)) ∧ X2.cell? ⟨g, 0, none⟩ = some (.slice fA l.length fC) ∧ X2.cell? ⟨g, 1, none⟩ = some (.int .i64 (n : Int)) := fun X2 hX =>
        ⟨(hX.cell (p := ⟨M + 1, 0, none⟩) hKWl).trans m0, (hX.cell (p := ⟨g, 0, none⟩) hWl).trans k0, (hX.cell (p := ⟨g, 1, none⟩) hWl).trans k1⟩
      have HC := Lib.hid hc
      have hup : ∀ X2 v, Below W.drew.heap.size W.drew X2 → ∃ X3, (Instr.mapUpdate 49 (.map (some M)) (.string k) (.agg #[v, .int .i64 (n : Int)])).run Try.prog X2 = .ok () X3 ∧ MapIs kStr X3 M (fun k' => if k' = k then some (fileV v n) else mv' k') (if (mv' k).isSome then ks.length else ks.length + 1) ∧ MapTurn X2 X3 M := fun X2 v hX =>
        ((HMW.out.below hWd).below hX).update (str_keys Try.underlying9) Try.underlying49 k (fileV v n)
      have HUP := Lib.hid hup
      clear hc hup hWd hyW
      go_region_held3 (fun Y => Y.cell? ⟨M + 1, 0, none⟩ = some (.map (some M)) ∧ Y.cell? ⟨g, 0, none⟩ = some (.slice fA l.length fC) ∧ Y.cell? ⟨g, 1, none⟩ = some (.int .i64 (n : Int)))
        (first | go_keep | exact HCX.out | exact HCY.out)
        (first | (go_at_call 35; refine (cloneB W.drew fA l.length fC l HVD.out hll HYW.out).mono ?_; rintro e X2 ⟨A', c', rfl, hv2, hb2⟩; obtain ⟨X3, hrun, hm3, hw3⟩ := HUP.out X2 (.slice A' l.length c') hb2; have hcx := HC.out X2 hb2; have HCX := Lib.hid hcx; have HCY := Lib.hid (And.intro ((hw3.cell _).trans hcx.1) (And.intro ((hw3.cell _).trans hcx.2.1) ((hw3.cell _).trans hcx.2.2))); clear hcx; have HV3 := Lib.hid hv2; have HB3 := Lib.hid hb2; have HM3 := Lib.hid hm3; have HW3 := Lib.hid hw3; clear hv2 hb2 hm3 hw3))
      have hs3 := HTW.out.size
      have hrq := HRq.out
      have hb3 := HB3.out
      have T2 : Turns (fun _ => False) W X2 := ((Turns.refl (fun _ => False) W).drewN 1).then (.of_below hb3)
      have T3 : Turns (fun i => i = M) X2 X3 := .of_map HW3.out rfl
      have hm2 := (HMW.out.turns T2 id)
      have hu8 : ∀ g cur, X2.heap[g]? = some (.cells cur 5 (0, 0)) → ¬ g = M := fun g cur e1 e2 => by
        subst e2
        exact hm2.ne_cells e1 rfl
      have T43 : Turns (fun i => i = M) w4 X3 := ((TW.out.then T2).mono (fun _ _ e => e.elim)).then T3
      have hRX := Lib.hid (HRG2.out.turns T43 (by omega) (by omega))
      have hTX := Lib.hid (hT4.out.then T43)
      have hKX := Lib.hid ((HKW.out.turns T2 id).turns T3 (by omega))
      have hnk2 : (mv' k).isSome = false := by
        rcases hF4.out k with ⟨_, e⟩ | ⟨e, _⟩
        · rw [e]; rfl
        · exact absurd e HNK.out
      have hMX : Hid (MapIs kStr X3 M (fun k' => if k' = k then some (fileV (.slice A' l.length c') n) else mv' k') (ks ++ [k]).length) := Lib.hid (by
        have := HM3.out
        rw [hnk2, if_neg (by decide)] at this
        simpa using this)
      have hFX := Lib.hid (((HFW.out.turns T2 (fun _ _ _ => id)).turns T3 hu8).add k l n _ HPK.out (HV3.out.turns T3 (fun g hg e => HV3.out.ne_map hg hm2 e)) hnl)
      clear hu8 hm2 T2 T3 T43 hs3 hrq hnk2 k0 k1 m0
      go_roundw
      case measure => rw [hRX.out.left_eq, hRg.out.left_eq]; exact HLT.out
      case rel => (repeat apply Exists.intro); exact ⟨⟨_, _, _, hRX, hTX, hKX, hMX, hFX⟩, rfl⟩
end Go.Proofs.Ytoljnklceghcdaa
