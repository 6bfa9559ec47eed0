/- timers: Open. -/
import Derived.Test.YteondokncalbnaaTlOneW
import Derived.Test.YteondokncalbnaaTlTwin
namespace Go.Proofs.Yteondokncalbnaa
open Go.RowKit

def OpenY (w : World) (l : List UInt8) (e : Ending) (w' : World) : Prop :=
  (match rdTab l with
  | .ok (L, to) => ∃ t S, e = .returned (.tuple #[.pointer (some ⟨t, 0, none⟩), .int .i64 ((to : Nat) : Int), .int .i64 0]) ∧ TL w' t S L L.length ∧ ∀ i, S i → w.heap.size ≤ i
  | .error (p, en) => e = .returned (.tuple #[.pointer none, .int .i64 ((p : Nat) : Int), .int .i64 ((en : Nat) : Int)])) ∧ Below w.heap.size w w'
theorem OpenY.er {w w' : World} {l : List UInt8} {p en : Nat} (h : rdTab l = .error (p, en)) (hb : Below w.heap.size w w') : OpenY w l (.returned (.tuple #[.pointer none, .int .i64 (p : Int), .int .i64 (en : Int)])) w' := by
  unfold OpenY
  rw [h]
  exact ⟨rfl, hb⟩
theorem rdTms_er {l : List UInt8} {n a p en : Nat} {last : Int} {P : List Lt} (h : rdTm l a = .error (p, en)) : rdTms l (n + 1) a last P = .error (p, en) := by
  conv => lhs; unfold rdTms
  rw [h]
theorem rdTms_low {l : List UInt8} {n a to : Nat} {last : Int} {P : List Lt} {x : Lt} (h : rdTm l a = .ok (x, to)) (hl : x.1 < last) : rdTms l (n + 1) a last P = .error (a, 3) := by
  conv => lhs; unfold rdTms
  rw [h]
  simp only
  rw [if_pos hl]
theorem rdTms_there {l : List UInt8} {n a to : Nat} {last : Int} {P : List Lt} {x : Lt} (h : rdTm l a = .ok (x, to)) (hl : ¬ x.1 < last) (hn : named P x.2.1 x.2.2) : rdTms l (n + 1) a last P = .error (a, 6) := by
  conv => lhs; unfold rdTms
  rw [h]
  simp only
  rw [if_neg hl, if_pos (namedB_is.2 hn)]
theorem rdTms_go {l : List UInt8} {n a to : Nat} {last : Int} {P : List Lt} {x : Lt} (h : rdTm l a = .ok (x, to)) (hl : ¬ x.1 < last) (hn : ¬ named P x.2.1 x.2.2) : rdTms l (n + 1) a last P = rdTms l n to x.1 (P ++ [x]) := by
  conv => lhs; unfold rdTms
  rw [h]
  simp only
  rw [if_neg hl, if_neg (fun e => hn (namedB_is.1 e))]
theorem rdTab_n {l : List UInt8} {n t : Nat} (h : Cd.rdUint l 0 = .ok (n, t)) (hn : ¬ 4096 < n) : rdTab l = rdTms l n t (-9223372036854775808) [] := by
  unfold rdTab
  rw [h]
  simp only
  rw [if_neg hn]
set_option maxRecDepth 20000 in
set_option maxHeartbeats 16000000 in
theorem open_any (w : World) (A : Option Addr) (c : Nat) (l : List UInt8) (h : In w A l.length c l) (hl : l.length ≤ 1000000) :
    Calls Try.prog 20 #[.slice A l.length c] w (OpenY w l) := by
  have HI := Lib.hid h
  have HRU := Lib.hid (readUint_any w A l.length c l h)
  have hcm : c ≤ 9223372036854775807 := by have := h.cap_le.2; unfold maxLen at this; omega
  clear h
  rcases hu : Cd.rdUint l 0 with ⟨p, en⟩ | ⟨n, a0⟩
  · have her := rdUint_er (Nat.zero_le _) hu
    have HE : Hid (rdTab l = .error (p, en)) := Lib.hid (by unfold rdTab; rw [hu])
    have hen : (((en : Nat) : Int) == 0) = false := by rw [beq_eq_false_iff_ne]; omega
    have hen2 : (((en : Nat) : Int) != 0) = true := by rw [bne_iff_ne]; omega
    rw [hu] at HRU
    unfold Gets at HRU
    clear hu her
    go_enter Try.func20, Try.ntmps20
    go_wp2_with (go_at_call 40; refine HRU.out.mono ?_; rintro e w2 ⟨rfl, hb⟩; have HB := Lib.hid hb; clear hb)
    go_ret3
    exact OpenY.er HE.out HB.out
  · have hn64 := (Cd.rdUint_lt hu).1
    have ha0 := (Cd.rdUint_lt hu).2.2
    have HUq := Lib.hid hu
    rw [hu] at HRU
    unfold Gets u64V at HRU
    by_cases hbig : 4096 < n
    · have hgt : (4096 : Int) < (n : Int) := by omega
      have HE : Hid (rdTab l = .error (0, 2)) := Lib.hid (by unfold rdTab; rw [hu]; simp only; rw [if_pos hbig])
      clear hu hbig
      go_enter Try.func20, Try.ntmps20
      go_wp2_with (go_at_call 40; refine HRU.out.mono ?_; rintro e w2 ⟨rfl, hb⟩; have HB := Lib.hid hb; clear hb)
      go_ret3
      exact OpenY.er HE.out HB.out
    · have hgt : ¬ (4096 : Int) < (n : Int) := by omega
      have HE := Lib.hid (rdTab_n hu hbig)
      clear hu
      go_enter Try.func20, Try.ntmps20
      go_upto_region 6 with (go_at_call 40; refine HRU.out.mono ?_; rintro e w2 ⟨rfl, hb⟩)
      have HB2 := Lib.hid hb
      have HNw := Lib.hid (newL w2)
      clear hb
      go_upto_region 7 with (go_at_call 23; refine HNw.out.mono ?_; rintro e w3 ⟨t, S0, rfl, h3, hl3, hb3⟩)
      have HB3 := Lib.hid (below_trans' HB2.out hb3)
      have HT3 := Lib.hid h3
      have HS0 : Hid (∀ i, S0 i → w.heap.size ≤ i) := Lib.hid (fun i hi => Nat.le_trans HB2.out.size (hl3 i hi))
      clear h3 hl3 hb3
      go_wp2_with fail
      go_loopw [6, 9, 29] (fun av lv iv wr => ∃ (k a : Nat) (last : Int) (P : List Lt) (S' : Nat → Prop), k ≤ n ∧ a ≤ l.length ∧ av = .int .i64 (a : Int) ∧ lv = .int .i64 last ∧ iv = .int .u64 (k : Int) ∧ P.length = k ∧ (-9223372036854775808 ≤ last ∧ last ≤ 9223372036854775807) ∧ Hid (∀ y ∈ P, y.1 ≤ last) ∧ Hid (TL wr t S' P k) ∧ Hid (∀ i, S' i → w.heap.size ≤ i) ∧ Hid (Below w.heap.size w wr) ∧ Hid (rdTab l = rdTms l (n - k) a last P)) (fun _ _ iv _ => n - (intOf iv).toNat)
      case atStart => exact ⟨0, a0, -9223372036854775808, [], S0, by omega, ha0, rfl, rfl, rfl, rfl, by omega, Lib.hid (by simp), HT3, HS0, HB3, HE⟩
      case round =>
        obtain ⟨k, a, last, P, S', hk, ha, rfl, rfl, rfl, hP, hlast, hPl, hT, hS, hB, hRd⟩ := hrel
        by_cases hlt : k < n
        · have hlt1 : (k : Int) < (n : Int) := by omega
          obtain ⟨m, hm⟩ : ∃ m, n - k = m + 1 := ⟨n - k - 1, by omega⟩
          have hmn : n - (k + 1) = m := by omega
          rw [hm] at hRd
          have HOne := Lib.hid (one_any wr A c l a (HI.out.below hB.out) ha hl)
          clear hm
          go_upto_region 10 with (fail)
          go_upto_region 11 with (go_at_call 41; refine HOne.out.mono ?_; rintro e w4 ⟨⟨d, o, k', to, en, rfl, hcase⟩, hb4⟩)
          have HX : Hid (Blk (w4.alloc (.cells #[.int .i64 d, .string o, .int .i64 k'] 31)) w4.heap.size 31 [.int .i64 d, .string o, .int .i64 k']) := Lib.hid (Blk.new w4 31 [.int .i64 d, .string o, .int .i64 k'])
          have BX : Hid (Below w4.heap.size w4 (w4.alloc (.cells #[.int .i64 d, .string o, .int .i64 k'] 31))) := Lib.hid (Below.new w4 _)
          have HT4 := Lib.hid ((hT.out.bel hb4).bel BX.out)
          have HB4 := Lib.hid (below_trans' (below_trans' hB.out hb4) BX.out)
          have HCase := Lib.hid hcase
          have HBx : Hid (wr.heap.size ≤ w4.heap.size) := Lib.hid hb4.size
          clear hcase hb4
          generalize w4.alloc (.cells #[.int .i64 d, .string o, .int .i64 k'] 31) = X at *
          generalize w4.heap.size = bx at *
          have k0 := HX.out.cell 0
          have k1 := HX.out.cell 1
          have k2 := HX.out.cell 2
          simp only [List.getElem?_cons_succ, List.getElem?_cons_zero] at k0 k1 k2
          rcases HCase.out with ⟨rfl, htm, hto, hos, hd, hk0⟩ | ⟨hen, htm⟩
          · have HTm := Lib.hid htm
            by_cases hlow : d < last
            · have HR : Hid (rdTab l = .error (a, 3)) := Lib.hid (by rw [hRd.out]; exact rdTms_low HTm.out hlow)
              clear htm
              go_wp2_with fail
              go_ret3
              exact OpenY.er HR.out HB4.out
            · by_cases hnm : named P o k'
              · have HR : Hid (rdTab l = .error (a, 6)) := Lib.hid (by rw [hRd.out]; exact rdTms_there HTm.out hlow hnm)
                have HSt := Lib.hid (set_no X t S' P k HT4.out d o k' hk0 (.inl hnm))
                have HNm := Lib.hid hnm
                clear htm hnm
                go_wp2_with (go_at_call 14; refine HSt.out.mono ?_; rintro e w5 ⟨cc, rfl, h6, _, hb5⟩; obtain rfl := h6 HNm.out; have HB5 := Lib.hid (below_trans' HB4.out hb5); clear hb5 h6)
                go_ret3
                exact OpenY.er HR.out HB5.out
              · have HR : Hid (rdTab l = rdTms l m to d (P ++ [(d, o, k')])) := Lib.hid (by rw [hRd.out]; exact rdTms_go HTm.out hlow hnm)
                have hins : insL P (d, o, k') = P ++ [(d, o, k')] := insL_end (fun y hy => by have := hPl.out y hy; simp only; omega)
                have HSt := setL X t S' P k HT4.out d o k' hk0 hnm (by omega) (by omega)
                rw [hins] at HSt
                have HSt' := Lib.hid HSt
                have HPl2 : Hid (∀ y ∈ P ++ [(d, o, k')], y.1 ≤ d) := Lib.hid (fun y hy => by
                  rcases List.mem_append.1 hy with hy | hy
                  · have := hPl.out y hy; omega
                  · simp at hy; subst hy; exact Int.le_refl _)
                have hP2 : Hid ((P ++ [(d, o, k')]).length = k + 1) := Lib.hid (by simp [hP])
                have HDd := Lib.hid hd
                clear htm hnm hins HSt
                go_upto_region 17 with (go_at_call 14; refine HSt'.out.mono ?_; rintro e w5 ⟨rfl, S2, h5, g5, t5⟩)
                have HT5 := Lib.hid h5
                have HS5 : Hid (∀ i, S2 i → w.heap.size ≤ i) := Lib.hid (fun i hi => by
                  rcases g5 i hi with e | e
                  · exact hS.out i e
                  · have := HB4.out.size; omega)
                have hbS : ¬ S' bx := fun e => by
                  have h1 := hT.out.lts bx e
                  have h2 := HBx.out
                  omega
                have HK5 := Lib.hid (HX.out.turns t5 hbS)
                have HB5 : Hid (Below w.heap.size w w5) := Lib.hid (((Turns.of_below (S := fun i => w.heap.size ≤ i) HB4.out).then (t5.mono (fun i _ e => hS.out i e))).below (Nat.le_refl _) (fun _ _ e => e))
                clear h5 g5 t5 k0 k1 k2
                have k0 := HK5.out.cell 0
                simp only [List.getElem?_cons_zero] at k0
                go_quiet (fail)
                have HT6 := Lib.hid (HT5.out.bel (below_drewN' (Below.refl w5.heap.size w5) nq))
                have HB6 := Lib.hid (below_drewN' HB5.out nq)
                clear k0
                generalize w5.drewN nq = w6 at *
                go_wp2_with fail
                go_roundw
                case measure => simp only [intOf]; omega
                case rel => exact ⟨k + 1, to, d, P ++ [(d, o, k')], S2, by omega, hto, by go_num, by go_num, by go_num, hP2.out, HDd.out, HPl2, HT6, HS5, HB6, by rw [hmn]; exact HR⟩
          · have HR : Hid (rdTab l = .error (to, en)) := Lib.hid (by rw [hRd.out]; exact rdTms_er htm)
            have hen2 : (((en : Nat) : Int) != 0) = true := by simp [bne, hen]
            clear htm
            go_wp2_with fail
            go_ret3
            exact OpenY.er HR.out HB4.out
        · obtain rfl : k = n := by omega
          have hlt1 : ¬ (k : Int) < (k : Int) := by omega
          rw [Nat.sub_self] at hRd
          by_cases hend : a < l.length
          · have hend1 : (a : Int) < (l.length : Int) := by omega
            have HR : Hid (rdTab l = .error (a, 3)) := Lib.hid (by rw [hRd.out]; unfold rdTms; rw [if_pos hend])
            clear hend
            go_wp2_with fail
            go_ret3
            exact OpenY.er HR.out hB.out
          · have hend1 : ¬ (a : Int) < (l.length : Int) := by omega
            have HR : Hid (rdTab l = .ok (P, a)) := Lib.hid (by rw [hRd.out]; unfold rdTms; rw [if_neg hend])
            have HPn := Lib.hid hP
            clear hend hP
            go_wp2_with fail
            go_ret3
            show OpenY w l _ _
            unfold OpenY
            rw [HR.out]
            have hT2 := hT.out
            rw [← HPn.out] at hT2
            exact ⟨⟨t, S', rfl, hT2, hS.out⟩, hB.out⟩
end Go.Proofs.Yteondokncalbnaa
