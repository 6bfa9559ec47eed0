/- The document's Open, the law's told, TimersOpens (texts put together). -/
import Derived.Test.YteondokncalbnaaRtA
import Derived.Test.YteondokncalbnaaCodeRefs
import Derived.Deep.RegionHeld3
namespace Go.Proofs.Yteondokncalbnaa
open Go.RowKit

def ROpenY (w : World) (l : List UInt8) (e : Ending) (w' : World) : Prop :=
  (match rdTab l with
  | .ok (L, n) => ∃ r A c, e = .returned (.tuple #[.pointer (some ⟨r, 0, none⟩), .int .i64 (n : Int), .int .i64 0]) ∧ RT w' r A c L ∧ (∀ i, RSet r A i → w.heap.size ≤ i)
  | .error (p, en) => e = .returned (.tuple #[.pointer none, .int .i64 (p : Int), .int .i64 (en : Int)])) ∧ Below w.heap.size w w'
theorem ROpenY.er {w w' : World} {l : List UInt8} {p en : Nat} (h : rdTab l = .error (p, en)) (hb : Below w.heap.size w w') : ROpenY w l (.returned (.tuple #[.pointer none, .int .i64 (p : Int), .int .i64 (en : Int)])) w' := by
  unfold ROpenY
  rw [h]
  exact ⟨rfl, hb⟩
theorem rdTm_e1 {l : List UInt8} {a p en : Nat} (h : Cd.rdInt l a = .error (p, en)) : rdTm l a = .error (p, en) := by unfold rdTm; rw [h]
theorem rdTm_e2 {l : List UInt8} {a t1 p en : Nat} {d : Int} (h1 : Cd.rdInt l a = .ok (d, t1)) (h : Cd.rdText l t1 = .error (p, en)) : rdTm l a = .error (p, en) := by unfold rdTm; rw [h1]; simp only; rw [h]
theorem rdTm_e3 {l : List UInt8} {a t1 t2 p en : Nat} {d : Int} {s : List UInt8} (h1 : Cd.rdInt l a = .ok (d, t1)) (h2 : Cd.rdText l t1 = .ok (s, t2)) (h : Cd.rdUint l t2 = .error (p, en)) : rdTm l a = .error (p, en) := by unfold rdTm; rw [h1]; simp only; rw [h2]; simp only; rw [h]
theorem rdTm_e4 {l : List UInt8} {a t1 t2 t3 n : Nat} {d : Int} {s : List UInt8} (h1 : Cd.rdInt l a = .ok (d, t1)) (h2 : Cd.rdText l t1 = .ok (s, t2)) (h : Cd.rdUint l t2 = .ok (n, t3)) (hn : 9223372036854775807 < n) : rdTm l a = .error (t2, 1) := by unfold rdTm; rw [h1]; simp only; rw [h2]; simp only; rw [h]; simp only; rw [if_pos hn]
theorem rdTm_ok {l : List UInt8} {a t1 t2 t3 n : Nat} {d : Int} {s : List UInt8} (h1 : Cd.rdInt l a = .ok (d, t1)) (h2 : Cd.rdText l t1 = .ok (s, t2)) (h : Cd.rdUint l t2 = .ok (n, t3)) (hn : ¬ 9223372036854775807 < n) : rdTm l a = .ok ((d, ⟨s.toArray⟩, (n : Int)), t3) := by unfold rdTm; rw [h1]; simp only; rw [h2]; simp only; rw [h]; simp only; rw [if_neg hn]

/-- how far the document's Open is -/
structure OI (w wr : World) (l : List UInt8) (r n i a : Nat) (A : Option Addr) (c : Nat) (P : List Lt) (last : Int) : Prop where
  rt : RT wr r A c P
  low : ∀ j, RSet r A j → w.heap.size ≤ j
  B : Below w.heap.size w wr
  eq : rdTab l = rdTms l (n - i) a last P
  len : P.length = i
  le : i ≤ n
  at_ : a ≤ l.length
  top : ∀ y ∈ P, y.1 ≤ last
  last1 : ∀ (h : 0 < P.length), last = (P[P.length - 1]'(by omega)).1
  last0 : P.length = 0 → last = -9223372036854775808
theorem OI.er {w wr : World} {l : List UInt8} {r n i a : Nat} {A : Option Addr} {c : Nat} {P : List Lt} {last : Int} (h : OI w wr l r n i a A c P last) (hi : i < n) {p en : Nat} (hr : rdTm l a = .error (p, en)) : rdTab l = .error (p, en) := by
  rw [h.eq, show n - i = (n - i - 1) + 1 from by omega]
  exact rdTms_er hr
theorem OI.low' {w wr : World} {l : List UInt8} {r n i a : Nat} {A : Option Addr} {c : Nat} {P : List Lt} {last : Int} (h : OI w wr l r n i a A c P last) (hi : i < n) {x : Lt} {to : Nat} (hr : rdTm l a = .ok (x, to)) (hl : x.1 < last) : rdTab l = .error (a, 3) := by
  rw [h.eq, show n - i = (n - i - 1) + 1 from by omega]
  exact rdTms_low hr hl
theorem OI.there {w wr : World} {l : List UInt8} {r n i a : Nat} {A : Option Addr} {c : Nat} {P : List Lt} {last : Int} (h : OI w wr l r n i a A c P last) (hi : i < n) {x : Lt} {to : Nat} (hr : rdTm l a = .ok (x, to)) (hl : ¬ x.1 < last) (hn : named P x.2.1 x.2.2) : rdTab l = .error (a, 6) := by
  rw [h.eq, show n - i = (n - i - 1) + 1 from by omega]
  exact rdTms_there hr hl hn
theorem OI.go {w wr wr' : World} {l : List UInt8} {r n i a : Nat} {A A' : Option Addr} {c c' : Nat} {P : List Lt} {last : Int} (h : OI w wr l r n i a A c P last) (hi : i < n) {x : Lt} {to : Nat} (hr : rdTm l a = .ok (x, to)) (hto : to ≤ l.length) (hl : ¬ x.1 < last) (hn : ¬ named P x.2.1 x.2.2)
    (h2 : RT wr' r A' c' (insL P x)) (hlow : ∀ j, blkOf A' j → wr.heap.size ≤ j) (ht : Turns (fun j => j = r) wr wr') : OI w wr' l r n (i + 1) to A' c' (P ++ [x]) x.1 := by
  have he : insL P x = P ++ [x] := insL_end (fun y hy => by have := h.top y hy; omega)
  rw [he] at h2
  refine ⟨h2, ?_, ?_, ?_, by rw [List.length_append, h.len]; rfl, hi, hto, ?_, ?_, ?_⟩
  · rintro j (rfl | hj)
    · exact h.low j (.inl rfl)
    · exact Nat.le_trans h.B.size (hlow j hj)
  · have := (Turns.of_below (S := fun j => w.heap.size ≤ j) h.B).then (ht.mono (fun j _ e => by subst e; exact h.low j (.inl rfl)))
    exact this.below (Nat.le_refl _) (fun _ _ e => e)
  · rw [h.eq, show n - i = (n - (i + 1)) + 1 from by omega]
    exact rdTms_go hr hl hn
  · intro y hy
    rcases List.mem_append.1 hy with hy | hy
    · have := h.top y hy; omega
    · simp at hy; subst hy; exact Int.le_refl _
  · intro _
    simp
  · intro e; simp at e
def oneT (d : Int) (s : List UInt8) (n : Nat) : Lt := (d, ⟨s.toArray⟩, (n : Int))

set_option maxRecDepth 20000 in
set_option maxHeartbeats 8000000 in
theorem rtOpen (w : World) (A : Option Addr) (c : Nat) (l : List UInt8) (h : In w A l.length c l) (hl : l.length ≤ 1000000) :
    Calls Try.prog 21 #[.slice A l.length c] w (ROpenY w l) := by
  have II := Lib.hid h
  have hl3 : (l.length : Int) ≤ 1000000 := by omega
  have HC := Lib.hid (refUint_any w A l.length c l 0 h.bs (Nat.zero_le _) hl)
  clear h
  rcases hu : Cd.rdUint l 0 with ⟨p, en⟩ | ⟨n, t⟩
  · have hen : ((en : Int) != 0) = true := by rw [bne_iff_ne]; have := rdUint_errno hu; omega
    have HR : Hid (rdTab l = .error (p, en)) := Lib.hid (by unfold rdTab; rw [hu])
    have HS := Lib.hid hu
    clear hu
    go_enter Try.func21, Try.ntmps21
    go_wp2_with fail
    refine HC.out.mono ?_
    rintro e w' ⟨hs, rfl⟩
    obtain rfl := hs.of_error HS.out
    go_wp2_with fail
    go_ret3
    exact ROpenY.er HR.out (Below.refl _ _)
  · have hlt := Cd.rdUint_lt hu
    have HS := Lib.hid hu
    by_cases hn : 4096 < n
    · have HR : Hid (rdTab l = .error (0, 2)) := Lib.hid (by unfold rdTab; rw [hu]; simp only; rw [if_pos hn])
      have hn1 : (4096 : Int) < (n : Int) := by omega
      clear hu hn hlt
      go_enter Try.func21, Try.ntmps21
      go_wp2_with fail
      refine HC.out.mono ?_
      rintro e w' ⟨hs, rfl⟩
      obtain rfl := hs.of_ok HS.out
      unfold u64V
      go_wp2_with fail
      go_ret3
      exact ROpenY.er HR.out (Below.refl _ _)
    · have HR : Hid (rdTab l = rdTms l n t (-9223372036854775808) []) := Lib.hid (rdTab_n hu hn)
      have hn1 : ¬ (4096 : Int) < (n : Int) := by omega
      have hn2 : n ≤ 4096 := by omega
      have hcv : IntKind.i64.wrap (n : Int) = (n : Int) := wrap_i64' _ (by omega) (by omega)
      have ht := hlt.2.2
      clear hu hn hlt
      go_enter Try.func21, Try.ntmps21
      go_wp2_with fail
      refine HC.out.mono ?_
      rintro e w' ⟨hs, rfl⟩
      obtain rfl := hs.of_ok HS.out
      unfold u64V
      clear HC hs
      go_wp2_with fail
      have hB := Below.new w (.cells #[.slice none 0 0] 60)
      have hlw : ∀ j, RSet w.heap.size none j → w.heap.size ≤ j := fun j hj => by
        rcases hj with rfl | ⟨x, e, _⟩
        · exact Nat.le_refl _
        · cases e
      have O0 : Hid (OI w (w.alloc (.cells #[.slice none 0 0] 60)) l w.heap.size n 0 t none 0 [] (-9223372036854775808)) := Lib.hid
        ⟨⟨Blk.new w 60 [.slice none 0 0], Tms.nil _ _, by unfold maxLen; simp, List.Pairwise.nil, by simp⟩, hlw, hB, HR.out, rfl, Nat.zero_le _, ht, by simp, fun h => absurd h (by simp), fun _ => rfl⟩
      clear hB hlw
      generalize hrr : w.heap.size = r at *
      generalize w.alloc (.cells #[.slice none 0 0] 60) = W0 at *
      go_loopw [6, 9] (fun at_ iv wr => ∃ (i a : Nat) (A1 : Option Addr) (c1 : Nat) (P : List Lt) (last : Int), at_ = .int .i64 (a : Int) ∧ iv = .int .i64 (i : Int) ∧ Hid (OI w wr l r n i a A1 c1 P last)) (fun _ iv _ => n - (intOf iv).toNat)
      case atStart => exact ⟨0, t, none, 0, [], _, rfl, rfl, O0⟩
      case round =>
        obtain ⟨i, a, A1, c1, P, last, rfl, rfl, HO⟩ := hrel
        have hle := HO.out.le
        have hal := HO.out.at_
        have hi1 : (i : Int) ≤ 4096 := by omega
        have ha1 : (a : Int) ≤ 1000000 := by omega
        by_cases hlt : i < n
        · have hlt1 : (i : Int) < (n : Int) := by omega
          have IW := Lib.hid (II.out.below HO.out.B)
          have HC1 := Lib.hid (refInt_any wr A l.length c l a IW.out.bs hal hl)
          rcases h1 : Cd.rdInt l a with ⟨p, en⟩ | ⟨d, t1⟩
          · have hen : ((en : Int) != 0) = true := by rw [bne_iff_ne]; have := (rdInt_er hal h1).2; omega
            have HX := Lib.hid (HO.out.er hlt (rdTm_e1 h1))
            have HS1 := Lib.hid h1
            clear h1
            go_wp2_with fail
            refine HC1.out.mono ?_
            rintro e w' ⟨hs, rfl⟩
            obtain rfl := hs.of_error HS1.out
            go_wp2_with fail
            go_ret3
            exact ROpenY.er HX.out HO.out.B
          · have HS1 := Lib.hid h1
            have ht1 : t1 ≤ l.length := rdInt_le h1
            have HC2 := Lib.hid (refText_any wr A l.length c l t1 IW.out.bs IW.out.cap_le.1 ht1 hl)
            go_wp2_with fail
            refine HC1.out.mono ?_
            rintro e w' ⟨hs, rfl⟩
            obtain rfl := hs.of_ok HS1.out
            unfold i64V
            clear hs HC1 HS1
            rcases h2 : Cd.rdText l t1 with ⟨p, en⟩ | ⟨s, t2⟩
            · have hen : ((en : Int) != 0) = true := by rw [bne_iff_ne]; have := (rdText_er ht1 h2).2; omega
              have HX := Lib.hid (HO.out.er hlt (rdTm_e2 h1 h2))
              have HS2 := Lib.hid h2
              clear h1 h2
              go_wp2_with fail
              refine HC2.out.mono ?_
              rintro e w' ⟨hs, rfl⟩
              obtain rfl := hs.of_error HS2.out
              go_wp2_with fail
              go_ret3
              exact ROpenY.er HX.out HO.out.B
            · have HS2 := Lib.hid h2
              have ht2 : t2 ≤ l.length := (rdText_le h2).1
              have HC3 := Lib.hid (refUint_any wr A l.length c l t2 IW.out.bs ht2 hl)
              go_wp2_with fail
              refine HC2.out.mono ?_
              rintro e w' ⟨hs, rfl⟩
              obtain rfl := hs.of_ok HS2.out
              unfold strV
              clear hs HC2 HS2
              rcases h3 : Cd.rdUint l t2 with ⟨p, en⟩ | ⟨m, t3⟩
              · have hen : ((en : Int) != 0) = true := by rw [bne_iff_ne]; have := (rdUint_er ht2 h3).2; omega
                have HX := Lib.hid (HO.out.er hlt (rdTm_e3 h1 h2 h3))
                have HS3 := Lib.hid h3
                clear h1 h2 h3
                go_wp2_with fail
                refine HC3.out.mono ?_
                rintro e w' ⟨hs, rfl⟩
                obtain rfl := hs.of_error HS3.out
                go_wp2_with fail
                go_ret3
                exact ROpenY.er HX.out HO.out.B
              · have HS3 := Lib.hid h3
                by_cases hm : 9223372036854775807 < m
                · have HX := Lib.hid (HO.out.er hlt (rdTm_e4 h1 h2 h3 hm))
                  have hm1 : (9223372036854775807 : Int) < (m : Int) := by omega
                  clear h1 h2 h3 hm
                  go_wp2_with fail
                  refine HC3.out.mono ?_
                  rintro e w' ⟨hs, rfl⟩
                  obtain rfl := hs.of_ok HS3.out
                  unfold u64V
                  go_wp2_with fail
                  go_ret3
                  exact ROpenY.er HX.out HO.out.B
                · have HTm := Lib.hid (rdTm_ok h1 h2 h3 hm)
                  have hm1 : ¬ ((9223372036854775807 : Int) < (m : Int)) := by omega
                  have hmw : IntKind.i64.wrap (m : Int) = (m : Int) := wrap_i64' _ (by omega) (by omega)
                  have ht3 : t3 ≤ l.length := rdUint_le h3
                  have hdi := rdInt_in h1
                  clear h1 h2 h3 hm
                  go_wp2_with fail
                  refine HC3.out.mono ?_
                  rintro e w' ⟨hs, rfl⟩
                  obtain rfl := hs.of_ok HS3.out
                  unfold u64V
                  clear hs HC3 HS3
                  by_cases hp : 0 < i
                  · have hlen := HO.out.len
                    obtain ⟨g, og, rfl, hx, d0, _, _⟩ := HO.out.rt.at_ (i := i - 1) (by omega)
                    have hla : last = (P[i - 1]'(by omega)).1 := by have := HO.out.last1 (by omega); rw [this]; congr 2; omega
                    have hp1 : (0 : Int) < (i : Int) := by omega
                    have e1 : ((i : Int) - 1).toNat = i - 1 := by omega
                    have e2 : (0 : Int) ≤ (i : Int) - 1 := by omega
                    have e3 : (i : Int) - 1 < (P.length : Int) := by omega
                    have hc0 := HO.out.rt.c0
                    have hcap := HO.out.rt.cap.1
                    have hmx := HO.out.rt.cap.2
                    unfold maxLen at hmx
                    rw [← hla] at d0
                    clear hla
                    by_cases hd : d < last
                    · have hd1 : decide (d < last) = true := decide_eq_true hd
                      have HX := Lib.hid (HO.out.low' hlt HTm.out hd)
                      clear hd
                      go_wp2_with fail
                      go_ret3
                      exact ROpenY.er HX.out HO.out.B
                    · have hd1 : decide (d < last) = false := decide_eq_false hd
                      have hnl := Lib.hid hd
                      clear hd
                      by_cases hnm : named P ⟨s.toArray⟩ (m : Int)
                      · have HX := Lib.hid (HO.out.there hlt HTm.out (show ¬ d < last from by have := hnl.out; omega) hnm)
                        have HSt := Lib.hid (rtSet_there wr r (some ⟨g, og, none⟩) c1 P HO.out.rt d ⟨s.toArray⟩ (m : Int) (by omega) hnm)
                        clear hnm
                        go_wp2_with (go_at_call 25; refine HSt.out.mono ?_; rintro e w2 ⟨rfl, rfl⟩)
                        go_ret3
                        exact ROpenY.er HX.out HO.out.B
                      · have HNM := Lib.hid hnm
                        have HSt := Lib.hid (rtSet_ok wr r (some ⟨g, og, none⟩) c1 P HO.out.rt d ⟨s.toArray⟩ (m : Int) (by omega) hnm (by have := HO.out.len; omega))
                        clear hnm
                        go_wp2_with (go_at_call 25; refine HSt.out.mono ?_; rintro e w2 ⟨A2, c2, rfl, hrt, hbl, htu⟩)
                        go_roundw
                        case rel => exact ⟨i + 1, t3, A2, c2, _, _, rfl, by go_num, Lib.hid (HO.out.go hlt HTm.out ht3 (show ¬ d < last from by have := hnl.out; omega) HNM.out hrt hbl htu)⟩
                        case measure => simp [intOf]; omega
                  · have hp1 : ¬ (0 : Int) < (i : Int) := by omega
                    have hl0 : last = -9223372036854775808 := HO.out.last0 (by have := HO.out.len; omega)
                    have hnl : Hid (¬ d < last) := Lib.hid (by omega)
                    clear hl0
                    by_cases hnm : named P ⟨s.toArray⟩ (m : Int)
                    · have HX := Lib.hid (HO.out.there hlt HTm.out (show ¬ d < last from by have := hnl.out; omega) hnm)
                      have HSt := Lib.hid (rtSet_there wr r A1 c1 P HO.out.rt d ⟨s.toArray⟩ (m : Int) (by omega) hnm)
                      clear hnm
                      go_wp2_with (go_at_call 25; refine HSt.out.mono ?_; rintro e w2 ⟨rfl, rfl⟩)
                      go_ret3
                      exact ROpenY.er HX.out HO.out.B
                    · have HNM := Lib.hid hnm
                      have HSt := Lib.hid (rtSet_ok wr r A1 c1 P HO.out.rt d ⟨s.toArray⟩ (m : Int) (by omega) hnm (by have := HO.out.len; omega))
                      clear hnm
                      go_wp2_with (go_at_call 25; refine HSt.out.mono ?_; rintro e w2 ⟨A2, c2, rfl, hrt, hbl, htu⟩)
                      go_roundw
                      case rel => exact ⟨i + 1, t3, A2, c2, _, _, rfl, by go_num, Lib.hid (HO.out.go hlt HTm.out ht3 (show ¬ d < last from by have := hnl.out; omega) HNM.out hrt hbl htu)⟩
                      case measure => simp [intOf]; omega
        · obtain rfl : i = n := by omega
          have hlt1 : ¬ (i : Int) < (i : Int) := by omega
          have HEQ : Hid (rdTab l = if a < l.length then .error (a, 3) else .ok (P, a)) := Lib.hid (by rw [HO.out.eq, Nat.sub_self]; rfl)
          by_cases hae : a < l.length
          · have hae1 : (a : Int) < (l.length : Int) := by omega
            have HX : Hid (rdTab l = .error (a, 3)) := Lib.hid (by rw [HEQ.out, if_pos hae])
            clear hae HEQ
            go_wp2_with fail
            go_ret3
            exact ROpenY.er HX.out HO.out.B
          · have hae1 : ¬ (a : Int) < (l.length : Int) := by omega
            have HX : Hid (rdTab l = .ok (P, a)) := Lib.hid (by rw [HEQ.out, if_neg hae])
            clear hae HEQ
            go_wp2_with fail
            go_ret3
            unfold ROpenY
            rw [HX.out]
            exact ⟨⟨r, A1, c1, rfl, HO.out.rt, HO.out.low⟩, HO.out.B⟩
end Go.Proofs.Yteondokncalbnaa

namespace Go.Proofs.Yteondokncalbnaa
open Go.RowKit

theorem own_cell {w : World} {base n g cap size : Nat} {e : TypeId} {xs : List Value} (h : w.ownsRow base e size (.slice (some ⟨g, 0, none⟩) n cap) n xs) {j : Nat} (hj : j < n * size) : ∃ u, w.cell? ⟨g, j, none⟩ = some u := by
  have := h.cellAt j hj
  have hl : j < xs.length := by have := h.1; omega
  rw [List.getElem?_eq_getElem hl] at this
  exact ⟨_, this⟩
theorem bytesV_cell {l : List UInt8} {j : Nat} (hj : j < l.length) : (Cd.bytesV l)[j]? = some (.int .u8 (l[j].toNat : Int)) := by simp [Cd.bytesV, Cd.byteV, hj]

set_option maxRecDepth 20000 in
set_option maxHeartbeats 8000000 in
theorem told_any (w : World) (t : Nat) (S : Nat → Prop) (L : List Lt) (N : Nat) (h : TL w t S L N) (r : Nat) (A : Option Addr) (c : Nat) (hr : RT w r A c L) (hf : ∀ x ∈ L, FitL x) :
    Calls Try.prog 22 #[.pointer (some ⟨t, 0, none⟩), .pointer (some ⟨r, 0, none⟩)] w fun e w' => e = .returned (.bool true) ∧ Below w.heap.size w w' := by
  have HT := Lib.hid h
  have HR := Lib.hid hr
  have HF := Lib.hid hf
  have HA := Lib.hid (allL w t S L N h)
  have hlim := h.lim
  have hcap := hr.cap
  have HLo := Lib.hid h.lts
  have HLo2 : Hid (0 < L.length → ∀ i, RSet r A i → i < w.heap.size) := Lib.hid (fun h0 i hi => by
    rcases hi with rfl | ⟨x, e, rfl⟩
    · exact hr.lt
    · obtain ⟨g, o, e2, hg, _⟩ := hr.at_ (i := 0) h0
      rw [e2] at e
      injection e with e
      subst e
      exact hg)
  clear h hr hf
  go_enter Try.func22, Try.ntmps22
  go_wp2_with fail
  refine HA.out.mono ?_
  rintro e w1 ⟨A1, c1, rfl, ho1, hb⟩
  have HO := Lib.hid ho1
  have HB := Lib.hid hb
  have HT := Lib.hid (HT.out.bel hb)
  have HR := Lib.hid (HR.out.bel hb)
  clear ho1 hb HA
  have HN := Lib.hid (nextL w1 t S L N HT.out)
  go_wp2_with fail
  refine HN.out.mono ?_
  rintro e w2 ⟨rfl, hb⟩
  have HO := Lib.hid (own_turns HO.out (.of_below (S := fun _ => False) hb) (fun _ _ => id))
  have HB := Lib.hid (below_trans' HB.out hb)
  have HT := Lib.hid (HT.out.bel hb)
  have HR := Lib.hid (HR.out.bel hb)
  clear hb HN
  have HN2 := Lib.hid (rtNext w2 r A c L HR.out)
  go_wp2_with fail
  refine HN2.out.mono ?_
  rintro e w3 ⟨rfl, rfl⟩
  clear HN2
  have hcapA : L.length ≤ c1 ∧ c1 ≤ maxLen := by
    rcases HO.out.2 with ⟨e, e2⟩ | ⟨g, cap', cur, e, _, _, h5, h6, _⟩
    · injection e with _ _ e3; subst e3; unfold maxLen; omega
    · injection e with _ _ e3; subst e3; exact ⟨h5, h6⟩
  have HSm : Hid (∀ n, Calls Try.prog 28 #[.slice A1 L.length c1, .slice A L.length c] (w3.drewN n) fun e w'' => e = .returned (.bool true) ∧ ∃ m, w'' = w3.drewN m) := Lib.hid (fun n =>
    (rtSame (w3.drewN n) A1 A c1 c L.length L rfl ((Tms.of_own HO.out rfl).keep ((Turns.refl (fun _ => False) _).drewN n) (fun _ _ => id)) (HR.out.row.keep ((Turns.refl (fun _ => False) _).drewN n) (fun _ _ => id)) hcapA hcap).mono fun _ _ ⟨he, j, hj⟩ => ⟨he, n + j, by rw [hj, World.drewN_drewN]⟩)
  have HLn : Hid (∀ n, Calls Try.prog 13 #[.pointer (some ⟨t, 0, none⟩)] (w3.drewN n) fun e w'' => e = .returned (.int .i64 (L.length : Int)) ∧ ∃ m, w'' = w3.drewN m) := Lib.hid (fun n =>
    (lenL (w3.drewN n) t S L N (HT.out.bel (below_drewN' (Below.refl _ _) n))).mono fun _ _ ⟨he, hj⟩ => ⟨he, n, hj⟩)
  have hc0 := HR.out.c0
  generalize hnd : nextD L = nd at *
  generalize hpo : decide (0 < L.length) = po at *
  clear hnd hpo
  go_wp2_with fail
  go_quiet (first | (go_at_call 28; exact HSm.out _) | (go_at_call 13; exact HLn.out _))
  have hbq := below_drewN' (Below.refl w3.heap.size w3) nq
  have HO := Lib.hid (own_turns HO.out (.of_below (S := fun _ => False) hbq) (fun _ _ => id))
  have HB := Lib.hid (below_trans' HB.out hbq)
  have HT := Lib.hid (HT.out.bel hbq)
  have HR := Lib.hid (HR.out.bel hbq)
  clear hbq HSm HLn hc0
  generalize w3.drewN nq = V at *
  generalize hnn : L.length = n at *
  have HNN := Lib.hid hnn
  clear hnn
  go_wp2_with fail
  go_loopw [10] (fun iv wr => ∃ (i : Nat) (xs : List Value), i ≤ n ∧ iv = .int .i64 (i : Int) ∧ Hid (wr.ownsRow w.heap.size 31 3 (.slice A1 n c1) n xs) ∧ Hid (TL wr t S L N) ∧ Hid (RT wr r A c L) ∧ Hid (Below w.heap.size w wr)) (fun iv _ => n - (intOf iv).toNat)
  case atStart => exact ⟨0, _, Nat.zero_le _, rfl, HO, HT, HR, HB⟩
  case round =>
    clear HO HT HR HB
    obtain ⟨i, xs, hi, rfl, HO, HT, HR, HB⟩ := hrel
    by_cases hlt : i < n
    · have hlt1 : (i : Int) < (n : Int) := by omega
      obtain ⟨g, c0, e, vb, hg, hn1, hm1⟩ := own_at HO.out (by omega)
      injection e with e1 _ e3
      subst e1 e3
      obtain ⟨u0, d0⟩ := own_cell HO.out (j := i * 3) (by omega)
      obtain ⟨u1, d1⟩ := own_cell HO.out (j := i * 3 + 1) (by omega)
      obtain ⟨u2, d2⟩ := own_cell HO.out (j := i * 3 + 2) (by omega)
      have z0 := HO.out.frozenAt (i * 3)
      have z1 := HO.out.frozenAt (i * 3 + 1)
      have z2 := HO.out.frozenAt (i * 3 + 2)
      unfold maxLen at hm1
      have hgb := (own_geT HO.out vb).1
      go_wp2_with fail
      have TS : Turns (fun j => j = g) wr (((wr.setCell ⟨g, i * 3, none⟩ (.int .i64 1)).setCell ⟨g, i * 3 + 1, none⟩ (.string ⟨#[119, 114, 105, 116, 116, 101, 110, 32, 111, 118, 101, 114]⟩)).setCell ⟨g, i * 3 + 2, none⟩ (.int .i64 0)) := ((Turns.of_set (S := fun j => j = g) wr ⟨g, i * 3, none⟩ _ rfl).then (Turns.of_set (S := fun j => j = g) _ ⟨g, i * 3 + 1, none⟩ _ rfl)).then (Turns.of_set (S := fun j => j = g) _ ⟨g, i * 3 + 2, none⟩ _ rfl)
      refine ⟨⟨i + 1, _, by omega, by go_num, Lib.hid (((HO.out.stored (i * 3) _).1.stored (i * 3 + 1) _).1.stored (i * 3 + 2) _).1, Lib.hid (HT.out.keep TS (fun j hj e => ?_)), Lib.hid (HR.out.keep TS (fun j hj e => ?_)), Lib.hid ?_⟩, ?_⟩
      · have := HLo.out j hj; subst e; omega
      · have := HLo2.out (by omega) j hj; subst e; omega
      · exact ((HB.out.setCell (p := ⟨g, i * 3, none⟩) hgb _).setCell (p := ⟨g, i * 3 + 1, none⟩) hgb _).setCell (p := ⟨g, i * 3 + 2, none⟩) hgb _
      · simp [intOf]; omega
    · obtain rfl : i = n := by omega
      have hlt1 : ¬ (i : Int) < (i : Int) := by omega
      have HBy := Lib.hid (bytesL wr t S L N HT.out HF.out)
      have HBR : Hid (∀ W, Below wr.heap.size wr W → Calls Try.prog 46 #[.pointer (some ⟨r, 0, none⟩)] W (BytesY W (tabB L))) := Lib.hid (fun W hW => rtBytes W r A c L (HR.out.bel hW) HF.out)
      have hlen := tabB_le HF.out (by rw [HNN.out]; exact hlim)
      generalize tabB L = l at *
      clear HO
      go_wp2_with (go_at_call 19; refine HBy.out.mono ?_; rintro e w5 ⟨A2, c2, rfl, ho2, hb2⟩)
      have HO2 := Lib.hid ho2
      have HB2 := Lib.hid hb2
      clear ho2 hb2 HBy
      have K1 : Hid (∀ W, Below w5.heap.size w5 W → (convert 47 9 (.slice A2 l.length c2)).run Try.prog W = .ok (.string ⟨l.toArray⟩) W) := Lib.hid (fun W hW => ((in_own HO2.out rfl).below hW).conv)
      have k1 : (convert 47 9 (.slice A2 l.length c2)).run Try.prog w5.drew = .ok (.string ⟨l.toArray⟩) w5.drew := K1.out _ (below_drewN' (Below.refl w5.heap.size w5) 1)
      go_region_law (go_simp; go_at_call 46; refine (HBR.out _ (HB2.out.trans ((below_drewN' (Below.refl _ w5) 1).mono HB2.out.size))).mono ?_; rintro e w6 ⟨A3, c3, rfl, ho3, hb3⟩; have hB6 : Below w5.heap.size w5 w6 := below_trans' (below_drewN' (Below.refl w5.heap.size w5) 1) hb3; have k3 := (in_own ho3 rfl).conv; unfold strV at k3; have k4 := K1.out _ hB6)
      all_goals
        have HO6 := Lib.hid (own_turns HO2.out (.of_below (S := fun _ => False) hB6) (fun _ _ => id))
        have HB6 : Hid (Below w.heap.size w w6) := Lib.hid (HB.out.trans ((HB2.out.trans (hB6.mono HB2.out.size)).mono HB.out.size))
        have hwb : w.heap.size ≤ wr.heap.size := HB.out.size
        generalize wr.heap.size = b1 at *
        clear k3 hB6 ho3 hb3 HT HR HB HB2 HBR K1 HO2
        obtain ⟨m, hm⟩ : ∃ m, l.length = m := ⟨_, rfl⟩
        have HMM := Lib.hid hm
        generalize Cd.bytesV l = bs at *
        simp only [hm] at HO6 hlen ⊢
        clear hm
        go_wp2_with fail
        go_loopw [12] (fun iv wr => ∃ (j : Nat) (xs : List Value), j ≤ m ∧ iv = .int .i64 (j : Int) ∧ Hid (wr.ownsRow b1 5 1 (.slice A2 m c2) m xs) ∧ Hid (Below w.heap.size w wr)) (fun iv _ => m - (intOf iv).toNat)
        case atStart => exact ⟨0, _, Nat.zero_le _, rfl, HO6, HB6⟩
        case round =>
          clear HO6 HB6
          obtain ⟨j, ys, hj, rfl, HO, HB⟩ := hrel
          by_cases hjt : j < m
          · have hjt1 : (j : Int) < (m : Int) := by omega
            obtain ⟨g, c0, e, vb, hg, hn1, hm1⟩ := own_at HO.out (by omega)
            injection e with e1 _ e3
            subst e1 e3
            obtain ⟨u0, d0⟩ := own_cell HO.out (j := j) (by omega)
            have z0 := HO.out.frozenAt j
            unfold maxLen at hm1
            have hgb := (own_geT HO.out vb).1
            go_wp2_with fail
            exact ⟨⟨j + 1, _, by omega, by go_num, Lib.hid (HO.out.stored j _).1, Lib.hid (HB.out.setCell (p := ⟨g, j, none⟩) (Nat.le_trans hwb hgb) _)⟩, by simp [intOf]; omega⟩
          · have hjt1 : ¬ (j : Int) < (m : Int) := by omega
            go_wp2_with fail
            go_ret
            exact ⟨rfl, HB.out⟩
end Go.Proofs.Yteondokncalbnaa

namespace Go.Proofs.Yteondokncalbnaa
open Go.RowKit

theorem rdTm_fit {l : List UInt8} {a t : Nat} {x : Lt} (hl : l.length ≤ 1000000) (h : rdTm l a = .ok (x, t)) : FitL x := by
  unfold rdTm at h
  cases h1 : Cd.rdInt l a with
  | error e => rw [h1] at h; cases h
  | ok q =>
    obtain ⟨d, t1⟩ := q
    rw [h1] at h
    simp only at h
    cases h2 : Cd.rdText l t1 with
    | error e => rw [h2] at h; cases h
    | ok q =>
      obtain ⟨s, t2⟩ := q
      rw [h2] at h
      simp only at h
      cases h3 : Cd.rdUint l t2 with
      | error e => rw [h3] at h; cases h
      | ok q =>
        obtain ⟨n, t3⟩ := q
        rw [h3] at h
        simp only at h
        by_cases hn : 9223372036854775807 < n
        · rw [if_pos hn] at h; cases h
        · rw [if_neg hn] at h
          injection h with h
          injection h with h4 _
          subst h4
          have := (rdText_le h2).2
          refine ⟨rdInt_in h1, ?_, by simp only; omega, by simp only; omega⟩
          show s.toArray.size ≤ 1000000
          simp
          omega
theorem rdTms_fit {l : List UInt8} (hl : l.length ≤ 1000000) : ∀ (n a : Nat) (last : Int) (P L : List Lt) (t : Nat), (∀ x ∈ P, FitL x) → rdTms l n a last P = .ok (L, t) → ∀ x ∈ L, FitL x
  | 0, a, last, P, L, t, hP, h => by
    unfold rdTms at h
    by_cases ha : a < l.length
    · rw [if_pos ha] at h; cases h
    · rw [if_neg ha] at h
      injection h with h
      injection h with h1 _
      subst h1
      exact hP
  | n + 1, a, last, P, L, t, hP, h => by
    unfold rdTms at h
    cases h1 : rdTm l a with
    | error e => rw [h1] at h; cases h
    | ok q =>
      obtain ⟨x, t1⟩ := q
      rw [h1] at h
      simp only at h
      by_cases hx : x.1 < last
      · rw [if_pos hx] at h; cases h
      · rw [if_neg hx] at h
        by_cases hn : namedB P x.2.1 x.2.2 = true
        · rw [if_pos hn] at h; cases h
        · rw [if_neg hn] at h
          refine rdTms_fit hl n t1 x.1 (P ++ [x]) L t (fun y hy => ?_) h
          rcases List.mem_append.1 hy with hy | hy
          · exact hP y hy
          · simp at hy; subst hy; exact rdTm_fit hl h1
theorem rdTab_fit {l : List UInt8} (hl : l.length ≤ 1000000) {L : List Lt} {t : Nat} (h : rdTab l = .ok (L, t)) : ∀ x ∈ L, FitL x := by
  unfold rdTab at h
  cases h1 : Cd.rdUint l 0 with
  | error e => rw [h1] at h; cases h
  | ok q =>
    obtain ⟨n, t1⟩ := q
    rw [h1] at h
    simp only at h
    by_cases hn : 4096 < n
    · rw [if_pos hn] at h; cases h
    · rw [if_neg hn] at h
      exact rdTms_fit hl n t1 _ [] L t (by simp) h
theorem rdTms_errno {l : List UInt8} : ∀ (n a : Nat) (last : Int) (P : List Lt) (p en : Nat), a ≤ l.length → rdTms l n a last P = .error (p, en) → en ≠ 0
  | 0, a, last, P, p, en, ha, h => by
    unfold rdTms at h
    by_cases ha : a < l.length
    · rw [if_pos ha] at h; injection h with h; injection h with _ h; omega
    · rw [if_neg ha] at h; cases h
  | n + 1, a, last, P, p, en, ha, h => by
    unfold rdTms at h
    cases h1 : rdTm l a with
    | error e =>
      rw [h1] at h
      injection h with h
      subst h
      unfold rdTm at h1
      cases g1 : Cd.rdInt l a with
      | error e => rw [g1] at h1; injection h1 with h1; subst h1; have := (rdInt_er ha g1).2; omega
      | ok q =>
        obtain ⟨d, t1⟩ := q
        rw [g1] at h1
        simp only at h1
        have e1 := rdInt_le g1
        cases g2 : Cd.rdText l t1 with
        | error e => rw [g2] at h1; injection h1 with h1; subst h1; have := (rdText_er e1 g2).2; omega
        | ok q =>
          obtain ⟨s, t2⟩ := q
          rw [g2] at h1
          simp only at h1
          have e2 := (rdText_le g2).1
          cases g3 : Cd.rdUint l t2 with
          | error e => rw [g3] at h1; injection h1 with h1; subst h1; have := (rdUint_er e2 g3).2; omega
          | ok q =>
            obtain ⟨m, t3⟩ := q
            rw [g3] at h1
            simp only at h1
            split at h1
            · injection h1 with h1; injection h1 with _ h1; omega
            · cases h1
    | ok q =>
      obtain ⟨x, t1⟩ := q
      rw [h1] at h
      simp only at h
      have ht : t1 ≤ l.length := by
        unfold rdTm at h1
        cases g1 : Cd.rdInt l a with
        | error e => rw [g1] at h1; cases h1
        | ok q =>
          obtain ⟨d, t1⟩ := q
          rw [g1] at h1
          simp only at h1
          cases g2 : Cd.rdText l t1 with
          | error e => rw [g2] at h1; cases h1
          | ok q =>
            obtain ⟨s, t2⟩ := q
            rw [g2] at h1
            simp only at h1
            cases g3 : Cd.rdUint l t2 with
            | error e => rw [g3] at h1; cases h1
            | ok q =>
              obtain ⟨m, t3⟩ := q
              rw [g3] at h1
              simp only at h1
              split at h1
              · cases h1
              · injection h1 with h1; injection h1 with _ h1; subst h1; exact rdUint_le g3
      split at h
      · injection h with h; injection h with _ h; omega
      · split at h
        · injection h with h; injection h with _ h; omega
        · exact rdTms_errno n t1 _ _ p en ht h
theorem rdTab_errno {l : List UInt8} {p en : Nat} (h : rdTab l = .error (p, en)) : en ≠ 0 := by
  unfold rdTab at h
  cases h1 : Cd.rdUint l 0 with
  | error e => rw [h1] at h; injection h with h; subst h; have := (rdUint_er (Nat.zero_le _) h1).2; omega
  | ok q =>
    obtain ⟨n, t1⟩ := q
    rw [h1] at h
    simp only at h
    split at h
    · injection h with h; injection h with _ h; omega
    · exact rdTms_errno n t1 _ [] p en (rdUint_le h1) h

theorem opens_long (a : Option Addr) (len cap : Nat) (w : World) (hl : 20000 < (len : Int)) : Calls Try.prog 5 #[.slice a len cap] w fun e w' => e = .returned (.bool true) ∧ Below w.heap.size w w' := by
  go_enter Try.func5, Try.ntmps5
  go_wp2_with fail
  refine (awake_any w).mono ?_
  rintro e w1 ⟨rfl, hb⟩
  have HB := Lib.hid hb
  clear hb
  go_wp2_with fail
  go_ret
  exact ⟨rfl, HB.out⟩
set_option maxRecDepth 20000 in
set_option maxHeartbeats 4000000 in
theorem opens_short (A : Option Addr) (cap : Nat) (l : List UInt8) (w : World) (h : In w A l.length cap l) (hl : ¬ 20000 < (l.length : Int)) : Calls Try.prog 5 #[.slice A l.length cap] w fun e w' => e = .returned (.bool true) ∧ Below w.heap.size w w' := by
  have hsz : l.length ≤ 1000000 := by omega
  have II := Lib.hid h
  clear h
  go_enter Try.func5, Try.ntmps5
  go_wp2_with fail
  refine (awake_any w).mono ?_
  rintro e w1 ⟨rfl, hb⟩
  have II := Lib.hid (II.out.below hb)
  have HB := Lib.hid hb
  clear hb
  have H1 := Lib.hid (open_any w1 A cap l II.out hsz)
  go_wp2_with fail
  refine H1.out.mono ?_
  rintro e w2 ho
  have hb := ho.2
  have II := Lib.hid (II.out.below hb)
  have HB := Lib.hid (below_trans' HB.out hb)
  have H2 := Lib.hid (rtOpen w2 A cap l II.out hsz)
  clear hb H1
  rcases hr : rdTab l with ⟨p, en⟩ | ⟨L, to⟩
  · have hne := rdTab_errno hr
    have hen : ((en : Int) != 0) = true := by rw [bne_iff_ne]; omega
    have HRR := Lib.hid hr
    unfold OpenY at ho
    rw [hr] at ho
    obtain ⟨rfl, _⟩ := ho
    clear hr hne
    go_wp2_with fail
    refine H2.out.mono ?_
    rintro e w3 ho
    unfold ROpenY at ho
    rw [HRR.out] at ho
    obtain ⟨rfl, hb⟩ := ho
    have HB := Lib.hid (below_trans' HB.out hb)
    clear hb
    go_wp2_with fail
    go_ret
    exact ⟨rfl, HB.out⟩
  · have HFt := Lib.hid (rdTab_fit hsz hr)
    have HRR := Lib.hid hr
    unfold OpenY at ho
    rw [hr] at ho
    obtain ⟨⟨t, S, rfl, ht, _⟩, _⟩ := ho
    have HT := Lib.hid ht
    clear hr ht
    go_wp2_with fail
    refine H2.out.mono ?_
    rintro e w3 ho
    unfold ROpenY at ho
    rw [HRR.out] at ho
    obtain ⟨⟨r, A3, c3, rfl, hrt, _⟩, hb⟩ := ho
    have HB := Lib.hid (below_trans' HB.out hb)
    have HTo := Lib.hid (told_any w3 t S L L.length (HT.out.bel hb) r A3 c3 hrt HFt.out)
    clear hb hrt
    go_wp2_with fail
    refine HTo.out.mono ?_
    rintro e w4 ⟨rfl, hb⟩
    have HB := Lib.hid (below_trans' HB.out hb)
    clear hb
    go_wp2_with fail
    go_ret
    exact ⟨rfl, HB.out⟩
theorem opens_of (a : Option Addr) (len cap : Nat) (zs : List Int) (w : World) (h : Came w a len cap zs) :
    Calls Try.prog 5 #[.slice a len cap] w fun e w' => e = .returned (.bool true) ∧ Below w.heap.size w w' := by
  by_cases hl : 20000 < (len : Int)
  · exact opens_long a len cap w hl
  · obtain ⟨l, hin⟩ := came_in h
    obtain rfl := hin.bs.len
    exact opens_short a cap l w hin (by omega)
end Go.Proofs.Yteondokncalbnaa
