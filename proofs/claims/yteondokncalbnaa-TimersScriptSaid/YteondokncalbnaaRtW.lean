/- TimersScript: the document's Open, Drop, DropAll, Due, the law's told, the steps, both tables side by side, the script (texts put together). -/
import Derived.Test.YteondokncalbnaaRtA
import Derived.Test.YteondokncalbnaaCodeRefs
import Derived.Deep.RegionHeld3
import Derived.Test.YteondokncalbnaaRows
import Derived.Deep.Slices
import Derived.Deep.Fields
import Derived.ChangeSame
import Derived.OpenShut
namespace Go.Proofs.Yteondokncalbnaa
open Go.RowKit

def ROpenY (w : World) (l : List UInt8) (e : Ending) (w' : World) : Prop :=
  (match rdTab l with
  | .ok (L, n) => ∃ r A c, e = .returned (.tuple #[.pointer (some ⟨r, 0, none⟩), .int .i64 (n : Int), .int .i64 0]) ∧ RT w' r A c L ∧ (∀ i, RSet r A i → w.heap.size ≤ i)
  | .error (p, en) => e = .returned (.tuple #[.pointer none, .int .i64 (p : Int), .int .i64 (en : Int)])) ∧ Below w.heap.size w w'
theorem ROpenY.er {w w' : World} {l : List UInt8} {p en : Nat} (h : rdTab l = .error (p, en)) (hb : Below w.heap.size w w') : ROpenY w l (.returned (.tuple #[.pointer none, .int .i64 (p : Int), .int .i64 (en : Int)])) w' := by
  unfold ROpenY
  rw [h]
  exact ⟨rfl, hb⟩
theorem rdTm_e1 {l : List UInt8} {a p en : Nat} (h : Cd.rdInt l a = .error (p, en)) : rdTm l a = .error (p, en) := by unfold rdTm; rw [h]
theorem rdTm_e2 {l : List UInt8} {a t1 p en : Nat} {d : Int} (h1 : Cd.rdInt l a = .ok (d, t1)) (h : Cd.rdText l t1 = .error (p, en)) : rdTm l a = .error (p, en) := by unfold rdTm; rw [h1]; simp only; rw [h]
theorem rdTm_e3 {l : List UInt8} {a t1 t2 p en : Nat} {d : Int} {s : List UInt8} (h1 : Cd.rdInt l a = .ok (d, t1)) (h2 : Cd.rdText l t1 = .ok (s, t2)) (h : Cd.rdUint l t2 = .error (p, en)) : rdTm l a = .error (p, en) := by unfold rdTm; rw [h1]; simp only; rw [h2]; simp only; rw [h]
theorem rdTm_e4 {l : List UInt8} {a t1 t2 t3 n : Nat} {d : Int} {s : List UInt8} (h1 : Cd.rdInt l a = .ok (d, t1)) (h2 : Cd.rdText l t1 = .ok (s, t2)) (h : Cd.rdUint l t2 = .ok (n, t3)) (hn : 9223372036854775807 < n) : rdTm l a = .error (t2, 1) := by unfold rdTm; rw [h1]; simp only; rw [h2]; simp only; rw [h]; simp only; rw [if_pos hn]
theorem rdTm_ok {l : List UInt8} {a t1 t2 t3 n : Nat} {d : Int} {s : List UInt8} (h1 : Cd.rdInt l a = .ok (d, t1)) (h2 : Cd.rdText l t1 = .ok (s, t2)) (h : Cd.rdUint l t2 = .ok (n, t3)) (hn : ¬ 9223372036854775807 < n) : rdTm l a = .ok ((d, ⟨s.toArray⟩, (n : Int)), t3) := by unfold rdTm; rw [h1]; simp only; rw [h2]; simp only; rw [h]; simp only; rw [if_neg hn]

/-- how far the document's Open is -/
structure OI (w wr : World) (l : List UInt8) (r n i a : Nat) (A : Option Addr) (c : Nat) (P : List Lt) (last : Int) : Prop where
  rt : RT wr r A c P
  low : ∀ j, RSet r A j → w.heap.size ≤ j
  B : Below w.heap.size w wr
  eq : rdTab l = rdTms l (n - i) a last P
  len : P.length = i
  le : i ≤ n
  at_ : a ≤ l.length
  top : ∀ y ∈ P, y.1 ≤ last
  last1 : ∀ (h : 0 < P.length), last = (P[P.length - 1]'(by omega)).1
  last0 : P.length = 0 → last = -9223372036854775808
theorem OI.er {w wr : World} {l : List UInt8} {r n i a : Nat} {A : Option Addr} {c : Nat} {P : List Lt} {last : Int} (h : OI w wr l r n i a A c P last) (hi : i < n) {p en : Nat} (hr : rdTm l a = .error (p, en)) : rdTab l = .error (p, en) := by
  rw [h.eq, show n - i = (n - i - 1) + 1 from by omega]
  exact rdTms_er hr
theorem OI.low' {w wr : World} {l : List UInt8} {r n i a : Nat} {A : Option Addr} {c : Nat} {P : List Lt} {last : Int} (h : OI w wr l r n i a A c P last) (hi : i < n) {x : Lt} {to : Nat} (hr : rdTm l a = .ok (x, to)) (hl : x.1 < last) : rdTab l = .error (a, 3) := by
  rw [h.eq, show n - i = (n - i - 1) + 1 from by omega]
  exact rdTms_low hr hl
theorem OI.there {w wr : World} {l : List UInt8} {r n i a : Nat} {A : Option Addr} {c : Nat} {P : List Lt} {last : Int} (h : OI w wr l r n i a A c P last) (hi : i < n) {x : Lt} {to : Nat} (hr : rdTm l a = .ok (x, to)) (hl : ¬ x.1 < last) (hn : named P x.2.1 x.2.2) : rdTab l = .error (a, 6) := by
  rw [h.eq, show n - i = (n - i - 1) + 1 from by omega]
  exact rdTms_there hr hl hn
theorem OI.go {w wr wr' : World} {l : List UInt8} {r n i a : Nat} {A A' : Option Addr} {c c' : Nat} {P : List Lt} {last : Int} (h : OI w wr l r n i a A c P last) (hi : i < n) {x : Lt} {to : Nat} (hr : rdTm l a = .ok (x, to)) (hto : to ≤ l.length) (hl : ¬ x.1 < last) (hn : ¬ named P x.2.1 x.2.2)
    (h2 : RT wr' r A' c' (insL P x)) (hlow : ∀ j, blkOf A' j → wr.heap.size ≤ j) (ht : Turns (fun j => j = r) wr wr') : OI w wr' l r n (i + 1) to A' c' (P ++ [x]) x.1 := by
  have he : insL P x = P ++ [x] := insL_end (fun y hy => by have := h.top y hy; omega)
  rw [he] at h2
  refine ⟨h2, ?_, ?_, ?_, by rw [List.length_append, h.len]; rfl, hi, hto, ?_, ?_, ?_⟩
  · rintro j (rfl | hj)
    · exact h.low j (.inl rfl)
    · exact Nat.le_trans h.B.size (hlow j hj)
  · have := (Turns.of_below (S := fun j => w.heap.size ≤ j) h.B).then (ht.mono (fun j _ e => by subst e; exact h.low j (.inl rfl)))
    exact this.below (Nat.le_refl _) (fun _ _ e => e)
  · rw [h.eq, show n - i = (n - (i + 1)) + 1 from by omega]
    exact rdTms_go hr hl hn
  · intro y hy
    rcases List.mem_append.1 hy with hy | hy
    · have := h.top y hy; omega
    · simp at hy; subst hy; exact Int.le_refl _
  · intro _
    simp
  · intro e; simp at e
def oneT (d : Int) (s : List UInt8) (n : Nat) : Lt := (d, ⟨s.toArray⟩, (n : Int))

set_option maxRecDepth 20000 in
set_option maxHeartbeats 8000000 in
theorem rtOpen (w : World) (A : Option Addr) (c : Nat) (l : List UInt8) (h : In w A l.length c l) (hl : l.length ≤ 1000000) :
    Calls Try.prog 21 #[.slice A l.length c] w (ROpenY w l) := by
  have II := Lib.hid h
  have hl3 : (l.length : Int) ≤ 1000000 := by omega
  have HC := Lib.hid (refUint_any w A l.length c l 0 h.bs (Nat.zero_le _) hl)
  clear h
  rcases hu : Cd.rdUint l 0 with ⟨p, en⟩ | ⟨n, t⟩
  · have hen : ((en : Int) != 0) = true := by rw [bne_iff_ne]; have := rdUint_errno hu; omega
    have HR : Hid (rdTab l = .error (p, en)) := Lib.hid (by unfold rdTab; rw [hu])
    have HS := Lib.hid hu
    clear hu
    go_enter Try.func21, Try.ntmps21
    go_wp2_with fail
    refine HC.out.mono ?_
    rintro e w' ⟨hs, rfl⟩
    obtain rfl := hs.of_error HS.out
    go_wp2_with fail
    go_ret3
    exact ROpenY.er HR.out (Below.refl _ _)
  · have hlt := Cd.rdUint_lt hu
    have HS := Lib.hid hu
    by_cases hn : 4096 < n
    · have HR : Hid (rdTab l = .error (0, 2)) := Lib.hid (by unfold rdTab; rw [hu]; simp only; rw [if_pos hn])
      have hn1 : (4096 : Int) < (n : Int) := by omega
      clear hu hn hlt
      go_enter Try.func21, Try.ntmps21
      go_wp2_with fail
      refine HC.out.mono ?_
      rintro e w' ⟨hs, rfl⟩
      obtain rfl := hs.of_ok HS.out
      unfold u64V
      go_wp2_with fail
      go_ret3
      exact ROpenY.er HR.out (Below.refl _ _)
    · have HR : Hid (rdTab l = rdTms l n t (-9223372036854775808) []) := Lib.hid (rdTab_n hu hn)
      have hn1 : ¬ (4096 : Int) < (n : Int) := by omega
      have hn2 : n ≤ 4096 := by omega
      have hcv : IntKind.i64.wrap (n : Int) = (n : Int) := wrap_i64' _ (by omega) (by omega)
      have ht := hlt.2.2
      clear hu hn hlt
      go_enter Try.func21, Try.ntmps21
      go_wp2_with fail
      refine HC.out.mono ?_
      rintro e w' ⟨hs, rfl⟩
      obtain rfl := hs.of_ok HS.out
      unfold u64V
      clear HC hs
      go_wp2_with fail
      have hB := Below.new w (.cells #[.slice none 0 0] 60)
      have hlw : ∀ j, RSet w.heap.size none j → w.heap.size ≤ j := fun j hj => by
        rcases hj with rfl | ⟨x, e, _⟩
        · exact Nat.le_refl _
        · cases e
      have O0 : Hid (OI w (w.alloc (.cells #[.slice none 0 0] 60)) l w.heap.size n 0 t none 0 [] (-9223372036854775808)) := Lib.hid
        ⟨⟨Blk.new w 60 [.slice none 0 0], Tms.nil _ _, by unfold maxLen; simp, List.Pairwise.nil, by simp⟩, hlw, hB, HR.out, rfl, Nat.zero_le _, ht, by simp, fun h => absurd h (by simp), fun _ => rfl⟩
      clear hB hlw
      generalize hrr : w.heap.size = r at *
      generalize w.alloc (.cells #[.slice none 0 0] 60) = W0 at *
      go_loopw [6, 9] (fun at_ iv wr => ∃ (i a : Nat) (A1 : Option Addr) (c1 : Nat) (P : List Lt) (last : Int), at_ = .int .i64 (a : Int) ∧ iv = .int .i64 (i : Int) ∧ Hid (OI w wr l r n i a A1 c1 P last)) (fun _ iv _ => n - (intOf iv).toNat)
      case atStart => exact ⟨0, t, none, 0, [], _, rfl, rfl, O0⟩
      case round =>
        obtain ⟨i, a, A1, c1, P, last, rfl, rfl, HO⟩ := hrel
        have hle := HO.out.le
        have hal := HO.out.at_
        have hi1 : (i : Int) ≤ 4096 := by omega
        have ha1 : (a : Int) ≤ 1000000 := by omega
        by_cases hlt : i < n
        · have hlt1 : (i : Int) < (n : Int) := by omega
          have IW := Lib.hid (II.out.below HO.out.B)
          have HC1 := Lib.hid (refInt_any wr A l.length c l a IW.out.bs hal hl)
          rcases h1 : Cd.rdInt l a with ⟨p, en⟩ | ⟨d, t1⟩
          · have hen : ((en : Int) != 0) = true := by rw [bne_iff_ne]; have := (rdInt_er hal h1).2; omega
            have HX := Lib.hid (HO.out.er hlt (rdTm_e1 h1))
            have HS1 := Lib.hid h1
            clear h1
            go_wp2_with fail
            refine HC1.out.mono ?_
            rintro e w' ⟨hs, rfl⟩
            obtain rfl := hs.of_error HS1.out
            go_wp2_with fail
            go_ret3
            exact ROpenY.er HX.out HO.out.B
          · have HS1 := Lib.hid h1
            have ht1 : t1 ≤ l.length := rdInt_le h1
            have HC2 := Lib.hid (refText_any wr A l.length c l t1 IW.out.bs IW.out.cap_le.1 ht1 hl)
            go_wp2_with fail
            refine HC1.out.mono ?_
            rintro e w' ⟨hs, rfl⟩
            obtain rfl := hs.of_ok HS1.out
            unfold i64V
            clear hs HC1 HS1
            rcases h2 : Cd.rdText l t1 with ⟨p, en⟩ | ⟨s, t2⟩
            · have hen : ((en : Int) != 0) = true := by rw [bne_iff_ne]; have := (rdText_er ht1 h2).2; omega
              have HX := Lib.hid (HO.out.er hlt (rdTm_e2 h1 h2))
              have HS2 := Lib.hid h2
              clear h1 h2
              go_wp2_with fail
              refine HC2.out.mono ?_
              rintro e w' ⟨hs, rfl⟩
              obtain rfl := hs.of_error HS2.out
              go_wp2_with fail
              go_ret3
              exact ROpenY.er HX.out HO.out.B
            · have HS2 := Lib.hid h2
              have ht2 : t2 ≤ l.length := (rdText_le h2).1
              have HC3 := Lib.hid (refUint_any wr A l.length c l t2 IW.out.bs ht2 hl)
              go_wp2_with fail
              refine HC2.out.mono ?_
              rintro e w' ⟨hs, rfl⟩
              obtain rfl := hs.of_ok HS2.out
              unfold strV
              clear hs HC2 HS2
              rcases h3 : Cd.rdUint l t2 with ⟨p, en⟩ | ⟨m, t3⟩
              · have hen : ((en : Int) != 0) = true := by rw [bne_iff_ne]; have := (rdUint_er ht2 h3).2; omega
                have HX := Lib.hid (HO.out.er hlt (rdTm_e3 h1 h2 h3))
                have HS3 := Lib.hid h3
                clear h1 h2 h3
                go_wp2_with fail
                refine HC3.out.mono ?_
                rintro e w' ⟨hs, rfl⟩
                obtain rfl := hs.of_error HS3.out
                go_wp2_with fail
                go_ret3
                exact ROpenY.er HX.out HO.out.B
              · have HS3 := Lib.hid h3
                by_cases hm : 9223372036854775807 < m
                · have HX := Lib.hid (HO.out.er hlt (rdTm_e4 h1 h2 h3 hm))
                  have hm1 : (9223372036854775807 : Int) < (m : Int) := by omega
                  clear h1 h2 h3 hm
                  go_wp2_with fail
                  refine HC3.out.mono ?_
                  rintro e w' ⟨hs, rfl⟩
                  obtain rfl := hs.of_ok HS3.out
                  unfold u64V
                  go_wp2_with fail
                  go_ret3
                  exact ROpenY.er HX.out HO.out.B
                · have HTm := Lib.hid (rdTm_ok h1 h2 h3 hm)
                  have hm1 : ¬ ((9223372036854775807 : Int) < (m : Int)) := by omega
                  have hmw : IntKind.i64.wrap (m : Int) = (m : Int) := wrap_i64' _ (by omega) (by omega)
                  have ht3 : t3 ≤ l.length := rdUint_le h3
                  have hdi := rdInt_in h1
                  clear h1 h2 h3 hm
                  go_wp2_with fail
                  refine HC3.out.mono ?_
                  rintro e w' ⟨hs, rfl⟩
                  obtain rfl := hs.of_ok HS3.out
                  unfold u64V
                  clear hs HC3 HS3
                  by_cases hp : 0 < i
                  · have hlen := HO.out.len
                    obtain ⟨g, og, rfl, hx, d0, _, _⟩ := HO.out.rt.at_ (i := i - 1) (by omega)
                    have hla : last = (P[i - 1]'(by omega)).1 := by have := HO.out.last1 (by omega); rw [this]; congr 2; omega
                    have hp1 : (0 : Int) < (i : Int) := by omega
                    have e1 : ((i : Int) - 1).toNat = i - 1 := by omega
                    have e2 : (0 : Int) ≤ (i : Int) - 1 := by omega
                    have e3 : (i : Int) - 1 < (P.length : Int) := by omega
                    have hc0 := HO.out.rt.c0
                    have hcap := HO.out.rt.cap.1
                    have hmx := HO.out.rt.cap.2
                    unfold maxLen at hmx
                    rw [← hla] at d0
                    clear hla
                    by_cases hd : d < last
                    · have hd1 : decide (d < last) = true := decide_eq_true hd
                      have HX := Lib.hid (HO.out.low' hlt HTm.out hd)
                      clear hd
                      go_wp2_with fail
                      go_ret3
                      exact ROpenY.er HX.out HO.out.B
                    · have hd1 : decide (d < last) = false := decide_eq_false hd
                      have hnl := Lib.hid hd
                      clear hd
                      by_cases hnm : named P ⟨s.toArray⟩ (m : Int)
                      · have HX := Lib.hid (HO.out.there hlt HTm.out (show ¬ d < last from by have := hnl.out; omega) hnm)
                        have HSt := Lib.hid (rtSet_there wr r (some ⟨g, og, none⟩) c1 P HO.out.rt d ⟨s.toArray⟩ (m : Int) (by omega) hnm)
                        clear hnm
                        go_wp2_with (go_at_call 25; refine HSt.out.mono ?_; rintro e w2 ⟨rfl, rfl⟩)
                        go_ret3
                        exact ROpenY.er HX.out HO.out.B
                      · have HNM := Lib.hid hnm
                        have HSt := Lib.hid (rtSet_ok wr r (some ⟨g, og, none⟩) c1 P HO.out.rt d ⟨s.toArray⟩ (m : Int) (by omega) hnm (by have := HO.out.len; omega))
                        clear hnm
                        go_wp2_with (go_at_call 25; refine HSt.out.mono ?_; rintro e w2 ⟨A2, c2, rfl, hrt, hbl, htu⟩)
                        go_roundw
                        case rel => exact ⟨i + 1, t3, A2, c2, _, _, rfl, by go_num, Lib.hid (HO.out.go hlt HTm.out ht3 (show ¬ d < last from by have := hnl.out; omega) HNM.out hrt hbl htu)⟩
                        case measure => simp [intOf]; omega
                  · have hp1 : ¬ (0 : Int) < (i : Int) := by omega
                    have hl0 : last = -9223372036854775808 := HO.out.last0 (by have := HO.out.len; omega)
                    have hnl : Hid (¬ d < last) := Lib.hid (by omega)
                    clear hl0
                    by_cases hnm : named P ⟨s.toArray⟩ (m : Int)
                    · have HX := Lib.hid (HO.out.there hlt HTm.out (show ¬ d < last from by have := hnl.out; omega) hnm)
                      have HSt := Lib.hid (rtSet_there wr r A1 c1 P HO.out.rt d ⟨s.toArray⟩ (m : Int) (by omega) hnm)
                      clear hnm
                      go_wp2_with (go_at_call 25; refine HSt.out.mono ?_; rintro e w2 ⟨rfl, rfl⟩)
                      go_ret3
                      exact ROpenY.er HX.out HO.out.B
                    · have HNM := Lib.hid hnm
                      have HSt := Lib.hid (rtSet_ok wr r A1 c1 P HO.out.rt d ⟨s.toArray⟩ (m : Int) (by omega) hnm (by have := HO.out.len; omega))
                      clear hnm
                      go_wp2_with (go_at_call 25; refine HSt.out.mono ?_; rintro e w2 ⟨A2, c2, rfl, hrt, hbl, htu⟩)
                      go_roundw
                      case rel => exact ⟨i + 1, t3, A2, c2, _, _, rfl, by go_num, Lib.hid (HO.out.go hlt HTm.out ht3 (show ¬ d < last from by have := hnl.out; omega) HNM.out hrt hbl htu)⟩
                      case measure => simp [intOf]; omega
        · obtain rfl : i = n := by omega
          have hlt1 : ¬ (i : Int) < (i : Int) := by omega
          have HEQ : Hid (rdTab l = if a < l.length then .error (a, 3) else .ok (P, a)) := Lib.hid (by rw [HO.out.eq, Nat.sub_self]; rfl)
          by_cases hae : a < l.length
          · have hae1 : (a : Int) < (l.length : Int) := by omega
            have HX : Hid (rdTab l = .error (a, 3)) := Lib.hid (by rw [HEQ.out, if_pos hae])
            clear hae HEQ
            go_wp2_with fail
            go_ret3
            exact ROpenY.er HX.out HO.out.B
          · have hae1 : ¬ (a : Int) < (l.length : Int) := by omega
            have HX : Hid (rdTab l = .ok (P, a)) := Lib.hid (by rw [HEQ.out, if_neg hae])
            clear hae HEQ
            go_wp2_with fail
            go_ret3
            unfold ROpenY
            rw [HX.out]
            exact ⟨⟨r, A1, c1, rfl, HO.out.rt, HO.out.low⟩, HO.out.B⟩
end Go.Proofs.Yteondokncalbnaa

namespace Go.Proofs.Yteondokncalbnaa
open Go.RowKit

theorem own_cell {w : World} {base n g cap size : Nat} {e : TypeId} {xs : List Value} (h : w.ownsRow base e size (.slice (some ⟨g, 0, none⟩) n cap) n xs) {j : Nat} (hj : j < n * size) : ∃ u, w.cell? ⟨g, j, none⟩ = some u := by
  have := h.cellAt j hj
  have hl : j < xs.length := by have := h.1; omega
  rw [List.getElem?_eq_getElem hl] at this
  exact ⟨_, this⟩
theorem bytesV_cell {l : List UInt8} {j : Nat} (hj : j < l.length) : (Cd.bytesV l)[j]? = some (.int .u8 (l[j].toNat : Int)) := by simp [Cd.bytesV, Cd.byteV, hj]

set_option maxRecDepth 20000 in
set_option maxHeartbeats 8000000 in
theorem told_any (w : World) (t : Nat) (S : Nat → Prop) (L : List Lt) (N : Nat) (h : TL w t S L N) (r : Nat) (A : Option Addr) (c : Nat) (hr : RT w r A c L) (hf : ∀ x ∈ L, FitL x) :
    Calls Try.prog 22 #[.pointer (some ⟨t, 0, none⟩), .pointer (some ⟨r, 0, none⟩)] w fun e w' => e = .returned (.bool true) ∧ Below w.heap.size w w' := by
  have HT := Lib.hid h
  have HR := Lib.hid hr
  have HF := Lib.hid hf
  have HA := Lib.hid (allL w t S L N h)
  have hlim := h.lim
  have hcap := hr.cap
  have HLo := Lib.hid h.lts
  have HLo2 : Hid (0 < L.length → ∀ i, RSet r A i → i < w.heap.size) := Lib.hid (fun h0 i hi => by
    rcases hi with rfl | ⟨x, e, rfl⟩
    · exact hr.lt
    · obtain ⟨g, o, e2, hg, _⟩ := hr.at_ (i := 0) h0
      rw [e2] at e
      injection e with e
      subst e
      exact hg)
  clear h hr hf
  go_enter Try.func22, Try.ntmps22
  go_wp2_with fail
  refine HA.out.mono ?_
  rintro e w1 ⟨A1, c1, rfl, ho1, hb⟩
  have HO := Lib.hid ho1
  have HB := Lib.hid hb
  have HT := Lib.hid (HT.out.bel hb)
  have HR := Lib.hid (HR.out.bel hb)
  clear ho1 hb HA
  have HN := Lib.hid (nextL w1 t S L N HT.out)
  go_wp2_with fail
  refine HN.out.mono ?_
  rintro e w2 ⟨rfl, hb⟩
  have HO := Lib.hid (own_turns HO.out (.of_below (S := fun _ => False) hb) (fun _ _ => id))
  have HB := Lib.hid (below_trans' HB.out hb)
  have HT := Lib.hid (HT.out.bel hb)
  have HR := Lib.hid (HR.out.bel hb)
  clear hb HN
  have HN2 := Lib.hid (rtNext w2 r A c L HR.out)
  go_wp2_with fail
  refine HN2.out.mono ?_
  rintro e w3 ⟨rfl, rfl⟩
  clear HN2
  have hcapA : L.length ≤ c1 ∧ c1 ≤ maxLen := by
    rcases HO.out.2 with ⟨e, e2⟩ | ⟨g, cap', cur, e, _, _, h5, h6, _⟩
    · injection e with _ _ e3; subst e3; unfold maxLen; omega
    · injection e with _ _ e3; subst e3; exact ⟨h5, h6⟩
  have HSm : Hid (∀ n, Calls Try.prog 28 #[.slice A1 L.length c1, .slice A L.length c] (w3.drewN n) fun e w'' => e = .returned (.bool true) ∧ ∃ m, w'' = w3.drewN m) := Lib.hid (fun n =>
    (rtSame (w3.drewN n) A1 A c1 c L.length L rfl ((Tms.of_own HO.out rfl).keep ((Turns.refl (fun _ => False) _).drewN n) (fun _ _ => id)) (HR.out.row.keep ((Turns.refl (fun _ => False) _).drewN n) (fun _ _ => id)) hcapA hcap).mono fun _ _ ⟨he, j, hj⟩ => ⟨he, n + j, by rw [hj, World.drewN_drewN]⟩)
  have HLn : Hid (∀ n, Calls Try.prog 13 #[.pointer (some ⟨t, 0, none⟩)] (w3.drewN n) fun e w'' => e = .returned (.int .i64 (L.length : Int)) ∧ ∃ m, w'' = w3.drewN m) := Lib.hid (fun n =>
    (lenL (w3.drewN n) t S L N (HT.out.bel (below_drewN' (Below.refl _ _) n))).mono fun _ _ ⟨he, hj⟩ => ⟨he, n, hj⟩)
  have hc0 := HR.out.c0
  generalize hnd : nextD L = nd at *
  generalize hpo : decide (0 < L.length) = po at *
  clear hnd hpo
  go_wp2_with fail
  go_quiet (first | (go_at_call 28; exact HSm.out _) | (go_at_call 13; exact HLn.out _))
  have hbq := below_drewN' (Below.refl w3.heap.size w3) nq
  have HO := Lib.hid (own_turns HO.out (.of_below (S := fun _ => False) hbq) (fun _ _ => id))
  have HB := Lib.hid (below_trans' HB.out hbq)
  have HT := Lib.hid (HT.out.bel hbq)
  have HR := Lib.hid (HR.out.bel hbq)
  clear hbq HSm HLn hc0
  generalize w3.drewN nq = V at *
  generalize hnn : L.length = n at *
  have HNN := Lib.hid hnn
  clear hnn
  go_wp2_with fail
  go_loopw [10] (fun iv wr => ∃ (i : Nat) (xs : List Value), i ≤ n ∧ iv = .int .i64 (i : Int) ∧ Hid (wr.ownsRow w.heap.size 31 3 (.slice A1 n c1) n xs) ∧ Hid (TL wr t S L N) ∧ Hid (RT wr r A c L) ∧ Hid (Below w.heap.size w wr)) (fun iv _ => n - (intOf iv).toNat)
  case atStart => exact ⟨0, _, Nat.zero_le _, rfl, HO, HT, HR, HB⟩
  case round =>
    clear HO HT HR HB
    obtain ⟨i, xs, hi, rfl, HO, HT, HR, HB⟩ := hrel
    by_cases hlt : i < n
    · have hlt1 : (i : Int) < (n : Int) := by omega
      obtain ⟨g, c0, e, vb, hg, hn1, hm1⟩ := own_at HO.out (by omega)
      injection e with e1 _ e3
      subst e1 e3
      obtain ⟨u0, d0⟩ := own_cell HO.out (j := i * 3) (by omega)
      obtain ⟨u1, d1⟩ := own_cell HO.out (j := i * 3 + 1) (by omega)
      obtain ⟨u2, d2⟩ := own_cell HO.out (j := i * 3 + 2) (by omega)
      have z0 := HO.out.frozenAt (i * 3)
      have z1 := HO.out.frozenAt (i * 3 + 1)
      have z2 := HO.out.frozenAt (i * 3 + 2)
      unfold maxLen at hm1
      have hgb := (own_geT HO.out vb).1
      go_wp2_with fail
      have TS : Turns (fun j => j = g) wr (((wr.setCell ⟨g, i * 3, none⟩ (.int .i64 1)).setCell ⟨g, i * 3 + 1, none⟩ (.string ⟨#[119, 114, 105, 116, 116, 101, 110, 32, 111, 118, 101, 114]⟩)).setCell ⟨g, i * 3 + 2, none⟩ (.int .i64 0)) := ((Turns.of_set (S := fun j => j = g) wr ⟨g, i * 3, none⟩ _ rfl).then (Turns.of_set (S := fun j => j = g) _ ⟨g, i * 3 + 1, none⟩ _ rfl)).then (Turns.of_set (S := fun j => j = g) _ ⟨g, i * 3 + 2, none⟩ _ rfl)
      refine ⟨⟨i + 1, _, by omega, by go_num, Lib.hid (((HO.out.stored (i * 3) _).1.stored (i * 3 + 1) _).1.stored (i * 3 + 2) _).1, Lib.hid (HT.out.keep TS (fun j hj e => ?_)), Lib.hid (HR.out.keep TS (fun j hj e => ?_)), Lib.hid ?_⟩, ?_⟩
      · have := HLo.out j hj; subst e; omega
      · have := HLo2.out (by omega) j hj; subst e; omega
      · exact ((HB.out.setCell (p := ⟨g, i * 3, none⟩) hgb _).setCell (p := ⟨g, i * 3 + 1, none⟩) hgb _).setCell (p := ⟨g, i * 3 + 2, none⟩) hgb _
      · simp [intOf]; omega
    · obtain rfl : i = n := by omega
      have hlt1 : ¬ (i : Int) < (i : Int) := by omega
      have HBy := Lib.hid (bytesL wr t S L N HT.out HF.out)
      have HBR : Hid (∀ W, Below wr.heap.size wr W → Calls Try.prog 46 #[.pointer (some ⟨r, 0, none⟩)] W (BytesY W (tabB L))) := Lib.hid (fun W hW => rtBytes W r A c L (HR.out.bel hW) HF.out)
      have hlen := tabB_le HF.out (by rw [HNN.out]; exact hlim)
      generalize tabB L = l at *
      clear HO
      go_wp2_with (go_at_call 19; refine HBy.out.mono ?_; rintro e w5 ⟨A2, c2, rfl, ho2, hb2⟩)
      have HO2 := Lib.hid ho2
      have HB2 := Lib.hid hb2
      clear ho2 hb2 HBy
      have K1 : Hid (∀ W, Below w5.heap.size w5 W → (convert 47 9 (.slice A2 l.length c2)).run Try.prog W = .ok (.string ⟨l.toArray⟩) W) := Lib.hid (fun W hW => ((in_own HO2.out rfl).below hW).conv)
      have k1 : (convert 47 9 (.slice A2 l.length c2)).run Try.prog w5.drew = .ok (.string ⟨l.toArray⟩) w5.drew := K1.out _ (below_drewN' (Below.refl w5.heap.size w5) 1)
      go_region_law (go_simp; go_at_call 46; refine (HBR.out _ (HB2.out.trans ((below_drewN' (Below.refl _ w5) 1).mono HB2.out.size))).mono ?_; rintro e w6 ⟨A3, c3, rfl, ho3, hb3⟩; have hB6 : Below w5.heap.size w5 w6 := below_trans' (below_drewN' (Below.refl w5.heap.size w5) 1) hb3; have k3 := (in_own ho3 rfl).conv; unfold strV at k3; have k4 := K1.out _ hB6)
      all_goals
        have HO6 := Lib.hid (own_turns HO2.out (.of_below (S := fun _ => False) hB6) (fun _ _ => id))
        have HB6 : Hid (Below w.heap.size w w6) := Lib.hid (HB.out.trans ((HB2.out.trans (hB6.mono HB2.out.size)).mono HB.out.size))
        have hwb : w.heap.size ≤ wr.heap.size := HB.out.size
        generalize wr.heap.size = b1 at *
        clear k3 hB6 ho3 hb3 HT HR HB HB2 HBR K1 HO2
        obtain ⟨m, hm⟩ : ∃ m, l.length = m := ⟨_, rfl⟩
        have HMM := Lib.hid hm
        generalize Cd.bytesV l = bs at *
        simp only [hm] at HO6 hlen ⊢
        clear hm
        go_wp2_with fail
        go_loopw [12] (fun iv wr => ∃ (j : Nat) (xs : List Value), j ≤ m ∧ iv = .int .i64 (j : Int) ∧ Hid (wr.ownsRow b1 5 1 (.slice A2 m c2) m xs) ∧ Hid (Below w.heap.size w wr)) (fun iv _ => m - (intOf iv).toNat)
        case atStart => exact ⟨0, _, Nat.zero_le _, rfl, HO6, HB6⟩
        case round =>
          clear HO6 HB6
          obtain ⟨j, ys, hj, rfl, HO, HB⟩ := hrel
          by_cases hjt : j < m
          · have hjt1 : (j : Int) < (m : Int) := by omega
            obtain ⟨g, c0, e, vb, hg, hn1, hm1⟩ := own_at HO.out (by omega)
            injection e with e1 _ e3
            subst e1 e3
            obtain ⟨u0, d0⟩ := own_cell HO.out (j := j) (by omega)
            have z0 := HO.out.frozenAt j
            unfold maxLen at hm1
            have hgb := (own_geT HO.out vb).1
            go_wp2_with fail
            exact ⟨⟨j + 1, _, by omega, by go_num, Lib.hid (HO.out.stored j _).1, Lib.hid (HB.out.setCell (p := ⟨g, j, none⟩) (Nat.le_trans hwb hgb) _)⟩, by simp [intOf]; omega⟩
          · have hjt1 : ¬ (j : Int) < (m : Int) := by omega
            go_wp2_with fail
            go_ret
            exact ⟨rfl, HB.out⟩
end Go.Proofs.Yteondokncalbnaa

namespace Go.Proofs.Yteondokncalbnaa
open Go.RowKit

theorem rdTm_fit {l : List UInt8} {a t : Nat} {x : Lt} (hl : l.length ≤ 1000000) (h : rdTm l a = .ok (x, t)) : FitL x := by
  unfold rdTm at h
  cases h1 : Cd.rdInt l a with
  | error e => rw [h1] at h; cases h
  | ok q =>
    obtain ⟨d, t1⟩ := q
    rw [h1] at h
    simp only at h
    cases h2 : Cd.rdText l t1 with
    | error e => rw [h2] at h; cases h
    | ok q =>
      obtain ⟨s, t2⟩ := q
      rw [h2] at h
      simp only at h
      cases h3 : Cd.rdUint l t2 with
      | error e => rw [h3] at h; cases h
      | ok q =>
        obtain ⟨n, t3⟩ := q
        rw [h3] at h
        simp only at h
        by_cases hn : 9223372036854775807 < n
        · rw [if_pos hn] at h; cases h
        · rw [if_neg hn] at h
          injection h with h
          injection h with h4 _
          subst h4
          have := (rdText_le h2).2
          refine ⟨rdInt_in h1, ?_, by simp only; omega, by simp only; omega⟩
          show s.toArray.size ≤ 1000000
          simp
          omega
theorem rdTms_fit {l : List UInt8} (hl : l.length ≤ 1000000) : ∀ (n a : Nat) (last : Int) (P L : List Lt) (t : Nat), (∀ x ∈ P, FitL x) → rdTms l n a last P = .ok (L, t) → ∀ x ∈ L, FitL x
  | 0, a, last, P, L, t, hP, h => by
    unfold rdTms at h
    by_cases ha : a < l.length
    · rw [if_pos ha] at h; cases h
    · rw [if_neg ha] at h
      injection h with h
      injection h with h1 _
      subst h1
      exact hP
  | n + 1, a, last, P, L, t, hP, h => by
    unfold rdTms at h
    cases h1 : rdTm l a with
    | error e => rw [h1] at h; cases h
    | ok q =>
      obtain ⟨x, t1⟩ := q
      rw [h1] at h
      simp only at h
      by_cases hx : x.1 < last
      · rw [if_pos hx] at h; cases h
      · rw [if_neg hx] at h
        by_cases hn : namedB P x.2.1 x.2.2 = true
        · rw [if_pos hn] at h; cases h
        · rw [if_neg hn] at h
          refine rdTms_fit hl n t1 x.1 (P ++ [x]) L t (fun y hy => ?_) h
          rcases List.mem_append.1 hy with hy | hy
          · exact hP y hy
          · simp at hy; subst hy; exact rdTm_fit hl h1
theorem rdTab_fit {l : List UInt8} (hl : l.length ≤ 1000000) {L : List Lt} {t : Nat} (h : rdTab l = .ok (L, t)) : ∀ x ∈ L, FitL x := by
  unfold rdTab at h
  cases h1 : Cd.rdUint l 0 with
  | error e => rw [h1] at h; cases h
  | ok q =>
    obtain ⟨n, t1⟩ := q
    rw [h1] at h
    simp only at h
    by_cases hn : 4096 < n
    · rw [if_pos hn] at h; cases h
    · rw [if_neg hn] at h
      exact rdTms_fit hl n t1 _ [] L t (by simp) h
theorem rdTms_errno {l : List UInt8} : ∀ (n a : Nat) (last : Int) (P : List Lt) (p en : Nat), a ≤ l.length → rdTms l n a last P = .error (p, en) → en ≠ 0
  | 0, a, last, P, p, en, ha, h => by
    unfold rdTms at h
    by_cases ha : a < l.length
    · rw [if_pos ha] at h; injection h with h; injection h with _ h; omega
    · rw [if_neg ha] at h; cases h
  | n + 1, a, last, P, p, en, ha, h => by
    unfold rdTms at h
    cases h1 : rdTm l a with
    | error e =>
      rw [h1] at h
      injection h with h
      subst h
      unfold rdTm at h1
      cases g1 : Cd.rdInt l a with
      | error e => rw [g1] at h1; injection h1 with h1; subst h1; have := (rdInt_er ha g1).2; omega
      | ok q =>
        obtain ⟨d, t1⟩ := q
        rw [g1] at h1
        simp only at h1
        have e1 := rdInt_le g1
        cases g2 : Cd.rdText l t1 with
        | error e => rw [g2] at h1; injection h1 with h1; subst h1; have := (rdText_er e1 g2).2; omega
        | ok q =>
          obtain ⟨s, t2⟩ := q
          rw [g2] at h1
          simp only at h1
          have e2 := (rdText_le g2).1
          cases g3 : Cd.rdUint l t2 with
          | error e => rw [g3] at h1; injection h1 with h1; subst h1; have := (rdUint_er e2 g3).2; omega
          | ok q =>
            obtain ⟨m, t3⟩ := q
            rw [g3] at h1
            simp only at h1
            split at h1
            · injection h1 with h1; injection h1 with _ h1; omega
            · cases h1
    | ok q =>
      obtain ⟨x, t1⟩ := q
      rw [h1] at h
      simp only at h
      have ht : t1 ≤ l.length := by
        unfold rdTm at h1
        cases g1 : Cd.rdInt l a with
        | error e => rw [g1] at h1; cases h1
        | ok q =>
          obtain ⟨d, t1⟩ := q
          rw [g1] at h1
          simp only at h1
          cases g2 : Cd.rdText l t1 with
          | error e => rw [g2] at h1; cases h1
          | ok q =>
            obtain ⟨s, t2⟩ := q
            rw [g2] at h1
            simp only at h1
            cases g3 : Cd.rdUint l t2 with
            | error e => rw [g3] at h1; cases h1
            | ok q =>
              obtain ⟨m, t3⟩ := q
              rw [g3] at h1
              simp only at h1
              split at h1
              · cases h1
              · injection h1 with h1; injection h1 with _ h1; subst h1; exact rdUint_le g3
      split at h
      · injection h with h; injection h with _ h; omega
      · split at h
        · injection h with h; injection h with _ h; omega
        · exact rdTms_errno n t1 _ _ p en ht h
theorem rdTab_errno {l : List UInt8} {p en : Nat} (h : rdTab l = .error (p, en)) : en ≠ 0 := by
  unfold rdTab at h
  cases h1 : Cd.rdUint l 0 with
  | error e => rw [h1] at h; injection h with h; subst h; have := (rdUint_er (Nat.zero_le _) h1).2; omega
  | ok q =>
    obtain ⟨n, t1⟩ := q
    rw [h1] at h
    simp only at h
    split at h
    · injection h with h; injection h with _ h; omega
    · exact rdTms_errno n t1 _ [] p en (rdUint_le h1) h

theorem opens_long (a : Option Addr) (len cap : Nat) (w : World) (hl : 20000 < (len : Int)) : Calls Try.prog 5 #[.slice a len cap] w fun e w' => e = .returned (.bool true) ∧ Below w.heap.size w w' := by
  go_enter Try.func5, Try.ntmps5
  go_wp2_with fail
  refine (awake_any w).mono ?_
  rintro e w1 ⟨rfl, hb⟩
  have HB := Lib.hid hb
  clear hb
  go_wp2_with fail
  go_ret
  exact ⟨rfl, HB.out⟩
set_option maxRecDepth 20000 in
set_option maxHeartbeats 4000000 in
theorem opens_short (A : Option Addr) (cap : Nat) (l : List UInt8) (w : World) (h : In w A l.length cap l) (hl : ¬ 20000 < (l.length : Int)) : Calls Try.prog 5 #[.slice A l.length cap] w fun e w' => e = .returned (.bool true) ∧ Below w.heap.size w w' := by
  have hsz : l.length ≤ 1000000 := by omega
  have II := Lib.hid h
  clear h
  go_enter Try.func5, Try.ntmps5
  go_wp2_with fail
  refine (awake_any w).mono ?_
  rintro e w1 ⟨rfl, hb⟩
  have II := Lib.hid (II.out.below hb)
  have HB := Lib.hid hb
  clear hb
  have H1 := Lib.hid (open_any w1 A cap l II.out hsz)
  go_wp2_with fail
  refine H1.out.mono ?_
  rintro e w2 ho
  have hb := ho.2
  have II := Lib.hid (II.out.below hb)
  have HB := Lib.hid (below_trans' HB.out hb)
  have H2 := Lib.hid (rtOpen w2 A cap l II.out hsz)
  clear hb H1
  rcases hr : rdTab l with ⟨p, en⟩ | ⟨L, to⟩
  · have hne := rdTab_errno hr
    have hen : ((en : Int) != 0) = true := by rw [bne_iff_ne]; omega
    have HRR := Lib.hid hr
    unfold OpenY at ho
    rw [hr] at ho
    obtain ⟨rfl, _⟩ := ho
    clear hr hne
    go_wp2_with fail
    refine H2.out.mono ?_
    rintro e w3 ho
    unfold ROpenY at ho
    rw [HRR.out] at ho
    obtain ⟨rfl, hb⟩ := ho
    have HB := Lib.hid (below_trans' HB.out hb)
    clear hb
    go_wp2_with fail
    go_ret
    exact ⟨rfl, HB.out⟩
  · have HFt := Lib.hid (rdTab_fit hsz hr)
    have HRR := Lib.hid hr
    unfold OpenY at ho
    rw [hr] at ho
    obtain ⟨⟨t, S, rfl, ht, _⟩, _⟩ := ho
    have HT := Lib.hid ht
    clear hr ht
    go_wp2_with fail
    refine H2.out.mono ?_
    rintro e w3 ho
    unfold ROpenY at ho
    rw [HRR.out] at ho
    obtain ⟨⟨r, A3, c3, rfl, hrt, _⟩, hb⟩ := ho
    have HB := Lib.hid (below_trans' HB.out hb)
    have HTo := Lib.hid (told_any w3 t S L L.length (HT.out.bel hb) r A3 c3 hrt HFt.out)
    clear hb hrt
    go_wp2_with fail
    refine HTo.out.mono ?_
    rintro e w4 ⟨rfl, hb⟩
    have HB := Lib.hid (below_trans' HB.out hb)
    clear hb
    go_wp2_with fail
    go_ret
    exact ⟨rfl, HB.out⟩
theorem opens_of (a : Option Addr) (len cap : Nat) (zs : List Int) (w : World) (h : Came w a len cap zs) :
    Calls Try.prog 5 #[.slice a len cap] w fun e w' => e = .returned (.bool true) ∧ Below w.heap.size w w' := by
  by_cases hl : 20000 < (len : Int)
  · exact opens_long a len cap w hl
  · obtain ⟨l, hin⟩ := came_in h
    obtain rfl := hin.bs.len
    exact opens_short a cap l w hin (by omega)
end Go.Proofs.Yteondokncalbnaa

namespace Go.Proofs.Yteondokncalbnaa
open Go.RowKit

/-- the document's table behind a new list's store -/
theorem rt_done {w w4 : World} {r m : Nat} {A A4 : Option Addr} {c c4 : Nat} {L M : List Lt} (hr : RT w4 r A c L) (ho : w4.ownsRow w.heap.size 31 3 (.slice A4 m c4) m (M.flatMap ltC)) (hm : M.length = m) (hb : Below w.heap.size w w4) (hs : SrtL M) (hf : m ≤ 4096) :
    RT (w4.setCell ⟨r, 0, none⟩ (.slice A4 m c4)) r A4 c4 M ∧ (∀ i, blkOf A4 i → w.heap.size ≤ i ∧ i < w4.heap.size) ∧ Turns (fun i => i = r) w (w4.setCell ⟨r, 0, none⟩ (.slice A4 m c4)) := by
  have hcap : m ≤ c4 ∧ c4 ≤ maxLen := by
    rcases ho.2 with ⟨e, e2⟩ | ⟨g, cap', cur, e, _, _, h5, h6, _⟩
    · injection e with _ _ e3; subst e3; unfold maxLen; omega
    · injection e with _ _ e3; subst e3; exact ⟨h5, h6⟩
  have hblk : ∀ i, blkOf A4 i → w.heap.size ≤ i ∧ i < w4.heap.size ∧ (Value.slice A4 m c4).ownBlock = some i := fun i ⟨x, e, e2⟩ => by
    rcases ho.2 with ⟨e3, e4⟩ | ⟨g, cap', cur, e3, hg, hh, _⟩
    · injection e3 with e5 _ _
      rw [e5] at e
      cases e
    · injection e3 with e5 _ _
      subst e5
      injection e with e
      subst e e2
      exact ⟨hg, (Array.getElem?_eq_some_iff.1 hh).1, rfl⟩
  have hne : ∀ i, blkOf A4 i → i ≠ r := fun i hi e => by
    subst e
    exact own_ne_blk ho (hblk _ hi).2.2 hr.blk (by decide) rfl
  have hrow : Tms w4 A4 M := Tms.of_own ho hm
  have htu : Turns (fun i => i = r) w4 (w4.setCell ⟨r, 0, none⟩ (.slice A4 m c4)) := Turns.of_set w4 ⟨r, 0, none⟩ _ rfl
  refine ⟨⟨?_, hrow.keep htu hne, by rw [hm]; exact hcap, hs, by rw [hm]; exact hf⟩, fun i hi => ⟨(hblk i hi).1, (hblk i hi).2.1⟩, (Turns.of_below hb).then htu⟩
  have := hr.blk.set 0 (.slice A4 m c4)
  rw [hm]
  exact this
def RDropY (w : World) (r : Nat) (L' : List Lt) (v : Value) (e : Ending) (w' : World) : Prop := ∃ A' c', e = .returned v ∧ RT w' r A' c' L' ∧ (∀ i, blkOf A' i → w.heap.size ≤ i ∧ i < w'.heap.size) ∧ Turns (fun i => i = r) w w'

set_option maxRecDepth 20000 in
theorem rtDrop_no (w : World) (r : Nat) (A : Option Addr) (c : Nat) (L : List Lt) (h : RT w r A c L) (o : ByteArray) (k : Int) (hn : ¬ named L o k) :
    Calls Try.prog 26 #[.pointer (some ⟨r, 0, none⟩), .string o, .int .i64 k] w fun e w' => e = .returned (.bool false) ∧ w' = w := by
  have HF := Lib.hid (rtFind_no w r A c L h o k hn)
  clear h hn
  go_enter Try.func26, Try.ntmps26
  go_wp2_with (go_at_call 48; refine HF.out.mono ?_; rintro e w' ⟨rfl, rfl⟩)
  go_ret
  exact ⟨rfl, rfl⟩
set_option maxRecDepth 20000 in
theorem rtSet_arg (w : World) (r : Nat) (due : Int) (o : ByteArray) (k : Int) (hk : k < 0) :
    Calls Try.prog 25 #[.pointer (some ⟨r, 0, none⟩), .int .i64 due, .string o, .int .i64 k] w (RNoY w 1) := by
  have hk1 : decide (k < 0) = true := by simpa using hk
  go_enter Try.func25, Try.ntmps25
  go_wp2_with fail
  go_ret
  exact ⟨rfl, rfl⟩
set_option maxRecDepth 20000 in
set_option maxHeartbeats 4000000 in
theorem rtDrop_at (w : World) (r : Nat) (A : Option Addr) (c : Nat) (L : List Lt) (h : RT w r A c L) (hN : (L.map (·.2)).Nodup) (o : ByteArray) (k : Int) (hn : named L o k) :
    Calls Try.prog 26 #[.pointer (some ⟨r, 0, none⟩), .string o, .int .i64 k] w (RDropY w r (dropL L o k) (.bool true)) := by
  obtain ⟨y, hy, rfl, rfl⟩ := hn
  obtain ⟨n, hn, rfl⟩ := List.mem_iff_getElem.1 hy
  have HF := Lib.hid (rtFind_at w r A c L h hN n hn)
  have hc0 := h.c0
  have H := Lib.hid h
  have hcap := h.cap.1
  have hmx := h.cap.2
  have hfew := h.few
  unfold maxLen at hmx
  obtain ⟨g, og, rfl, hx, _, _, _⟩ := h.at_ hn
  have HI := Lib.hid (drop_cut hN hn)
  obtain ⟨A1, c1, w1, hrun1, ho1, hg1⟩ := append_rdm w w.heap.size (.slice none 0 0) [] (L.take n) 0 n n rfl (by rw [List.length_take]; omega) (by omega) (Nat.le_refl _) (World.ownsRow_nil _ _ _ _) (some ⟨g, og, none⟩) c (h.row.take n) (by omega) 28
  have B1 : Below w.heap.size w w1 := ⟨hg1.os, hg1.tape, hg1.output, hg1.size, fun i hi => hg1.block i hi (by intro e; cases e)⟩
  have R1 := h.bel B1
  have hc1 := R1.c0
  have hs1 := B1.size
  rw [List.nil_append] at ho1
  obtain ⟨A3, hA3⟩ : ∃ A3, (if c = n + 1 then some (⟨g, og, none⟩ : Addr) else some ⟨g, og + (n + 1) * 3, none⟩) = A3 := ⟨_, rfl⟩
  have htail : Tms w1 A3 (L.drop (n + 1)) := R1.row.tail R1.cap.1 (n := n + 1) (by rw [← hA3]; simp only [Option.map_some, addr_add])
  obtain ⟨A4, c4, w4, hrun4, ho4, hg4⟩ := append_rdm w1 w.heap.size _ (L.take n) (L.drop (n + 1)) n (L.length - (n + 1)) (L.length - 1) (by rw [List.length_take]; omega) (by rw [List.length_drop]) (by omega) hs1 ho1 A3 (c - (n + 1)) htail (by omega) 28
  have hlow : ∀ g, (Value.slice A1 n c1).ownBlock = some g → w.heap.size ≤ g := fun g e => (own_geT ho1 e).1
  have B4 : Below w.heap.size w w4 := B1.grown hg4 B1.size (fun g e => hlow g e)
  have R4 := h.bel B4
  have hc4 := R4.c0
  have hf4 := R4.blk.fz 0
  have hlt4 := R4.lt
  have hlt1 := R1.lt
  rw [HI.out] at ho4
  have HO := Lib.hid ho4
  have HB := Lib.hid B4
  have HR := Lib.hid R4
  have r1 := Lib.hid hrun1
  have r4 := Lib.hid hrun4
  have hnc : (n : Int) ≤ (c : Int) := by omega
  have hnl : (n : Int) + 1 ≤ (L.length : Int) := by omega
  have hnl2 : (n : Int) + 1 ≤ (c : Int) := by omega
  have hfe : (L.length : Int) ≤ 4096 := by omega
  have HM : Hid ((dropL L L[n].2.1 L[n].2.2).length = L.length - 1) := Lib.hid (by rw [← HI.out, List.length_append, List.length_take, List.length_drop]; omega)
  have HSr := Lib.hid (filter_srt h.srt (otherB L[n].2.1 L[n].2.2))
  have hpos : 0 < L.length := by omega
  clear hrun1 hrun4 ho1 ho4 hg1 hg4 hlow B1 B4 R1 R4 htail h hN hy
  have HDL : Hid (dropL L L[n].2.1 L[n].2.2 = L.filter (otherB L[n].2.1 L[n].2.2)) := Lib.hid rfl
  generalize dropL L L[n].2.1 L[n].2.2 = M at *
  generalize L[n].2.1 = o at *
  generalize L[n].2.2 = k at *
  clear HI
  go_enter Try.func26, Try.ntmps26
  go_upto_region 6 with (first | (go_at_call 48; refine HF.out.mono ?_; rintro e w' ⟨rfl, rfl⟩) | (at_builtin; refine wpl_append_run rfl _ _ 28 rfl _ _ rfl rfl _ _ r1.out ?_))
  go_wp2_with (at_builtin; refine wpl_append_run rfl _ _ 28 rfl _ _ rfl rfl _ _ r4.out ?_)
  go_ret
  obtain ⟨q1, q2, q3⟩ := rt_done HR.out HO.out HM.out HB.out (by rw [HDL.out]; exact HSr.out) (by omega)
  exact ⟨A4, c4, rfl, q1, fun i hi => ⟨(q2 i hi).1, by simpa [World.setCell] using (q2 i hi).2⟩, q3⟩

set_option maxRecDepth 20000 in
set_option maxHeartbeats 4000000 in
theorem rtDropAll (w : World) (r : Nat) (A : Option Addr) (c : Nat) (L : List Lt) (h : RT w r A c L) (o : ByteArray) :
    Calls Try.prog 27 #[.pointer (some ⟨r, 0, none⟩), .string o] w (RDropY w r (dropA L o) (.int .i64 ((L.length : Int) - ((dropA L o).length : Int)))) := by
  have H := Lib.hid h
  have hcap := h.cap.1
  have hmx := h.cap.2
  have hfew := h.few
  unfold maxLen at hmx
  have hc0 := h.c0
  clear h
  go_enter Try.func27, Try.ntmps27
  go_wp2_with fail
  go_loopw [5, 6] (fun lv iv wr => ∃ (i m : Nat) (B : Option Addr) (cb : Nat), i ≤ L.length ∧ m ≤ i ∧ iv = .int .i64 (i : Int) ∧ lv = .slice B m cb ∧ Hid ((dropA (L.take i) o).length = m) ∧ Hid (wr.ownsRow w.heap.size 31 3 (.slice B m cb) m ((dropA (L.take i) o).flatMap ltC)) ∧ Hid (Below w.heap.size w wr)) (fun _ iv _ => L.length - (intOf iv).toNat)
  case atStart => exact ⟨0, 0, none, 0, by omega, by omega, rfl, rfl, rfl, Lib.hid (World.ownsRow_nil _ _ _ _), Lib.hid (Below.refl _ _)⟩
  case round =>
    obtain ⟨i, m, B, cb, hi, hmi, rfl, rfl, hm, hO, hB⟩ := hrel
    have Q0 := Lib.hid (H.out.bel hB.out)
    have hc0 := Q0.out.c0
    by_cases hlt : i < L.length
    · have hlt1 : (i : Int) < (L.length : Int) := by omega
      obtain ⟨g, og, rfl, hx, d0, d1, d2⟩ := Q0.out.at_ hlt
      have HS := Lib.hid (dropA_snoc L o hlt)
      by_cases ho : L[i].2.1 = o
      · rw [ho] at d1
        rw [if_pos ho, List.append_nil] at HS
        generalize L[i] = y at *
        clear ho
        go_wp2_with fail
        go_roundw
        case rel => exact ⟨i + 1, m, B, cb, by omega, by omega, by go_num, rfl, by rw [HS.out]; exact hm, by rw [HS.out]; exact hO, hB⟩
        case measure => simp [intOf]; omega
      · have hq := str_ne' ho
        rw [if_neg ho] at HS
        generalize L[i] = y at *
        clear ho
        have B2 : Below wr.heap.size wr (wr.alloc (.cells #[.int .i64 y.1, .string y.2.1, .int .i64 y.2.2] 31)) := Below.new wr _
        obtain ⟨A2, c2, w2, hrun2, ho2, hg2⟩ := append_rdm (wr.alloc (.cells #[.int .i64 y.1, .string y.2.1, .int .i64 y.2.2] 31)) w.heap.size _ (dropA (L.take i) o) [y] m 1 (m + 1) hm.out rfl rfl (Nat.le_trans hB.out.size B2.size) (own_turns hO.out (.of_below (S := fun _ => False) B2) (fun _ _ => id)) _ 1 (Tms.one wr y) (by omega) 28
        have B3 : Below w.heap.size w w2 := (hB.out.trans (B2.mono hB.out.size)).grown hg2 (Nat.le_trans hB.out.size B2.size) (fun g e => (own_geT hO.out e).1)
        rw [← HS.out] at ho2
        have r2 := Lib.hid hrun2
        have HO2 := Lib.hid ho2
        have HB3 := Lib.hid B3
        have HM2 : Hid ((dropA (L.take (i + 1)) o).length = m + 1) := Lib.hid (by rw [HS.out, List.length_append, hm.out]; rfl)
        clear hrun2 ho2 hg2 B2 B3
        go_wp2_with (at_builtin; refine wpl_append_run rfl _ _ 28 rfl _ _ rfl rfl _ _ r2.out ?_)
        go_roundw
        case rel => exact ⟨i + 1, m + 1, A2, c2, by omega, by omega, by go_num, rfl, HM2, HO2, HB3⟩
        case measure => simp [intOf]; omega
    · obtain rfl : i = L.length := by omega
      have hlt1 : ¬ (L.length : Int) < (L.length : Int) := by omega
      have e1 : dropA (L.take L.length) o = dropA L o := by rw [List.take_length]
      rw [e1] at hm hO
      have hml : (m : Int) ≤ (L.length : Int) := by omega
      have hll : (L.length : Int) ≤ 4096 := by omega
      have hfz := Q0.out.blk.fz 0
      have hlr := Q0.out.lt
      have hdd : L.length - m ≤ L.length := by omega
      obtain ⟨q1, q2, q3⟩ := rt_done Q0.out hO.out hm.out hB.out (filter_srt H.out.srt _) (by omega)
      have HQ1 := Lib.hid q1
      have HQ2 := Lib.hid q2
      have HQ3 := Lib.hid q3
      clear q1 q2 q3 e1
      go_wp2_with fail
      go_ret
      exact ⟨B, cb, by rw [hm.out]; rfl, HQ1.out, fun i hi => ⟨(HQ2.out i hi).1, by simpa [World.setCell] using (HQ2.out i hi).2⟩, HQ3.out⟩

def RDueY (w : World) (r : Nat) (A : Option Addr) (now : Int) (L : List Lt) (e : Ending) (w' : World) : Prop := ∃ A1 c1 A' c', e = .returned (.slice A1 (ltE now L).length c1) ∧ w'.ownsRow w.heap.size 31 3 (.slice A1 (ltE now L).length c1) (ltE now L).length ((ltE now L).flatMap ltC) ∧
  RT w' r A' c' (ltG now L) ∧ (∀ i, blkOf A' i → blkOf A i) ∧ Turns (fun i => i = r) w w'
theorem RT.ne {w : World} {r : Nat} {A : Option Addr} {c : Nat} {L : List Lt} (h : RT w r A c L) (h0 : 0 < L.length) {i : Nat} (hb : blkOf A i) : i ≠ r := by
  obtain ⟨g, o, e, hg, d0, _, _⟩ := h.at_ h0
  obtain ⟨x, e2, rfl⟩ := hb
  rw [e2] at e
  injection e with e
  subst e
  rintro rfl
  simp only [Nat.zero_mul, Nat.add_zero] at d0
  have := h.blk.cell o
  rw [this] at d0
  cases o with
  | zero => simp at d0
  | succ o => simp at d0
theorem blk_tail {A A3 : Option Addr} {c n i : Nat} (e : (if c = n then A else Option.map (fun y => y.add (n * 3)) A) = A3) (h : blkOf A3 i) : blkOf A i := by
  subst e
  split at h
  · exact h
  · obtain ⟨x, e, rfl⟩ := h
    cases A with
    | none => simp at e
    | some y =>
      simp at e
      subst e
      exact ⟨y, rfl, by rw [blk_add]⟩
theorem due_cut {L : List Lt} (h : SrtL L) {now : Int} {n : Nat} (hn : n ≤ L.length) (h1 : ∀ j (hj : j < L.length), j < n → L[j].1 ≤ now) (h2 : ∀ (hj : n < L.length), now < L[n].1) : L.take n = ltE now L ∧ L.drop n = ltG now L :=
  srt_cut h hn (fun j hj hnj => by
    by_cases e : j = n
    · subst e; exact h2 hj
    · have := h2 (by omega)
      have := (List.pairwise_iff_getElem.1 h) n j (by omega) hj (by omega)
      omega) (fun h0 => h1 _ (by omega) (by omega))
theorem due_done {w w1 : World} {r n : Nat} {A A1 A3 : Option Addr} {c c1 : Nat} {L : List Lt} {now : Int} (hr : RT w r A c L) (hr1 : RT w1 r A c L) (ho : w1.ownsRow w.heap.size 31 3 (.slice A1 n c1) n ((L.take n).flatMap ltC)) (hb : Below w.heap.size w w1) (hn : n ≤ L.length)
    (e3 : (if c = n then A else Option.map (fun y => y.add (n * 3)) A) = A3) (hcut : L.take n = ltE now L ∧ L.drop n = ltG now L) : RDueY w r A now L (.returned (.slice A1 n c1)) (w1.setCell ⟨r, 0, none⟩ (.slice A3 (L.length - n) (c - n))) := by
  have hne : (ltE now L).length = n := by rw [← hcut.1, List.length_take]; omega
  have hng : (ltG now L).length = L.length - n := by rw [← hcut.2, List.length_drop]
  have htu : Turns (fun i => i = r) w1 (w1.setCell ⟨r, 0, none⟩ (.slice A3 (L.length - n) (c - n))) := Turns.of_set w1 ⟨r, 0, none⟩ _ rfl
  have htl : Tms w1 A3 (L.drop n) := hr1.row.tail hr1.cap.1 e3
  refine ⟨A1, c1, A3, c - n, by rw [hne], ?_, ⟨?_, ?_, by rw [hng]; have := hr.cap; omega, filter_srt hr.srt _, by rw [hng]; have := hr.few; omega⟩, fun i hi => blk_tail e3 hi, (Turns.of_below hb).then htu⟩
  · rw [hne, ← hcut.1]
    exact own_turns ho htu (fun g hg e => by subst e; exact own_ne_blk ho hg hr1.blk (by decide) rfl)
  · rw [hng]
    exact hr1.blk.set 0 _
  · rw [← hcut.2]
    by_cases h0 : L.drop n = []
    · rw [h0]; exact Tms.nil _ _
    · refine htl.keep htu (fun i hi => hr1.ne ?_ (blk_tail e3 hi))
      have : (L.drop n).length ≠ 0 := fun e => h0 (List.eq_nil_of_length_eq_zero e)
      rw [List.length_drop] at this
      omega
set_option maxRecDepth 20000 in
set_option maxHeartbeats 4000000 in
theorem rtDue (w : World) (r : Nat) (A : Option Addr) (c : Nat) (L : List Lt) (h : RT w r A c L) (now : Int) :
    Calls Try.prog 29 #[.pointer (some ⟨r, 0, none⟩), .int .i64 now] w (RDueY w r A now L) := by
  have H := Lib.hid h
  have hcap := h.cap.1
  have hmx := h.cap.2
  have hfew := h.few
  unfold maxLen at hmx
  have hc0 := h.c0
  have hll : (L.length : Int) ≤ 4096 := by omega
  have hlc : (L.length : Int) ≤ (c : Int) := by omega
  clear h
  go_enter Try.func29, Try.ntmps29
  go_wp2_with fail
  go_loop [5] (fun iv => ∃ n : Nat, n ≤ L.length ∧ iv = .int .i64 (n : Int) ∧ Hid (∀ j (hj : j < L.length), j < n → L[j].1 ≤ now)) (fun iv => L.length - (intOf iv).toNat)
  case atStart => exact ⟨0, Nat.zero_le _, rfl, Lib.hid (fun j _ h0 => absurd h0 (by omega))⟩
  case round =>
    obtain ⟨n, hn, rfl, HN⟩ := hrel
    have HNL := Lib.hid hn
    have hnc : (n : Int) ≤ (c : Int) := by omega
    by_cases hlt : n < L.length
    · have hlt1 : (n : Int) < (L.length : Int) := by omega
      obtain ⟨g, og, rfl, hx, d0, _, _⟩ := H.out.at_ hlt
      by_cases hd : L[n].1 ≤ now
      · have hd1 : decide (L[n].1 ≤ now) = true := decide_eq_true hd
        have HN2 : Hid (∀ j (hj : j < L.length), j < n + 1 → L[j].1 ≤ now) := Lib.hid (fun j hj hj2 => by
          by_cases e : j = n
          · subst e; exact hd
          · exact HN.out j hj (by omega))
        clear hd
        generalize L[n] = y at *
        go_wp2_with fail
        go_round
        case rel => exact ⟨n + 1, by omega, by go_num, HN2⟩
        case measure => simp [intOf]; omega
      · have hd1 : decide (L[n].1 ≤ now) = false := decide_eq_false hd
        have HC := Lib.hid (due_cut H.out.srt hn HN.out (fun _ => by omega))
        clear hd
        generalize L[n] = y at *
        obtain ⟨A1, c1, w1, hrun1, ho1, hg1⟩ := append_rdm w w.heap.size (.slice none 0 0) [] (L.take n) 0 n n rfl (by rw [List.length_take]; omega) (by omega) (Nat.le_refl _) (World.ownsRow_nil _ _ _ _) (some ⟨g, og, none⟩) c (H.out.row.take n) (by omega) 28
        have B1 : Below w.heap.size w w1 := ⟨hg1.os, hg1.tape, hg1.output, hg1.size, fun i hi => hg1.block i hi (by intro e; cases e)⟩
        have R1 := Lib.hid (H.out.bel B1)
        have hc1 := R1.out.c0
        have hf1 := R1.out.blk.fz 0
        have hlt1 := R1.out.lt
        rw [List.nil_append] at ho1
        have HO := Lib.hid ho1
        have HB := Lib.hid B1
        have r1 := Lib.hid hrun1
        clear hrun1 ho1 hg1 B1
        have HT3 : Hid ((if c = n then some (⟨g, og, none⟩ : Addr) else Option.map (fun y : Addr => y.add (n * 3)) (some ⟨g, og, none⟩)) = some ⟨g, og + n * 3, none⟩) := Lib.hid (by rw [if_neg (by omega)]; simp only [Option.map_some, addr_add])
        go_upto_region 6 with (at_builtin; refine wpl_append_run rfl _ _ 28 rfl _ _ rfl rfl _ _ r1.out ?_)
        go_wp2_with fail
        go_ret
        exact due_done H.out R1.out HO.out HB.out HNL.out HT3.out HC.out
    · have hlt1 : ¬ (n : Int) < (L.length : Int) := by omega
      have HC := Lib.hid (due_cut H.out.srt hn HN.out (fun h => absurd h hlt))
      by_cases h0 : 0 < L.length
      · obtain ⟨g, og, rfl, hx, _, _, _⟩ := H.out.at_ h0
        obtain ⟨A1, c1, w1, hrun1, ho1, hg1⟩ := append_rdm w w.heap.size (.slice none 0 0) [] (L.take n) 0 n n rfl (by rw [List.length_take]; omega) (by omega) (Nat.le_refl _) (World.ownsRow_nil _ _ _ _) (some ⟨g, og, none⟩) c (H.out.row.take n) (by omega) 28
        have B1 : Below w.heap.size w w1 := ⟨hg1.os, hg1.tape, hg1.output, hg1.size, fun i hi => hg1.block i hi (by intro e; cases e)⟩
        have R1 := Lib.hid (H.out.bel B1)
        have hc1 := R1.out.c0
        have hf1 := R1.out.blk.fz 0
        have hlt1 := R1.out.lt
        rw [List.nil_append] at ho1
        have HO := Lib.hid ho1
        have HB := Lib.hid B1
        have r1 := Lib.hid hrun1
        clear hrun1 ho1 hg1 B1
        obtain ⟨A3, hA3⟩ : ∃ A3, (if c = n then some (⟨g, og, none⟩ : Addr) else some ⟨g, og + n * 3, none⟩) = A3 := ⟨_, rfl⟩
        have HT3 : Hid ((if c = n then some (⟨g, og, none⟩ : Addr) else Option.map (fun y : Addr => y.add (n * 3)) (some ⟨g, og, none⟩)) = A3) := Lib.hid (by rw [← hA3]; simp only [Option.map_some, addr_add])
        go_upto_region 6 with (at_builtin; refine wpl_append_run rfl _ _ 28 rfl _ _ rfl rfl _ _ r1.out ?_)
        go_wp2_with fail
        go_ret
        exact due_done H.out R1.out HO.out HB.out HNL.out HT3.out HC.out
      · obtain rfl : n = 0 := by omega
        obtain ⟨A1, c1, w1, hrun1, ho1, hg1⟩ := append_rdm w w.heap.size (.slice none 0 0) [] (L.take 0) 0 0 0 rfl (by rw [List.length_take]; omega) (by omega) (Nat.le_refl _) (World.ownsRow_nil _ _ _ _) A c (H.out.row.take 0) (by omega) 28
        have B1 : Below w.heap.size w w1 := ⟨hg1.os, hg1.tape, hg1.output, hg1.size, fun i hi => hg1.block i hi (by intro e; cases e)⟩
        have R1 := Lib.hid (H.out.bel B1)
        have hc1 := R1.out.c0
        have hf1 := R1.out.blk.fz 0
        have hlt1 := R1.out.lt
        rw [List.nil_append] at ho1
        have HO := Lib.hid ho1
        have HB := Lib.hid B1
        have r1 := Lib.hid hrun1
        clear hrun1 ho1 hg1 B1
        have HT3 : Hid ((if c = 0 then A else Option.map (fun y : Addr => y.add (0 * 3)) A) = A) := Lib.hid (by cases A <;> simp [Addr.add])
        go_upto_region 6 with (at_builtin; refine wpl_append_run rfl _ _ 28 rfl _ _ rfl rfl _ _ r1.out ?_)
        go_wp2_with fail
        go_ret
        exact due_done H.out R1.out HO.out HB.out HNL.out HT3.out HC.out
end Go.Proofs.Yteondokncalbnaa

namespace Go.Proofs.Yteondokncalbnaa
open Go.ChangeShapes Go.WideShapes Go.Deep

section
variable {H : Type} {enc : TypeId × Value → H} {P : Program} {w : World} {base : Nat} {spare : Nat → Bool} {held : Bool}
theorem open_rows {t e : TypeId} {fs : Array Field} {fuel : Nat} {cs : List Value} {x : DataW H × List MemPlace} (ht : P.underlying t = some (.slice e)) (he : P.underlying e = some (.struct fs))
    (hone : oneCellFields P fs = true) (hC : P.cellsOf e = fs.size) (h : DataW.trod enc P w base spare held fuel t cs = some x) :
    cs = [.slice none 0 0] ∨
    ∃ (a : Addr) (len cap : Nat), cs = [.slice (some a) len cap] ∧ len ≤ cap ∧ cap ≤ maxLen ∧
      ∀ i, i < len → ∀ (j : Nat) (f : Field), fs[j]? = some f → ∃ (v : Value) (y : DataW H × List MemPlace) (n : Nat), w.cell? (a.add (i * fs.size + j)) = some v ∧ DataW.trod enc P w base spare held n f.type [v] = some y := by
  rcases open_slice ht h with h0 | ⟨a, len, cap, m, n, D, Pl, hcs, hb, hl, hm, hmm, hx, hi⟩
  · exact .inl h0.1
  · refine .inr ⟨a, len, cap, hcs, hl, hm, fun i hil => ?_⟩
    have him : i < m := by rw [hmm]; split <;> omega
    obtain ⟨cs', hc, ht'⟩ := hi i him
    rw [hC] at hc
    obtain ⟨ys, n', hn', hy, hlen, hyl, hf⟩ := DataW.trod_struct he ht'
    obtain ⟨_, hcl, hat⟩ := World.cells?_some hc
    intro j f hj
    obtain ⟨ho, hk⟩ := hone_of hone j f hj
    have hjl : j < fs.size := (Array.getElem?_eq_some_iff.1 hj).1
    have hcell := hat j hjl
    have hv : cs'[j]? = some (cs'[j]'(by omega)) := List.getElem?_eq_getElem (by omega)
    have h1 := hf j f hj
    rw [ho, hk] at h1
    have hone' : (cs'.drop j).take 1 = [cs'[j]'(by omega)] := by
      rw [List.drop_eq_getElem_cons (by omega)]
      rfl
    rw [hone'] at h1
    have hys : ys[j]? = some (ys[j]'(by omega)) := List.getElem?_eq_getElem (by omega)
    refine ⟨_, _, n', ?_, h1.trans hys⟩
    rw [← Go.Deep.add_add, hcell, hv]
end
theorem spot_none {w : World} {a : Addr} {v : Value} (h : w.cell? (a.add 0) = some v) : a.spot = none := by
  have e : a.add 0 = a := by simp [Addr.add]
  rw [e] at h
  unfold World.cell? at h
  split at h
  · split at h
    · cases h
    · rename_i hs
      cases hsp : a.spot with
      | none => rfl
      | some s => rw [hsp] at hs; simp at hs
  · cases h
theorem add_at {a : Addr} (h : a.spot = none) (n : Nat) : a.add n = ⟨a.block, a.off + n, none⟩ := by
  obtain ⟨b, o, s⟩ := a
  subst h
  unfold Addr.add
  split
  · subst_vars; rfl
  · rfl
end Go.Proofs.Yteondokncalbnaa

namespace Go.Proofs.Yteondokncalbnaa
open Go.RowKit Go.ChangeShapes Go.WideShapes Go.Deep

structure Sp where
  d : Int
  at_ : Int
  own : ByteArray
  id : Int
structure Stps (w : World) (a : Option Addr) (n : Nat) (S : Nat → Sp) : Prop where
  cell : ∀ i, i < n → ∃ b o, a = some ⟨b, o, none⟩ ∧ b < w.heap.size ∧ w.cell? ⟨b, o + i * 4, none⟩ = some (.int .u8 (S i).d) ∧ w.cell? ⟨b, o + i * 4 + 1, none⟩ = some (.int .i64 (S i).at_) ∧ w.cell? ⟨b, o + i * 4 + 2, none⟩ = some (.string (S i).own) ∧ w.cell? ⟨b, o + i * 4 + 3, none⟩ = some (.int .i64 (S i).id)
  wf : ∀ i, i < n → (-9223372036854775808 ≤ (S i).at_ ∧ (S i).at_ ≤ 9223372036854775807) ∧ (-9223372036854775808 ≤ (S i).id ∧ (S i).id ≤ 9223372036854775807)
theorem Stps.bel {w w' : World} {a : Option Addr} {n : Nat} {S : Nat → Sp} (h : Stps w a n S) (hb : Below w.heap.size w w') : Stps w' a n S :=
  ⟨fun i hi => by
    obtain ⟨b, o, e, hl, c0, c1, c2, c3⟩ := h.cell i hi
    exact ⟨b, o, e, Nat.lt_of_lt_of_le hl hb.size, (hb.cell (p := ⟨b, _, none⟩) hl).trans c0, (hb.cell (p := ⟨b, _, none⟩) hl).trans c1, (hb.cell (p := ⟨b, _, none⟩) hl).trans c2, (hb.cell (p := ⟨b, _, none⟩) hl).trans c3⟩, h.wf⟩
instance sp_inhabited : Inhabited Sp := ⟨⟨0, 0, ⟨#[]⟩, 0⟩⟩
theorem step_one : oneCellFields Try.prog (Try.prog.fieldsOf 62) = true := by kernel_rfl
theorem step_cells : Try.prog.cellsOf 62 = (Try.prog.fieldsOf 62).size := by kernel_rfl
theorem step_struct : Try.prog.underlying 62 = some (.struct (Try.prog.fieldsOf 62)) := by kernel_rfl
theorem step_size : (Try.prog.fieldsOf 62).size = 4 := by kernel_rfl
theorem step_t0 : ((Try.prog.fieldsOf 62)[0]?).map (fun f => f.type) = some 5 := by kernel_rfl
theorem step_f0 : ∃ f, (Try.prog.fieldsOf 62)[0]? = some f ∧ f.type = 5 := Option.map_eq_some_iff.1 step_t0
theorem step_t1 : ((Try.prog.fieldsOf 62)[1]?).map (fun f => f.type) = some 2 := by kernel_rfl
theorem step_f1 : ∃ f, (Try.prog.fieldsOf 62)[1]? = some f ∧ f.type = 2 := Option.map_eq_some_iff.1 step_t1
theorem step_t2 : ((Try.prog.fieldsOf 62)[2]?).map (fun f => f.type) = some 9 := by kernel_rfl
theorem step_f2 : ∃ f, (Try.prog.fieldsOf 62)[2]? = some f ∧ f.type = 9 := Option.map_eq_some_iff.1 step_t2
theorem step_t3 : ((Try.prog.fieldsOf 62)[3]?).map (fun f => f.type) = some 3 := by kernel_rfl
theorem step_f3 : ∃ f, (Try.prog.fieldsOf 62)[3]? = some f ∧ f.type = 3 := Option.map_eq_some_iff.1 step_t3
theorem choose_lt {T : Type} [Inhabited T] {P : Nat → T → Prop} {n : Nat} (h : ∀ i, i < n → ∃ t, P i t) : ∃ f : Nat → T, ∀ i, i < n → P i (f i) := by
  refine ⟨fun i => if hi : i < n then Classical.choose (h i hi) else default, fun i hi => ?_⟩
  show P i (if hi : i < n then Classical.choose (h i hi) else default)
  rw [dif_pos hi]
  exact Classical.choose_spec (h i hi)
set_option maxHeartbeats 1600000 in
theorem steps_of {H : Type} {enc : TypeId × Value → H} {w : World} {base : Nat} {spare : Nat → Bool} {held : Bool} {fuel : Nat} {a : Option Addr} {n c : Nat} {x : DataW H × List MemPlace}
    (h : DataW.trod enc Try.prog w base spare held fuel 57 [.slice a n c] = some x) : ∃ S, Stps w a n S := by
  rcases open_rows Try.underlying57 step_struct step_one step_cells h with e | ⟨a', len, cap, e, hl, hm, hf⟩
  · simp at e
    obtain ⟨rfl, rfl, rfl⟩ := e
    exact ⟨fun _ => default, ⟨fun i hi => absurd hi (Nat.not_lt_zero _), fun i hi => absurd hi (Nat.not_lt_zero _)⟩⟩
  · simp at e
    obtain ⟨rfl, rfl, rfl⟩ := e
    obtain ⟨f0, g0, t0⟩ := step_f0
    obtain ⟨f1, g1, t1⟩ := step_f1
    obtain ⟨f2, g2, t2⟩ := step_f2
    obtain ⟨f3, g3, t3⟩ := step_f3
    rw [step_size] at hf
    have key : ∀ i, i < n → ∃ s : Sp, (∃ b o, some a' = some (⟨b, o, none⟩ : Addr) ∧ b < w.heap.size ∧ w.cell? ⟨b, o + i * 4, none⟩ = some (.int .u8 s.d) ∧ w.cell? ⟨b, o + i * 4 + 1, none⟩ = some (.int .i64 s.at_) ∧ w.cell? ⟨b, o + i * 4 + 2, none⟩ = some (.string s.own) ∧ w.cell? ⟨b, o + i * 4 + 3, none⟩ = some (.int .i64 s.id)) ∧ (-9223372036854775808 ≤ s.at_ ∧ s.at_ ≤ 9223372036854775807) ∧ (-9223372036854775808 ≤ s.id ∧ s.id ≤ 9223372036854775807) := fun i hi => by
      obtain ⟨v, _, _, hz, _⟩ := hf 0 (by omega) 0 f0 g0
      have hs := spot_none (by simpa using hz)
      obtain ⟨v0, y0, n0, c0, k0⟩ := hf i hi 0 f0 g0
      obtain ⟨v1, y1, n1, c1, k1⟩ := hf i hi 1 f1 g1
      obtain ⟨v2, y2, n2, c2, k2⟩ := hf i hi 2 f2 g2
      obtain ⟨v3, y3, n3, c3, k3⟩ := hf i hi 3 f3 g3
      rw [t0] at k0
      rw [t1] at k1
      rw [t2] at k2
      rw [t3] at k3
      obtain ⟨z0, e0, _, q0⟩ := DataW.trod_int Try.underlying5 k0
      obtain ⟨z1, e1, _, q1⟩ := DataW.trod_int Try.underlying2 k1
      obtain ⟨z2, e2, _, q2⟩ := DataW.trod_string Try.underlying9 k2
      obtain ⟨z3, e3, _, q3⟩ := DataW.trod_int Try.underlying3 k3
      simp only [List.cons.injEq, and_true] at e0 e1 e2 e3
      subst e0 e1 e2 e3
      have hb := World.block_lt_of_cell? w _ c0
      rw [add_at hs] at hb c0 c1 c2 c3
      have b1 := bounds_i64 q1
      have b3 := bounds_i64 q3
      refine ⟨⟨z0, z1, z2, z3⟩, ⟨a'.block, a'.off, ?_, hb, c0, ?_, ?_, ?_⟩, by simp only; omega, by simp only; omega⟩
      · obtain ⟨b, o, s⟩ := a'
        simp only at hs
        subst hs
        rfl
      · rw [Nat.add_assoc]; exact c1
      · rw [Nat.add_assoc]; exact c2
      · rw [Nat.add_assoc]; exact c3
    obtain ⟨S, hS⟩ := choose_lt key
    exact ⟨S, ⟨fun i hi => (hS i hi).1, fun i hi => (hS i hi).2⟩⟩
end Go.Proofs.Yteondokncalbnaa

namespace Go.Proofs.Yteondokncalbnaa
open Go.RowKit

/-- a timer of the script -/
def FitS (x : Lt) : Prop := FitL x ∧ x.2.1.size ≤ 300
structure BS (w w' : World) (t : Nat) (S : Nat → Prop) (L : List Lt) (N r : Nat) (A : Option Addr) (c : Nat) : Prop where
  tl : TL w' t S L N
  rt : RT w' r A c L
  ap : ∀ i, S i → ¬ RSet r A i
  newS : ∀ i, S i → w.heap.size ≤ i
  newA : ∀ i, RSet r A i → w.heap.size ≤ i
  lowA : ∀ i, RSet r A i → i < w'.heap.size
  B : Below w.heap.size w w'
  fit : ∀ x ∈ L, FitS x
section
variable {w w' w1 w2 : World} {t : Nat} {S : Nat → Prop} {L : List Lt} {N r : Nat} {A : Option Addr} {c : Nat}
theorem BS.fl (h : BS w w' t S L N r A c) : ∀ x ∈ L, FitL x := fun x hx => (h.fit x hx).1
theorem BS.bel (h : BS w w' t S L N r A c) (k : Below w'.heap.size w' w1) : BS w w1 t S L N r A c :=
  ⟨h.tl.bel k, h.rt.bel k, h.ap, h.newS, h.newA, fun i hi => Nat.lt_of_lt_of_le (h.lowA i hi) k.size, h.B.trans (k.mono h.B.size), h.fit⟩
/-- behind an operation of the table: the document's table is as it was -/
theorem BS.rt1 (h : BS w w' t S L N r A c) (k : Turns S w' w1) : RT w1 r A c L := h.rt.keep k (fun i hi hs => h.ap i hs hi)
/-- an operation of both -/
theorem BS.both {t1 N1 c1 : Nat} {S1 : Nat → Prop} {L1 : List Lt} {A1 : Option Addr} (h : BS w w' t S L N r A c) (h1 : TL w1 t1 S1 L1 N1) (g : Grows w' S S1) (k : Turns S w' w1)
    (h2 : RT w2 r A1 c1 L1) (hA : ∀ i, blkOf A1 i → (w1.heap.size ≤ i ∧ i < w2.heap.size) ∨ blkOf A i) (k2 : Turns (fun i => i = r) w1 w2) (hf : ∀ x ∈ L1, FitS x) : BS w w2 t1 S1 L1 N1 r A1 c1 := by
  have hS1 : ∀ i, S1 i → ¬ RSet r A i := fun i hi ha => by
    rcases g i hi with e | e
    · exact h.ap i e ha
    · have := h.lowA i ha; omega
  refine ⟨h1.keep k2 (fun i hi e => hS1 i hi (.inl e)), h2, fun i hi ha => ?_, fun i hi => ?_, fun i hi => ?_, fun i hi => ?_, ?_, hf⟩
  · rcases ha with e | e
    · exact hS1 i hi (.inl e)
    · rcases hA i e with ⟨e, _⟩ | e
      · have := h1.lts i hi; omega
      · exact hS1 i hi (.inr e)
  · rcases g i hi with e | e
    · exact h.newS i e
    · exact Nat.le_trans h.B.size e
  · rcases hi with e | e
    · exact h.newA i (.inl e)
    · rcases hA i e with ⟨e, _⟩ | e
      · exact Nat.le_trans h.B.size (Nat.le_trans k.size e)
      · exact h.newA i (.inr e)
  · rcases hi with e | e
    · exact Nat.lt_of_lt_of_le (h.lowA i (.inl e)) (Nat.le_trans k.size k2.size)
    · rcases hA i e with ⟨_, e⟩ | e
      · exact e
      · exact Nat.lt_of_lt_of_le (h.lowA i (.inr e)) (Nat.le_trans k.size k2.size)
  · have e1 : Turns (fun i => w.heap.size ≤ i) w w' := Turns.of_below h.B
    exact ((e1.then (k.mono (fun i _ e => h.newS i e))).then (k2.mono (fun i _ e => by subst e; exact h.newA _ (.inl rfl)))).below (Nat.le_refl _) (fun _ _ e => e)
/-- the table becomes another one, the elder one is turned -/
theorem BS.turn {t1 N1 : Nat} {S1 : Nat → Prop} (h : BS w w' t S L N r A c) (h1 : TL w1 t1 S1 L N1) (hS : ∀ i, S1 i → w'.heap.size ≤ i) (hb : Below w'.heap.size w' w1) (T : Nat → Prop) (hT : ∀ i, T i → S i ∨ w1.heap.size ≤ i) (k : Turns T w1 w2) : BS w w2 t1 S1 L N1 r A c := by
  have hTS : ∀ i, S1 i → ¬ T i := fun i hi e => by
    rcases hT i e with e | e
    · have := h.tl.lts i e; have := hS i hi; omega
    · have := h1.lts i hi; omega
  have hTA : ∀ i, RSet r A i → ¬ T i := fun i hi e => by
    rcases hT i e with e | e
    · exact h.ap i e hi
    · have := h.lowA i hi; have := hb.size; omega
  refine ⟨h1.keep k hTS, (h.rt.bel hb).keep k hTA, fun i hi ha => ?_, fun i hi => Nat.le_trans h.B.size (hS i hi), h.newA, fun i hi => Nat.lt_of_lt_of_le (h.lowA i hi) (Nat.le_trans hb.size k.size), ?_, h.fit⟩
  · have := hS i hi; have := h.lowA i ha; omega
  · have e1 : Turns (fun i => w.heap.size ≤ i) w w1 := Turns.of_below (h.B.trans (hb.mono h.B.size))
    exact (e1.then (k.mono (fun i hi e => (hT i e).elim (fun e => h.newS i e) (fun e => by omega)))).below (Nat.le_refl _) (fun _ _ e => e)
end
theorem fit_ins {L : List Lt} {x : Lt} (h : ∀ y ∈ L, FitS y) (hx : FitS x) : ∀ y ∈ insL L x, FitS y := fun y hy => by
  unfold insL at hy
  rcases List.mem_append.1 hy with hy | hy
  · rcases List.mem_append.1 hy with hy | hy
    · exact h y (List.mem_filter.1 hy).1
    · simp at hy; subst hy; exact hx
  · exact h y (List.mem_filter.1 hy).1
theorem fit_filter {L : List Lt} {P : Lt → Bool} (h : ∀ y ∈ L, FitS y) : ∀ y ∈ L.filter P, FitS y := fun y hy => h y (List.mem_filter.1 hy).1
theorem RT.blk_lt {w : World} {r : Nat} {A : Option Addr} {c : Nat} {L : List Lt} (h : RT w r A c L) (h0 : 0 < L.length) {i : Nat} (hi : blkOf A i) : i < w.heap.size := by
  obtain ⟨g, o, e, hg, _⟩ := h.at_ h0
  obtain ⟨x, e2, rfl⟩ := hi
  rw [e2] at e
  injection e with e
  subst e
  exact hg
/-- the bytes of a small table are few -/
theorem tabB_small {L : List Lt} (h : ∀ x ∈ L, FitS x) (hl : L.length ≤ 100) : (tabB L).length ≤ 1000000 := by
  have hB : ∀ (M : List Lt), (∀ x ∈ M, FitS x) → (M.flatMap tmB).length ≤ 340 * M.length := by
    intro M
    induction M with
    | nil => intro _; simp
    | cons x M ih =>
      intro hM
      have h1 := ih (fun y hy => hM y (List.mem_cons_of_mem _ hy))
      have hx := hM x List.mem_cons_self
      have h2 : (tmB x).length ≤ 340 := by
        unfold tmB Cd.textB
        have q1 := Cd.uB_len10 (zig_fit hx.1.1)
        have q2 := Cd.uB_len10 (n := x.2.1.data.toList.length) (by rw [size_toL']; have := hx.2; omega)
        have q3 := Cd.uB_len10 (n := x.2.2.toNat) (by have := hx.1.2.2; omega)
        simp only [List.length_append, size_toL'] at *
        have := hx.2
        omega
      rw [List.flatMap_cons, List.length_append, List.length_cons]
      omega
  have h1 := hB L h
  have h2 := Cd.uB_len10 (n := L.length) (by omega)
  unfold tabB
  rw [List.length_append]
  omega

/-- the elder table is given a timer, whatever it holds -/
def AnyY (w : World) (t : Nat) (S : Nat → Prop) (e : Ending) (w' : World) : Prop := ∃ (v : Int) (S' : Nat → Prop) (L' : List Lt) (N' : Nat), e = .returned (.int .i64 v) ∧ TL w' t S' L' N' ∧ Grows w S S' ∧ Turns S w w'
theorem setAny (w : World) (t : Nat) (S : Nat → Prop) (L : List Lt) (N : Nat) (h : TL w t S L N) (hl : L.length ≤ 100) (hN : N ≤ 100) (due : Int) (o : ByteArray) :
    Calls Try.prog 14 #[.pointer (some ⟨t, 0, none⟩), .int .i64 due, .string o, .int .i64 5] w (AnyY w t S) := by
  by_cases hn : named L o 5
  · refine (set_no w t S L N h due o 5 (by omega) (.inl hn)).mono ?_
    rintro e w' ⟨v, rfl, _, _, hb⟩
    exact ⟨v, S, L, N, rfl, h.bel hb, Grows.refl _ _, Turns.of_below hb⟩
  · refine (setL w t S L N h due o 5 (by omega) hn (by omega) (by omega)).mono ?_
    rintro e w' ⟨rfl, S', h1, h2, h3⟩
    exact ⟨0, S', _, _, rfl, h1, h2, h3⟩
theorem dropAny (w : World) (t : Nat) (S : Nat → Prop) (L : List Lt) (N : Nat) (h : TL w t S L N) (o : ByteArray) :
    Calls Try.prog 16 #[.pointer (some ⟨t, 0, none⟩), .string o] w (AnyY w t S) :=
  (dropAllL w t S L N h o).mono fun _ _ ⟨he, S', h1, h2, h3⟩ => ⟨_, S', _, _, he, h1, h2, h3⟩
end Go.Proofs.Yteondokncalbnaa

namespace Go.Proofs.Yteondokncalbnaa
open Go.RowKit

def LongY (w : World) (n : Nat) (S : Nat → Sp) (e : Ending) (w' : World) : Prop := ∃ b, e = .returned (.bool b) ∧ (b = false → n ≤ 100 ∧ ∀ i, i < n → (S i).own.size ≤ 300) ∧ w = w'
set_option maxRecDepth 20000 in
set_option maxHeartbeats 1600000 in
theorem long_any (w : World) (a : Option Addr) (n c : Nat) (S : Nat → Sp) (h : Stps w a n S) : Calls Try.prog 24 #[.slice a n c] w (LongY w n S) := by
  have HS := Lib.hid h
  clear h
  go_enter Try.func24, Try.ntmps24
  go_wp2_with fail
  go_loop [3] (fun iv => ∃ k : Nat, k ≤ n ∧ k ≤ 100 ∧ iv = .int .i64 (k : Int) ∧ Hid (∀ i, i < k → (S i).own.size ≤ 300)) (fun iv => n - (intOf iv).toNat)
  case atStart => exact ⟨0, by omega, by omega, rfl, Lib.hid (fun i hi => absurd hi (Nat.not_lt_zero _))⟩
  case round =>
    obtain ⟨k, hk, hk2, rfl, hA⟩ := hrel
    by_cases hlt : k < n
    · have hlt1 : (k : Int) < (n : Int) := by omega
      by_cases hlt2 : k < 100
      · have hlt3 : (k : Int) < 100 := by omega
        obtain ⟨b, o, rfl, hl, c0, c1, c2, c3⟩ := HS.out.cell k hlt
        by_cases h1 : 300 < (S k).own.size
        · have h1' : (300 : Int) < ((S k).own.size : Int) := by omega
          go_wp2_with fail
          go_ret
          exact ⟨true, rfl, fun h => (by cases h), rfl⟩
        · have h1' : ¬ (300 : Int) < ((S k).own.size : Int) := by omega
          go_wp2_with fail
          go_round
          case measure => simp only [intOf]; omega
          case rel => exact ⟨k + 1, by omega, by omega, by go_num, Lib.hid (fun i hi => by
            by_cases e : i = k
            · subst e; omega
            · exact hA.out i (by omega))⟩
      · have hlt3 : ¬ (k : Int) < 100 := by omega
        have hn3 : decide (100 < (n : Int)) = true := decide_eq_true (by omega)
        go_wp2_with fail
        go_ret
        exact ⟨true, rfl, fun h => (by cases h), rfl⟩
    · obtain rfl : k = n := by omega
      have hlt1 : ¬ (k : Int) < (k : Int) := by omega
      have hn3 : decide (100 < (k : Int)) = false := decide_eq_false (by omega)
      go_wp2_with fail
      go_ret
      exact ⟨false, rfl, fun _ => ⟨hk2, hA.out⟩, rfl⟩
theorem own_cnt (L : List Lt) (o : ByteArray) : ((L.length : Int) - ((dropA L o).length : Int)) = ((L.filter (owB o)).length : Int) := by
  have h : (L.filter (owB o)).length + (dropA L o).length = L.length := by
    unfold dropA
    induction L with
    | nil => rfl
    | cons x L ih =>
      rw [List.filter_cons, List.filter_cons]
      cases owB o x <;> simp <;> omega
  omega
theorem own_caps {w : World} {base n c : Nat} {A : Option Addr} {e : TypeId} {size : Nat} {xs : List Value} (h : w.ownsRow base e size (.slice A n c) n xs) : n ≤ c ∧ c ≤ maxLen := by
  rcases h.2 with ⟨e1, e2⟩ | ⟨g, cap', cur, e1, _, _, h5, h6, _⟩
  · injection e1 with _ _ e3; subst e3; unfold maxLen; omega
  · injection e1 with _ _ e3; subst e3; exact ⟨h5, h6⟩

set_option maxRecDepth 20000 in
theorem script_long (a : Option Addr) (n c : Nat) (S : Nat → Sp) (w : World) (hS : Stps w a n S) (hn : 100 < n ∨ ∃ i, i < n ∧ 300 < (S i).own.size) :
    Calls Try.prog 7 #[.slice a n c] w fun e w' => e = .returned (.bool true) ∧ Below w.heap.size w w' := by
  have HS := Lib.hid hS
  have HN := Lib.hid hn
  clear hS hn
  go_enter Try.func7, Try.ntmps7
  go_wp2_with fail
  refine (awake_any w).mono ?_
  rintro e w1 ⟨rfl, hb⟩
  have HB := Lib.hid hb
  clear hb
  go_wp2_with fail
  refine (long_any w1 a n c S (HS.out.bel HB.out)).mono ?_
  rintro e w2 ⟨b, rfl, hbf, rfl⟩
  have hb : b = true := by
    cases b with
    | true => rfl
    | false =>
      obtain ⟨h1, h2⟩ := hbf rfl
      rcases HN.out with h | ⟨i, hi, h⟩
      · omega
      · have := h2 i hi; omega
  subst hb
  clear hbf
  go_wp2_with fail
  go_ret
  exact ⟨rfl, HB.out⟩

set_option maxRecDepth 20000 in
set_option maxHeartbeats 16000000 in
theorem script_in (a : Option Addr) (n c : Nat) (S : Nat → Sp) (w : World) (hS : Stps w a n S) (hn : n ≤ 100) (ho : ∀ i, i < n → (S i).own.size ≤ 300) :
    Calls Try.prog 7 #[.slice a n c] w fun e w' => e = .returned (.bool true) ∧ Below w.heap.size w w' := by
  have HS := Lib.hid hS
  have HO := Lib.hid ho
  clear hS ho
  go_enter Try.func7, Try.ntmps7
  go_wp2_with fail
  refine (awake_any w).mono ?_
  rintro e w1 ⟨rfl, hb⟩
  have B1 := Lib.hid hb
  clear hb
  go_wp2_with fail
  refine (long_any w1 a n c S (HS.out.bel B1.out)).mono ?_
  rintro e w2 ⟨b, rfl, hbf, rfl⟩
  clear hbf
  cases b
  case true =>
    go_wp2_with fail
    go_ret
    exact ⟨rfl, B1.out⟩
  case false =>
    go_wp2_with fail
    refine (newL w1).mono ?_
    rintro e w3 ⟨t0, S0, rfl, ht, hl, hb⟩
    have B3 := Lib.hid (below_trans' B1.out hb)
    have hB4 := Below.new w3 (.cells #[.slice none 0 0] 60)
    have hnA : ∀ i, RSet w3.heap.size none i → i = w3.heap.size := fun i hi => by
      rcases hi with rfl | ⟨x, e, _⟩
      · rfl
      · cases e
    have H0 : Hid (BS w (w3.alloc (.cells #[.slice none 0 0] 60)) t0 S0 [] 0 w3.heap.size none 0) := Lib.hid
      ⟨ht.bel hB4, ⟨Blk.new w3 60 [.slice none 0 0], Tms.nil _ _, by unfold maxLen; simp, List.Pairwise.nil, by simp⟩, fun i hi ha => by have := ht.lts i hi; have := hnA i ha; omega,
        fun i hi => Nat.le_trans B1.out.size (hl i hi), fun i hi => by rw [hnA i hi]; exact B3.out.size, fun i hi => by rw [hnA i hi]; simp, B3.out.trans (hB4.mono B3.out.size), by simp⟩
    clear ht hl hb hB4 hnA
    go_wp2_with fail
    generalize w3.heap.size = r at *
    generalize w3.alloc (.cells #[.slice none 0 0] 60) = W0 at *
    go_loopw [3, 5] (fun tv iv wr => ∃ (i t : Nat) (S1 : Nat → Prop) (L : List Lt) (N : Nat) (A1 : Option Addr) (c1 : Nat), i ≤ n ∧ L.length ≤ i ∧ N ≤ i ∧ tv = .pointer (some ⟨t, 0, none⟩) ∧ iv = .int .i64 (i : Int) ∧ Hid (BS w wr t S1 L N r A1 c1)) (fun _ iv _ => n - (intOf iv).toNat)
    case atStart => exact ⟨0, t0, S0, [], 0, none, 0, by omega, by simp, by omega, rfl, rfl, H0⟩
    case round =>
      clear H0
      obtain ⟨i, t, S1, L, N, A1, c1, hi, hL, hN, rfl, rfl, HB0⟩ := hrel
      by_cases hlt : i < n
      · have hlt1 : (i : Int) < (n : Int) := by omega
        have HSi := Lib.hid (HS.out.bel HB0.out.B)
        obtain ⟨bs, os, rfl, hbs, d0, d1, d2, d3⟩ := HSi.out.cell i hlt
        obtain ⟨hat, hidw⟩ := HSi.out.wf i hlt
        have how := HO.out i hlt
        generalize S i = s at *
        obtain ⟨d, at_, own, id⟩ := s
        simp only at d0 d1 d2 d3 hat hidw how
        have HXa := Lib.hid (Blk.new wr 62 [.int .u8 d, .int .i64 at_, .string own, .int .i64 id])
        have HB := Lib.hid (HB0.out.bel (Below.new wr (.cells #[.int .u8 d, .int .i64 at_, .string own, .int .i64 id] 62)))
        have hlow : ∀ j, S1 j → j < wr.heap.size := HB0.out.tl.lts
        clear HSi HB0
        go_upto_region 11 with (fail)
        clear d0 d1 d2 d3 hbs
        have HX : Hid (Blk (wr.alloc (.cells #[.int .u8 d, .int .i64 at_, .string own, .int .i64 id] 62)) wr.heap.size 62 [.int .u8 d, .int .i64 at_, .string own, .int .i64 id]) := HXa
        clear HXa
        generalize wr.alloc (.cells #[.int .u8 d, .int .i64 at_, .string own, .int .i64 id] 62) = W1 at *
        generalize wr.heap.size = b6 at *
        have hN1 : N < 1000000 := by omega
        by_cases hk0 : d = 0
        · subst hk0
          have e0 := HX.out.cell 0
          have e1 := HX.out.cell 1
          have e2 := HX.out.cell 2
          have e3 := HX.out.cell 3
          simp only [List.getElem?_cons_succ, List.getElem?_cons_zero] at e0 e1 e2 e3
          by_cases hid : id < 0
          · have HP := Lib.hid ((set_arg W1 t S1 L N HB.out.tl at_ own id hid).mono fun _ _ ⟨a, b⟩ => (⟨a, b.symm⟩ : _ ∧ W1 = _))
            have HD := Lib.hid ((rtSet_arg W1 r at_ own id hid).mono fun _ _ ⟨a, b⟩ => (⟨a, b.symm⟩ : _ ∧ W1 = _))
            go_wp2_with (first | (go_at_call 14; refine HP.out.mono ?_; rintro e w2 ⟨rfl, rfl⟩) | (go_at_call 25; refine HD.out.mono ?_; rintro e w3 ⟨rfl, rfl⟩))
            have HTo := Lib.hid (told_any W1 t S1 _ _ HB.out.tl r A1 c1 HB.out.rt HB.out.fl)
            go_wp2_with (go_at_call 22; refine HTo.out.mono ?_; rintro e wz ⟨rfl, hbz⟩)
            go_roundw
            case rel => exact ⟨i + 1, t, S1, _, _, A1, c1, by omega, by omega, by omega, rfl, by go_num, Lib.hid (HB.out.bel hbz)⟩
            case measure => simp [intOf]; omega
          · have hfs : FitS (at_, own, id) := ⟨⟨hat, by simp only; omega, by simp only; omega, hidw.2⟩, how⟩
            by_cases hnm : named L own id
            · have HP := Lib.hid (set_no W1 t S1 L N HB.out.tl at_ own id (by omega) (.inl hnm))
              go_wp2_with fail
              refine HP.out.mono ?_
              rintro e w2 ⟨v, rfl, hv, _, hb2⟩
              obtain rfl := hv hnm
              have HB2 := Lib.hid (HB.out.bel hb2)
              have HX2 := Lib.hid (HX.out.bel hb2)
              have HD := Lib.hid ((rtSet_there w2 r A1 c1 L HB2.out.rt at_ own id (by omega) hnm).mono fun _ _ ⟨a, b⟩ => (⟨a, b.symm⟩ : _ ∧ w2 = _))
              clear hv hb2 hnm HP e0 e1 e2 e3
              have e1 := HX2.out.cell 1
              have e2 := HX2.out.cell 2
              have e3 := HX2.out.cell 3
              simp only [List.getElem?_cons_succ, List.getElem?_cons_zero] at e1 e2 e3
              go_wp2_with (go_at_call 25; refine HD.out.mono ?_; rintro e w3 ⟨rfl, rfl⟩)
              have HTo := Lib.hid (told_any w2 t S1 _ _ HB2.out.tl r A1 c1 HB2.out.rt HB2.out.fl)
              go_wp2_with (go_at_call 22; refine HTo.out.mono ?_; rintro e wz ⟨rfl, hbz⟩)
              go_roundw
              case rel => exact ⟨i + 1, t, S1, _, _, A1, c1, by omega, by omega, by omega, rfl, by go_num, Lib.hid (HB2.out.bel hbz)⟩
              case measure => simp [intOf]; omega
            · have HP := Lib.hid (setL W1 t S1 L N HB.out.tl at_ own id (by omega) hnm (by omega) (by omega))
              go_wp2_with fail
              refine HP.out.mono ?_
              rintro e w2 ⟨rfl, S2, h1, hg, hT⟩
              have RT2 := Lib.hid (HB.out.rt1 hT)
              have HX2 := Lib.hid (HX.out.turns hT (fun hs => by have := hlow _ hs; omega))
              have HD := Lib.hid (rtSet_ok w2 r A1 c1 L RT2.out at_ own id (by omega) hnm (by omega))
              have T1 := Lib.hid h1
              have G1 := Lib.hid hg
              have K1 := Lib.hid hT
              clear h1 hg hT HP e0 e1 e2 e3 hnm
              have e1 := HX2.out.cell 1
              have e2 := HX2.out.cell 2
              have e3 := HX2.out.cell 3
              simp only [List.getElem?_cons_succ, List.getElem?_cons_zero] at e1 e2 e3
              go_wp2_with fail
              refine HD.out.mono ?_
              rintro e w3 ⟨A3, c3, rfl, hr3, hb3, hT3⟩
              have HB3 := Lib.hid (HB.out.both T1.out G1.out K1.out hr3 (fun j hj => .inl ⟨hb3 j hj, hr3.blk_lt (by rw [insL_len]; omega) hj⟩) hT3 (fit_ins HB.out.fit hfs))
              clear hr3 hb3 hT3 HD
              have HTo := Lib.hid (told_any w3 t S2 _ _ HB3.out.tl r A3 c3 HB3.out.rt HB3.out.fl)
              go_wp2_with (go_at_call 22; refine HTo.out.mono ?_; rintro e wz ⟨rfl, hbz⟩)
              go_roundw
              case rel => exact ⟨i + 1, t, S2, _, _, A3, c3, by omega, by rw [insL_len]; omega, by omega, rfl, by go_num, Lib.hid (HB3.out.bel hbz)⟩
              case measure => simp [intOf]; omega
        · by_cases hk1 : d = 1
          · subst hk1
            have e0 := HX.out.cell 0
            have e1 := HX.out.cell 1
            have e2 := HX.out.cell 2
            have e3 := HX.out.cell 3
            simp only [List.getElem?_cons_succ, List.getElem?_cons_zero] at e0 e1 e2 e3
            have HP := Lib.hid (drop_any W1 t S1 L N HB.out.tl own id)
            go_wp2_with fail
            refine HP.out.mono ?_
            rintro e w2 ⟨b, rfl, hbn, S2, h1, hg, hT⟩
            have RT2 := Lib.hid (HB.out.rt1 hT)
            have HX2 := Lib.hid (HX.out.turns hT (fun hs => by have := hlow _ hs; omega))
            have T1 := Lib.hid h1
            have G1 := Lib.hid hg
            have K1 := Lib.hid hT
            clear h1 hg hT HP e0 e1 e2 e3
            have e1 := HX2.out.cell 1
            have e2 := HX2.out.cell 2
            have e3 := HX2.out.cell 3
            simp only [List.getElem?_cons_succ, List.getElem?_cons_zero] at e1 e2 e3
            by_cases hnm : named L own id
            · obtain rfl := hbn.2 hnm
              have HD := Lib.hid (rtDrop_at w2 r A1 c1 L RT2.out HB.out.tl.names own id hnm)
              clear hbn hnm
              go_wp2_with fail
              refine HD.out.mono ?_
              rintro e w3 ⟨A3, c3, rfl, hr3, hb3, hT3⟩
              have HB3 := Lib.hid (HB.out.both T1.out G1.out K1.out hr3 (fun j hj => .inl (hb3 j hj)) hT3 (fit_filter HB.out.fit))
              have hdl : (dropL L own id).length ≤ L.length := List.length_filter_le _ _
              clear hr3 hb3 hT3 HD
              have HTo := Lib.hid (told_any w3 t S2 _ _ HB3.out.tl r A3 c3 HB3.out.rt HB3.out.fl)
              go_wp2_with (go_at_call 22; refine HTo.out.mono ?_; rintro e wz ⟨rfl, hbz⟩)
              go_roundw
              case rel => exact ⟨i + 1, t, S2, _, _, A3, c3, by omega, by omega, by omega, rfl, by go_num, Lib.hid (HB3.out.bel hbz)⟩
              case measure => simp [intOf]; omega
            · have hbf : b = false := by
                cases b with
                | false => rfl
                | true => exact absurd (hbn.1 rfl) hnm
              subst hbf
              have HD := Lib.hid ((rtDrop_no w2 r A1 c1 L RT2.out own id hnm).mono fun _ _ ⟨a, b⟩ => (⟨a, b.symm⟩ : _ ∧ w2 = _))
              have T2 := Lib.hid (show TL w2 t S2 L N by have := T1.out; rwa [dropL_no hnm] at this)
              clear hbn hnm T1
              go_wp2_with (go_at_call 26; refine HD.out.mono ?_; rintro e w3 ⟨rfl, rfl⟩)
              have HB3 := Lib.hid (HB.out.both T2.out G1.out K1.out RT2.out (fun j hj => .inr hj) (Turns.refl _ _) HB.out.fit)
              have HTo := Lib.hid (told_any w2 t S2 _ _ HB3.out.tl r A1 c1 HB3.out.rt HB3.out.fl)
              go_wp2_with (go_at_call 22; refine HTo.out.mono ?_; rintro e wz ⟨rfl, hbz⟩)
              go_roundw
              case rel => exact ⟨i + 1, t, S2, _, _, A1, c1, by omega, by omega, by omega, rfl, by go_num, Lib.hid (HB3.out.bel hbz)⟩
              case measure => simp [intOf]; omega
          · by_cases hk2 : d = 2
            · subst hk2
              have e0 := HX.out.cell 0
              have e1 := HX.out.cell 1
              have e2 := HX.out.cell 2
              have e3 := HX.out.cell 3
              simp only [List.getElem?_cons_succ, List.getElem?_cons_zero] at e0 e1 e2 e3
              have HP := Lib.hid (dropAllL W1 t S1 L N HB.out.tl own)
              go_wp2_with fail
              refine HP.out.mono ?_
              rintro e w2 ⟨rfl, S2, h1, hg, hT⟩
              have RT2 := Lib.hid (HB.out.rt1 hT)
              have HX2 := Lib.hid (HX.out.turns hT (fun hs => by have := hlow _ hs; omega))
              have T1 := Lib.hid h1
              have G1 := Lib.hid hg
              have K1 := Lib.hid hT
              have HD := Lib.hid (rtDropAll w2 r A1 c1 L RT2.out own)
              rw [own_cnt] at HD
              clear h1 hg hT HP e0 e1 e2 e3
              have e1 := HX2.out.cell 1
              have e2 := HX2.out.cell 2
              have e3 := HX2.out.cell 3
              simp only [List.getElem?_cons_succ, List.getElem?_cons_zero] at e1 e2 e3
              go_wp2_with fail
              refine HD.out.mono ?_
              rintro e w3 ⟨A3, c3, rfl, hr3, hb3, hT3⟩
              have HB3 := Lib.hid (HB.out.both T1.out G1.out K1.out hr3 (fun j hj => .inl (hb3 j hj)) hT3 (fit_filter HB.out.fit))
              have hdl : (dropA L own).length ≤ L.length := List.length_filter_le _ _
              clear hr3 hb3 hT3 HD
              have HTo := Lib.hid (told_any w3 t S2 _ _ HB3.out.tl r A3 c3 HB3.out.rt HB3.out.fl)
              go_wp2_with (go_at_call 22; refine HTo.out.mono ?_; rintro e wz ⟨rfl, hbz⟩)
              go_roundw
              case rel => exact ⟨i + 1, t, S2, _, _, A3, c3, by omega, by omega, by omega, rfl, by go_num, Lib.hid (HB3.out.bel hbz)⟩
              case measure => simp [intOf]; omega
            · by_cases hk3 : d = 3
              · subst hk3
                have e0 := HX.out.cell 0
                have e1 := HX.out.cell 1
                have e2 := HX.out.cell 2
                have e3 := HX.out.cell 3
                simp only [List.getElem?_cons_succ, List.getElem?_cons_zero] at e0 e1 e2 e3
                have HP := Lib.hid (dueL W1 t S1 L N HB.out.tl at_)
                go_wp2_with fail
                refine HP.out.mono ?_
                rintro e w2 ⟨Ag, cg, rfl, hog, S2, h1, hg, hT⟩
                have RT2 := Lib.hid (HB.out.rt1 hT)
                have HX2 := Lib.hid (HX.out.turns hT (fun hs => by have := hlow _ hs; omega))
                have T1 := Lib.hid h1
                have G1 := Lib.hid hg
                have K1 := Lib.hid hT
                have HOg := Lib.hid hog
                have hrl : r < W1.heap.size := HB.out.lowA r (.inl rfl)
                have HD := Lib.hid (rtDue w2 r A1 c1 L RT2.out at_)
                clear h1 hg hT hog HP e0 e1 e2 e3
                have e1 := HX2.out.cell 1
                have e2 := HX2.out.cell 2
                have e3 := HX2.out.cell 3
                simp only [List.getElem?_cons_succ, List.getElem?_cons_zero] at e1 e2 e3
                go_wp2_with fail
                refine HD.out.mono ?_
                rintro e w3 ⟨Ad, cd, A3, c3, rfl, hod, hr3, hb3, hT3⟩
                have hog3 := own_turns HOg.out hT3 (fun g hg e => by have := (own_geT HOg.out hg).1; omega)
                have HSm := Lib.hid (rtSame w3 Ag Ad cg cd _ (ltE at_ L) rfl (Tms.of_own hog3 rfl) (Tms.of_own hod rfl) (own_caps hog3) (own_caps hod))
                have HB3 := Lib.hid (HB.out.both T1.out G1.out K1.out hr3 (fun j hj => .inr (hb3 j hj)) hT3 (fit_filter HB.out.fit))
                have hdl : (ltG at_ L).length ≤ L.length := List.length_filter_le _ _
                clear hr3 hb3 hT3 HD hog3 hod
                go_wp2_with fail
                refine HSm.out.mono ?_
                rintro e w4 ⟨rfl, nn, rfl⟩
                have HB4 := Lib.hid (HB3.out.bel (below_drewN' (Below.refl w3.heap.size w3) nn))
                have HTo := Lib.hid (told_any (w3.drewN nn) t S2 _ _ HB4.out.tl r A3 c3 HB4.out.rt HB4.out.fl)
                go_wp2_with (go_at_call 22; refine HTo.out.mono ?_; rintro e wz ⟨rfl, hbz⟩)
                go_roundw
                case rel => exact ⟨i + 1, t, S2, _, _, A3, c3, by omega, by omega, by omega, rfl, by go_num, Lib.hid (HB4.out.bel hbz)⟩
                case measure => simp [intOf]; omega
              · by_cases hk4 : d = 4
                · subst hk4
                  have e0 := HX.out.cell 0
                  have e1 := HX.out.cell 1
                  have e2 := HX.out.cell 2
                  have e3 := HX.out.cell 3
                  simp only [List.getElem?_cons_succ, List.getElem?_cons_zero] at e0 e1 e2 e3
                  have HP := Lib.hid (twinL W1 t S1 L N HB.out.tl)
                  go_wp2_with fail
                  refine HP.out.mono ?_
                  rintro e w2 ⟨t2, S2, rfl, h2, hl2, hb2⟩
                  have T2 := Lib.hid h2
                  have L2 := Lib.hid hl2
                  have B2 := Lib.hid hb2
                  have HX2 := Lib.hid (HX.out.bel hb2)
                  have TE := Lib.hid (HB.out.tl.bel hb2)
                  have HA := Lib.hid (setAny w2 t S1 L N TE.out (by omega) (by omega) at_ ⟨#[97, 110, 111, 116, 104, 101, 114]⟩)
                  clear h2 hl2 hb2 HP e0 e1 e2 e3
                  have e1 := HX2.out.cell 1
                  have e2 := HX2.out.cell 2
                  have e3 := HX2.out.cell 3
                  simp only [List.getElem?_cons_succ, List.getElem?_cons_zero] at e1 e2 e3
                  go_wp2_with fail
                  refine HA.out.mono ?_
                  rintro e w3 ⟨v3, S3, L3, N3, rfl, h3, g3, k3⟩
                  have HX3 := Lib.hid (HX2.out.turns k3 (fun hs => by have := hlow _ hs; omega))
                  have HA2 := Lib.hid (dropAny w3 t S3 L3 N3 h3 own)
                  have K3 := Lib.hid k3
                  have G3 := Lib.hid g3
                  clear h3 g3 k3 HA e1 e2 e3
                  have e1 := HX3.out.cell 1
                  have e2 := HX3.out.cell 2
                  have e3 := HX3.out.cell 3
                  simp only [List.getElem?_cons_succ, List.getElem?_cons_zero] at e1 e2 e3
                  go_wp2_with (first | (go_at_call 16; refine HA2.out.mono ?_; rintro e w4 ⟨v4, S4, L4, N4, rfl, h4, g4, k4⟩; have HB4 := Lib.hid (HB.out.turn T2.out L2.out B2.out S1 (fun _ e => .inl e) (Grows.turns K3.out G3.out k4)); have HTo := Lib.hid (told_any w4 t2 S2 _ _ HB4.out.tl r A1 c1 HB4.out.rt HB4.out.fl)) | (go_at_call 22; refine HTo.out.mono ?_; rintro e wz ⟨rfl, hbz⟩))
                  go_roundw
                  case rel => exact ⟨i + 1, t2, S2, _, _, A1, c1, by omega, by omega, by omega, rfl, by go_num, Lib.hid (HB4.out.bel hbz)⟩
                  case measure => simp [intOf]; omega
                · by_cases hk5 : d = 5
                  · subst hk5
                    have e0 := HX.out.cell 0
                    have e1 := HX.out.cell 1
                    have e2 := HX.out.cell 2
                    have e3 := HX.out.cell 3
                    simp only [List.getElem?_cons_succ, List.getElem?_cons_zero] at e0 e1 e2 e3
                    have HP := Lib.hid (opened_any W1 t S1 L N HB.out.tl HB.out.fl (tabB_small HB.out.fit (by omega)))
                    go_wp2_with (first | (go_at_call 30; refine HP.out.mono ?_; rintro e w2 ⟨t2, S2, rfl, h2, hl2, hb2⟩; have HB2 := Lib.hid (HB.out.turn h2 hl2 hb2 (fun _ => False) (fun _ e => e.elim) (Turns.refl _ _)); have HTo := Lib.hid (told_any w2 t2 S2 _ _ HB2.out.tl r A1 c1 HB2.out.rt HB2.out.fl)) | (go_at_call 22; refine HTo.out.mono ?_; rintro e wz ⟨rfl, hbz⟩))
                    go_roundw
                    case rel => exact ⟨i + 1, t2, S2, _, _, A1, c1, by omega, by omega, by omega, rfl, by go_num, Lib.hid (HB2.out.bel hbz)⟩
                    case measure => simp [intOf]; omega
                  · have e0 := HX.out.cell 0
                    have e1 := HX.out.cell 1
                    have e2 := HX.out.cell 2
                    have e3 := HX.out.cell 3
                    simp only [List.getElem?_cons_succ, List.getElem?_cons_zero] at e0 e1 e2 e3
                    have hd0 : (d == 0) = false := beq_eq_false_iff_ne.2 (by omega)
                    have hd1 : (d == 1) = false := beq_eq_false_iff_ne.2 (by omega)
                    have hd2 : (d == 2) = false := beq_eq_false_iff_ne.2 (by omega)
                    have hd3 : (d == 3) = false := beq_eq_false_iff_ne.2 (by omega)
                    have hd4 : (d == 4) = false := beq_eq_false_iff_ne.2 (by omega)
                    have hd5 : (d == 5) = false := beq_eq_false_iff_ne.2 (by omega)
                    have HTo := Lib.hid (told_any W1 t S1 _ _ HB.out.tl r A1 c1 HB.out.rt HB.out.fl)
                    go_wp2_with (go_at_call 22; refine HTo.out.mono ?_; rintro e wz ⟨rfl, hbz⟩)
                    go_roundw
                    case rel => exact ⟨i + 1, t, S1, _, _, A1, c1, by omega, by omega, by omega, rfl, by go_num, Lib.hid (HB.out.bel hbz)⟩
                    case measure => simp [intOf]; omega
      · obtain rfl : i = n := by omega
        have hlt1 : ¬ (i : Int) < (i : Int) := by omega
        go_wp2_with fail
        go_ret
        exact ⟨rfl, HB0.out.B⟩
theorem script_of (a : Option Addr) (n c : Nat) (S : Nat → Sp) (w : World) (hS : Stps w a n S) :
    Calls Try.prog 7 #[.slice a n c] w fun e w' => e = .returned (.bool true) ∧ Below w.heap.size w w' := by
  by_cases h : n ≤ 100 ∧ ∀ i, i < n → (S i).own.size ≤ 300
  · exact script_in a n c S w hS h.1 h.2
  · refine script_long a n c S w hS ?_
    by_cases h1 : 100 < n
    · exact .inl h1
    · refine .inr ?_
      apply Classical.byContradiction
      intro h2
      exact h ⟨by omega, fun i hi => by
        apply Classical.byContradiction
        intro h3
        exact h2 ⟨i, hi, by omega⟩⟩
end Go.Proofs.Yteondokncalbnaa
