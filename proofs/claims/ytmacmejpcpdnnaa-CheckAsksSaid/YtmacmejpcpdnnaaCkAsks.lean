/- check: Asks. -/
import Derived.Test.YtmacmejpcpdnnaaCkOnce
import Derived.Test.YtmacmejpcpdnnaaCkTreeIn
import Derived.Maps.AppendAt
namespace Go.Proofs.Ytmacmejpcpdnnaa
open Go.RowKit

def asks (t : List Tw) (op : Nat) : List (List UInt8) := (t.filter fun x => x.op == op).map fun x => x.text.toList
theorem enc_text (s : ByteArray) : encStr s.toList = .string s := by
  simp only [encStr, ByteArray.toList_eq]
theorem asks_yes {t : List Tw} {i : Nat} (h : i < t.length) {op : Nat} (e : t[i].op = op) : asks (t.take (i + 1)) op = asks (t.take i) op ++ [t[i].text.toList] := by
  unfold asks
  rw [List.take_succ_eq_append_getElem h, List.filter_append, List.map_append]
  simp [e]
theorem asks_no {t : List Tw} {i : Nat} (h : i < t.length) {op : Nat} (e : t[i].op ≠ op) : asks (t.take (i + 1)) op = asks (t.take i) op := by
  unfold asks
  rw [List.take_succ_eq_append_getElem h, List.filter_append, List.map_append]
  simp [e]
theorem asks_len (t : List Tw) (op : Nat) : (asks t op).length ≤ t.length := by
  unfold asks
  rw [List.length_map]
  exact List.length_filter_le _ _

theorem Strs.lower {w : World} {B B' n : Nat} {A : Option Addr} {ss : List (List UInt8)} (h : Strs w B A n ss) (hb : B' ≤ B) : Strs w B' A n ss :=
  ⟨h.len, fun i hi => by
    obtain ⟨b, e, h1, h2⟩ := h.cell i hi
    exact ⟨b, e, Nat.le_trans hb h1, h2⟩⟩
theorem results_tmp4 {fn : Func} {t u v x : Tmp} (h : fn.results = #[.tmp t, .tmp u, .tmp v, .tmp x]) (tmps : Array Value) (P : Program) (w : World) :
    (results fn tmps).run P w = .ok (.tuple #[tmps.getD t undef, tmps.getD u undef, tmps.getD v undef, tmps.getD x undef]) w := by
  simp [results, h]
/-- three rows of names of one's own, in three blocks -/
structure Tri (w : World) (B : Nat) (v1 v2 v3 : Value) (l1 l2 l3 : List (List UInt8)) : Prop where
  o1 : w.ownsRow B 9 1 v1 l1.length (l1.map encStr)
  o2 : w.ownsRow B 9 1 v2 l2.length (l2.map encStr)
  o3 : w.ownsRow B 9 1 v3 l3.length (l3.map encStr)
  d12 : ∀ g, v1.ownBlock = some g → v2.ownBlock ≠ some g
  d13 : ∀ g, v1.ownBlock = some g → v3.ownBlock ≠ some g
  d23 : ∀ g, v2.ownBlock = some g → v3.ownBlock ≠ some g
theorem Tri.own1 {w : World} {B n : Nat} {v1 v2 v3 : Value} {l1 l2 l3 : List (List UInt8)} (h : Tri w B v1 v2 v3 l1 l2 l3) (e : n = l1.length) : w.ownsRow B 9 1 v1 n (l1.map encStr) := by
  subst e
  exact h.o1
theorem Tri.s12 {w : World} {B : Nat} {v1 v2 v3 : Value} {l1 l2 l3 : List (List UInt8)} (h : Tri w B v1 v2 v3 l1 l2 l3) : Tri w B v2 v1 v3 l2 l1 l3 :=
  ⟨h.o2, h.o1, h.o3, fun g e e' => h.d12 g e' e, h.d23, h.d13⟩
theorem Tri.s13 {w : World} {B : Nat} {v1 v2 v3 : Value} {l1 l2 l3 : List (List UInt8)} (h : Tri w B v1 v2 v3 l1 l2 l3) : Tri w B v3 v2 v1 l3 l2 l1 :=
  ⟨h.o3, h.o2, h.o1, fun g e e' => h.d23 g e' e, fun g e e' => h.d13 g e' e, fun g e e' => h.d12 g e' e⟩
theorem Tri.bel {w w' : World} {B : Nat} {v1 v2 v3 : Value} {l1 l2 l3 : List (List UInt8)} (h : Tri w B v1 v2 v3 l1 l2 l3) (k : Below w.heap.size w w') : Tri w' B v1 v2 v3 l1 l2 l3 :=
  have T : Turns (fun _ => False) w w' := .of_below k
  ⟨own_turns h.o1 T (fun _ _ => id), own_turns h.o2 T (fun _ _ => id), own_turns h.o3 T (fun _ _ => id), h.d12, h.d13, h.d23⟩
theorem Tri.put {w w' : World} {B n : Nat} {v1 v2 v3 v : Value} {l1 l2 l3 l : List (List UInt8)} (h : Tri w B v1 v2 v3 l1 l2 l3) (ho : w'.ownsRow B 9 1 v n (l.map encStr)) (hg : w.grownBy w' v1.ownBlock) (ha : v.ownBlock = v1.ownBlock ∨ v.ownBlock = some w.heap.size) : Tri w' B v v2 v3 l l2 l3 := by
  have hl : l.length = n := by simpa using ho.1
  subst hl
  have T : Turns (fun j => v1.ownBlock = some j) w w' := .of_grown hg (fun r e => e)
  refine ⟨ho, own_turns h.o2 T (fun g e e' => h.d12 g e' e), own_turns h.o3 T (fun g e e' => h.d13 g e' e), fun g e e' => ?_, fun g e e' => ?_, h.d23⟩
  · rcases ha with ha | ha
    · exact h.d12 g (ha ▸ e) e'
    · have := (row_lo h.o2 e').2
      rw [ha] at e
      injection e with e
      omega
  · rcases ha with ha | ha
    · exact h.d13 g (ha ▸ e) e'
    · have := (row_lo h.o3 e').2
      rw [ha] at e
      injection e with e
      omega

def lst (t : List Tw) (op : Nat) : List (List UInt8) := if eR (slots t) = 0 then (asks t op).foldl insS [] else []
def AsksY (w : World) (t : List Tw) (e : Ending) (w' : World) : Prop :=
  Below w.heap.size w w' ∧ ∃ A1 A2 A3, e = .returned (.tuple #[.slice A1 (lst t 50).length (lst t 50).length, .slice A2 (lst t 51).length (lst t 51).length, .slice A3 (lst t 56).length (lst t 56).length, .int .i64 (eR (slots t) : Int)]) ∧
    Strs w' w.heap.size A1 (lst t 50).length (lst t 50) ∧ Strs w' w.heap.size A2 (lst t 51).length (lst t 51) ∧ Strs w' w.heap.size A3 (lst t 56).length (lst t 56)
set_option maxRecDepth 20000 in
set_option maxHeartbeats 12800000 in
theorem asks_any (w : World) (a : Option Addr) (n c : Nat) (t : List Tw) (h : TreeIn w a n c t) (hn : n ≤ 5000) :
    Calls Try.prog 19 #[.slice a n c] w (AsksY w t) := by
  obtain ⟨i0, hi, hz0, hz1, hz2⟩ := info_parts info_str
  have HNM := Lib.hid (names_any w a n c t h)
  have hln := h.tw.len
  have HLN := Lib.hid hln
  have HT := Lib.hid h
  have hc1 := h.cap.1
  have hc2 := h.cap.2
  unfold maxLen at hc2
  clear h hln
  unfold AsksY lst
  by_cases hz : eR (slots t) = 0
  · simp only [if_pos hz]
    rw [hz] at HNM ⊢
    have q0 : (((0 : Nat) : Int)) = 0 := rfl
    rw [q0] at HNM ⊢
    clear hz q0
    go_enter Try.func19, Try.ntmps19
    go_wp2_with (go_at_call 17; refine HNM.out.mono ?_; rintro e w1 ⟨rfl, hb1⟩; have HT1 := Lib.hid (HT.out.bel hb1); have HB1 := Lib.hid hb1; clear hb1)
    go_loopw [2, 3, 4, 20] (fun u1 u2 u3 iv wr => ∃ (i : Nat) (A1 A2 A3 : Option Addr) (n1 n2 n3 c1 c2 c3 : Nat), u1 = .slice A1 n1 c1 ∧ u2 = .slice A2 n2 c2 ∧ u3 = .slice A3 n3 c3 ∧ iv = .int .i64 (i : Int) ∧ i ≤ n ∧ n1 ≤ i ∧ n2 ≤ i ∧ n3 ≤ i ∧ Hid (Below w.heap.size w wr ∧ Below w1.heap.size w1 wr ∧ Tri wr w1.heap.size (.slice A1 n1 c1) (.slice A2 n2 c2) (.slice A3 n3 c3) (asks (t.take i) 50) (asks (t.take i) 51) (asks (t.take i) 56) ∧ n1 = (asks (t.take i) 50).length ∧ n2 = (asks (t.take i) 51).length ∧ n3 = (asks (t.take i) 56).length)) (fun _ _ _ iv _ => n - (intOf iv).toNat)
    case atStart => exact ⟨0, none, none, none, 0, 0, 0, 0, 0, 0, rfl, rfl, rfl, rfl, Nat.zero_le _, Nat.zero_le _, Nat.zero_le _, Nat.zero_le _, Lib.hid ⟨HB1.out, Below.refl _ _, ⟨World.ownsRow_nil _ _ _ _, World.ownsRow_nil _ _ _ _, World.ownsRow_nil _ _ _ _, (fun g e => by cases e), (fun g e => by cases e), (fun g e => by cases e)⟩, rfl, rfl, rfl⟩⟩
    case round =>
      obtain ⟨i, A1, A2, A3, n1, n2, n3, c1, c2, c3, rfl, rfl, rfl, rfl, hi9, hn1, hn2, hn3, HW⟩ := hrel
      by_cases hlt : i < n
      · have hlt' : (i : Int) < (n : Int) := by omega
        have hit : i < t.length := by rw [HLN.out]; exact hlt
        have hx : t[i]? = some t[i] := List.getElem?_eq_getElem hit
        obtain ⟨b1, o1, e1, hb1, p0, p1, p2, p3⟩ := tree_cell (HT.out.bel HW.out.1) hx
        subst e1
        have HY50 := Lib.hid (asks_yes hit (op := 50))
        have HY51 := Lib.hid (asks_yes hit (op := 51))
        have HY56 := Lib.hid (asks_yes hit (op := 56))
        have HN50 := Lib.hid (asks_no hit (op := 50))
        have HN51 := Lib.hid (asks_no hit (op := 51))
        have HN56 := Lib.hid (asks_no hit (op := 56))
        clear hx
        generalize t[i] = x at *
        have HX1 := Lib.hid (Blk.new wr 34 (twC x))
        have HB2 := Lib.hid (Below.new wr (.cells (twC x).toArray 34))
        go_upto_region 7 with fail
        unfold twC at HX1 HB2
        generalize (wr.alloc (.cells #[.int .u8 x.op, .int .i64 x.kids, .int .i64 x.int, .string x.text] 34)) = wx at *
        have x0 := HX1.out.cell 0
        have x3 := HX1.out.cell 3
        simp only [List.getElem?_cons_zero, List.getElem?_cons_succ] at x0 x3
        have HTX := Lib.hid (HW.out.2.2.1.bel HB2.out)
        have hbs : w1.heap.size ≤ wx.heap.size := Nat.le_trans HW.out.2.1.size HB2.out.size
        have HBS := Lib.hid hbs
        have HB1X := Lib.hid (HW.out.2.1.trans (HB2.out.mono HW.out.2.1.size))
        have HBX := Lib.hid (HW.out.1.trans (HB2.out.mono HW.out.1.size))
        have HNW := Lib.hid (Blk.new wx 9 [.string x.text]).news
        have HTA := Lib.hid (HTX.out.bel (Below.new wx (.cells #[.string x.text] 9)))
        have HBA : Hid (w1.heap.size ≤ (wx.alloc (.cells #[.string x.text] 9)).heap.size) := Lib.hid (by have := HBS.out; simp; omega)
        have HBN := Lib.hid (Below.new wx (.cells #[.string x.text] 9))
        clear hbs
        by_cases k50 : x.op = 50
        · have q50 : ((x.op : Int) == 50) = true := by rw [beq_iff_eq]; omega
          have HY := Lib.hid (HY50.out k50)
          have HN1 := Lib.hid (HN51.out (by omega))
          have HN2 := Lib.hid (HN56.out (by omega))
          have hl1 : Hid (n1 + 1 ≤ maxLen) := Lib.hid (by unfold maxLen; omega)
          have hl2 : Hid ((n1 + 1) * 16 ≤ 140737488355328) := Lib.hid (by omega)
          clear k50 HY50 HY51 HY56 HN50 HN51 HN56
          have HO := Lib.hid (HTA.out.own1 HW.out.2.2.2.1)
          go_wp2_with (at_builtin; refine wpList_append_own_at _ rfl _ _ 31 rfl w1.heap.size 9 i0 _ 1 16 Try.underlying31 hi hz0 hz1 hz2 rfl (by decide) _ _ _ rfl HO.out ⟨wx.heap.size, 0, none⟩ 1 1 [.string x.text] rfl rfl HNW.out (by intro u hu; simp at hu; subst hu; rfl) hl1.out hl2.out HBA.out ?_; intro v4 y4 hown4 hgr4 _ hat4; obtain ⟨A4, c4, rfl⟩ := own_slice' hown4; have HO4 := Lib.hid hown4; have HG4 := Lib.hid hgr4; have HA4 := Lib.hid hat4; clear hown4 hgr4 hat4)
          refine ⟨⟨i + 1, A4, A2, A3, n1 + 1, n2, n3, c4, c2, c3, rfl, rfl, rfl, by go_num, by omega, by omega, by omega, by omega, Lib.hid ?_⟩, by simp [intOf]; omega⟩
          rw [HY.out, HN1.out, HN2.out]
          have hp := HTA.out.put (l := asks (t.take i) 50 ++ [x.text.toList]) (by rw [List.map_append, List.map_cons, List.map_nil, enc_text]; exact HO4.out) HG4.out HA4.out
          have hg1 : Below w1.heap.size w1 y4 := ((HB1X.out.trans (HBN.out.mono HBS.out))).grown HG4.out HBA.out (fun r e => (row_lo HO.out e).1)
          exact ⟨HB1.out.trans (hg1.mono HB1.out.size), hg1, hp, by simp [HW.out.2.2.2.1], HW.out.2.2.2.2.1, HW.out.2.2.2.2.2⟩
        · have f50 : ((x.op : Int) == 50) = false := by rw [beq_eq_false_iff_ne]; omega
          by_cases k51 : x.op = 51
          · have q51 : ((x.op : Int) == 51) = true := by rw [beq_iff_eq]; omega
            have HY := Lib.hid (HY51.out k51)
            have HN1 := Lib.hid (HN50.out (by omega))
            have HN2 := Lib.hid (HN56.out (by omega))
            have hl1 : Hid (n2 + 1 ≤ maxLen) := Lib.hid (by unfold maxLen; omega)
            have hl2 : Hid ((n2 + 1) * 16 ≤ 140737488355328) := Lib.hid (by omega)
            clear k51 HY50 HY51 HY56 HN50 HN51 HN56
            have HO := Lib.hid (HTA.out.s12.own1 HW.out.2.2.2.2.1)
            go_wp2_with (at_builtin; refine wpList_append_own_at _ rfl _ _ 31 rfl w1.heap.size 9 i0 _ 1 16 Try.underlying31 hi hz0 hz1 hz2 rfl (by decide) _ _ _ rfl HO.out ⟨wx.heap.size, 0, none⟩ 1 1 [.string x.text] rfl rfl HNW.out (by intro u hu; simp at hu; subst hu; rfl) hl1.out hl2.out HBA.out ?_; intro v4 y4 hown4 hgr4 _ hat4; obtain ⟨A4, c4, rfl⟩ := own_slice' hown4; have HO4 := Lib.hid hown4; have HG4 := Lib.hid hgr4; have HA4 := Lib.hid hat4; clear hown4 hgr4 hat4)
            refine ⟨⟨i + 1, A1, A4, A3, n1, n2 + 1, n3, c1, c4, c3, rfl, rfl, rfl, by go_num, by omega, by omega, by omega, by omega, Lib.hid ?_⟩, by simp [intOf]; omega⟩
            rw [HY.out, HN1.out, HN2.out]
            have hp := (HTA.out.s12.put (l := asks (t.take i) 51 ++ [x.text.toList]) (by rw [List.map_append, List.map_cons, List.map_nil, enc_text]; exact HO4.out) HG4.out HA4.out).s12
            have hg1 : Below w1.heap.size w1 y4 := ((HB1X.out.trans (HBN.out.mono HBS.out))).grown HG4.out HBA.out (fun r e => (row_lo HO.out e).1)
            exact ⟨HB1.out.trans (hg1.mono HB1.out.size), hg1, hp, HW.out.2.2.2.1, by simp [HW.out.2.2.2.2.1], HW.out.2.2.2.2.2⟩
          · have f51 : ((x.op : Int) == 51) = false := by rw [beq_eq_false_iff_ne]; omega
            by_cases k56 : x.op = 56
            · have q56 : ((x.op : Int) == 56) = true := by rw [beq_iff_eq]; omega
              have HY := Lib.hid (HY56.out k56)
              have HN1 := Lib.hid (HN50.out (by omega))
              have HN2 := Lib.hid (HN51.out (by omega))
              have hl1 : Hid (n3 + 1 ≤ maxLen) := Lib.hid (by unfold maxLen; omega)
              have hl2 : Hid ((n3 + 1) * 16 ≤ 140737488355328) := Lib.hid (by omega)
              clear k56 HY50 HY51 HY56 HN50 HN51 HN56
              have HO := Lib.hid (HTA.out.s13.own1 HW.out.2.2.2.2.2)
              go_wp2_with (at_builtin; refine wpList_append_own_at _ rfl _ _ 31 rfl w1.heap.size 9 i0 _ 1 16 Try.underlying31 hi hz0 hz1 hz2 rfl (by decide) _ _ _ rfl HO.out ⟨wx.heap.size, 0, none⟩ 1 1 [.string x.text] rfl rfl HNW.out (by intro u hu; simp at hu; subst hu; rfl) hl1.out hl2.out HBA.out ?_; intro v4 y4 hown4 hgr4 _ hat4; obtain ⟨A4, c4, rfl⟩ := own_slice' hown4; have HO4 := Lib.hid hown4; have HG4 := Lib.hid hgr4; have HA4 := Lib.hid hat4; clear hown4 hgr4 hat4)
              refine ⟨⟨i + 1, A1, A2, A4, n1, n2, n3 + 1, c1, c2, c4, rfl, rfl, rfl, by go_num, by omega, by omega, by omega, by omega, Lib.hid ?_⟩, by simp [intOf]; omega⟩
              rw [HY.out, HN1.out, HN2.out]
              have hp := (HTA.out.s13.put (l := asks (t.take i) 56 ++ [x.text.toList]) (by rw [List.map_append, List.map_cons, List.map_nil, enc_text]; exact HO4.out) HG4.out HA4.out).s13
              have hg1 : Below w1.heap.size w1 y4 := ((HB1X.out.trans (HBN.out.mono HBS.out))).grown HG4.out HBA.out (fun r e => (row_lo HO.out e).1)
              exact ⟨HB1.out.trans (hg1.mono HB1.out.size), hg1, hp, HW.out.2.2.2.1, HW.out.2.2.2.2.1, by simp [HW.out.2.2.2.2.2]⟩
            · have f56 : ((x.op : Int) == 56) = false := by rw [beq_eq_false_iff_ne]; omega
              have HN0 := Lib.hid (HN50.out k50)
              have HN1 := Lib.hid (HN51.out k51)
              have HN2 := Lib.hid (HN56.out k56)
              clear k50 k51 k56 HY50 HY51 HY56 HN50 HN51 HN56
              go_wp2_with fail
              refine ⟨⟨i + 1, A1, A2, A3, n1, n2, n3, c1, c2, c3, rfl, rfl, rfl, by go_num, by omega, by omega, by omega, by omega, Lib.hid ?_⟩, by simp [intOf]; omega⟩
              rw [HN0.out, HN1.out, HN2.out]
              exact ⟨HBX.out, HB1X.out, HTX.out, HW.out.2.2.2⟩
      · obtain rfl : i = n := by omega
        have hlt' : ¬ (i : Int) < (i : Int) := by omega
        have HTK : Hid (t.take i = t) := Lib.hid (List.take_of_length_le (by rw [HLN.out]; exact Nat.le_refl _))
        rw [HTK.out] at HW
        have HO1 := Lib.hid (once_any wr w1.heap.size n1 (.slice A1 n1 c1) (asks t 50) (HW.out.2.2.1.own1 HW.out.2.2.2.1) (by omega))
        have HO2 := Lib.hid (fun W (T : Turns (fun j => (Value.slice A1 n1 c1).ownBlock = some j) wr W) => once_any W w1.heap.size n2 (.slice A2 n2 c2) (asks t 51) (own_turns (HW.out.2.2.1.s12.own1 HW.out.2.2.2.2.1) T (fun g e e' => HW.out.2.2.1.d12 g e' e)) (by omega))
        have HO3 := Lib.hid (fun W W' (T : Turns (fun j => (Value.slice A1 n1 c1).ownBlock = some j) wr W) (T' : Turns (fun j => (Value.slice A2 n2 c2).ownBlock = some j) W W') => once_any W' w1.heap.size n3 (.slice A3 n3 c3) (asks t 56) (own_turns (own_turns (HW.out.2.2.1.s13.own1 HW.out.2.2.2.2.2) T (fun g e e' => HW.out.2.2.1.d13 g e' e)) T' (fun g e e' => HW.out.2.2.1.d23 g e' e)) (by omega))
        go_wp2_with (first | (go_at_call 30; refine HO1.out.mono ?_; rintro e w4 ⟨B4, rfl, hs4, ht4, ho4, _⟩; have HS4 := Lib.hid hs4; have HT4 := Lib.hid ht4; have HP4 := Lib.hid ho4; clear hs4 ht4 ho4 HO1) | (go_at_call 30; refine (HO2.out w4 HT4.out).mono ?_; rintro e w5 ⟨B5, rfl, hs5, ht5, ho5, _⟩; have HS5 := Lib.hid hs5; have HT5 := Lib.hid ht5; have HP5 := Lib.hid ho5; clear hs5 ht5 ho5 HO2) | (go_at_call 30; refine (HO3.out w4 w5 HT4.out HT5.out).mono ?_; rintro e w6 ⟨B6, rfl, hs6, ht6, ho6, _⟩; have HS6 := Lib.hid hs6; have HT6 := Lib.hid ht6; have HP6 := Lib.hid ho6; clear hs6 ht6 ho6 HO3))
        (try simp only [Exit.inBlock, Exit.then]); refine bodyPost_ret (results_tmp4 rfl _ _ _) rfl ?_
        have hD := HW.out.2.2.1
        have hz1 := HW.out.2.1.size
        have b4 : Below w1.heap.size wr w4 := HT4.out.below hz1 (fun i _ e => (row_lo hD.o1 e).1)
        have b5 : Below w1.heap.size w4 w5 := HT5.out.below (Nat.le_trans hz1 b4.size) (fun i _ e => (row_lo hD.o2 e).1)
        have b6 : Below w1.heap.size w5 w6 := HT6.out.below (Nat.le_trans hz1 (Nat.le_trans b4.size b5.size)) (fun i _ e => (row_lo hD.o3 e).1)
        have b9 : Below w1.heap.size w1 w6 := ((HW.out.2.1.trans b4).trans b5).trans b6
        have hl := HB1.out.size
        exact ⟨HB1.out.trans (b9.mono hl), B4, B5, B6, rfl,
          ((HS4.out.turns HT5.out (fun g e e' => hD.d12 g (HP4.out g e) e')).turns HT6.out (fun g e e' => hD.d13 g (HP4.out g e) e')).lower hl,
          (HS5.out.turns HT6.out (fun g e e' => hD.d23 g (HP5.out g e) e')).lower hl, HS6.out.lower hl⟩
  · simp only [if_neg hz]
    generalize eR (slots t) = k at *
    have z1 : ¬ (k : Int) = 0 := by omega
    have z2 : ((k : Int) == 0) = false := by rw [beq_eq_false_iff_ne]; omega
    clear hz
    go_enter Try.func19, Try.ntmps19
    go_wp2_with (go_at_call 17; refine HNM.out.mono ?_; rintro e w1 ⟨rfl, hb1⟩; have HB1 := Lib.hid hb1; clear hb1)
    (try simp only [Exit.inBlock, Exit.then]); refine bodyPost_ret (results_tmp4 rfl _ _ _) rfl ?_
    exact ⟨HB1.out, none, none, none, rfl, ⟨rfl, fun i hi => by simp at hi⟩, ⟨rfl, fun i hi => by simp at hi⟩, ⟨rfl, fun i hi => by simp at hi⟩⟩
end Go.Proofs.Ytmacmejpcpdnnaa
