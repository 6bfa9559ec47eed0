/- HeapSorts: what is popped till there is nothing are all things, in order; and so they were told. -/
import Derived.Test.YtoihhckiacmfcaaHpSortedH
import Derived.Test.YtoihhckiacmfcaaHpTakesPlain
import Derived.Test.YtoihhckiacmfcaaHpAwake
import Derived.Test.YtoihhckiacmfcaaHpTakes
import Derived.Deep.OwnRows
namespace Go.Proofs.Ytoihhckiacmfcaa
open Go.RowKit

/-- behind each round: what is left, and what is left of what was told -/
structure T5 (z : Nat → Int) (xs : List Th) (ts : Nat → Bool) (lk la : Int) (ys us : List Tri) : Prop where
  v : ∀ t ∈ xs, t.v = fun _ => .int .i64 (t.num : Int)
  key : ∀ t ∈ xs, t.key = z t.num
  off : ∀ t ∈ xs, ts t.num = false
  le : ∀ t ∈ xs, lk < t.key ∨ lk = t.key ∧ la ≤ (t.num : Int)
  p1 : ys.Perm (xs.map tri) ∧ Asc ys
  p2 : us.Perm (xs.map tri) ∧ Asc us
theorem T5.start {z : Nat → Int} {n : Nat} {xs : List Th} {ys us : List Tri} (h : xs.Perm (things z n)) (hz : ∀ i, i < n → -9223372036854775808 ≤ z i) (p1 : ys.Perm (xs.map tri) ∧ Asc ys) (p2 : us.Perm (xs.map tri) ∧ Asc us) :
    T5 z xs (fun _ => false) (-9223372036854775808) (-1) ys us where
  v t ht := by have := (mem_things.1 (h.mem_iff.1 ht)).2; rw [this]
  key t ht := by have := (mem_things.1 (h.mem_iff.1 ht)).2; rw [this]
  off _ _ := rfl
  le t ht := by
    obtain ⟨h1, h2⟩ := mem_things.1 (h.mem_iff.1 ht)
    have := hz _ h1
    rw [h2]
    simp only
    omega
  p1 := p1
  p2 := p2
theorem tri_int {t : Th} (h : t.v = fun _ => .int .i64 (t.num : Int)) : tri t = (t.key, (t.num : Int), (t.num : Int)) := by unfold tri; rw [h]; rfl
theorem T5.heads {z : Nat → Int} {xs : List Th} {ts : Nat → Bool} {lk la : Int} {ys us : List Tri} (h : T5 z xs ts lk la ys us) (hh : Heap xs) (ha : Apart xs) (h0 : 0 < xs.length) :
    ∃ ys' us', ys = (z (gT xs 0).num, ((gT xs 0).num : Int), ((gT xs 0).num : Int)) :: ys' ∧ us = (z (gT xs 0).num, ((gT xs 0).num : Int), ((gT xs 0).num : Int)) :: us' ∧
      ∀ zs, (gT xs 0 :: zs).Perm xs → T5 z zs (ups ts (gT xs 0).num) (z (gT xs 0).num) ((gT xs 0).num : Int) ys' us' := by
  have hk := h.key _ (mem_gT h0)
  have hv := h.v _ (mem_gT h0)
  cases ys with
  | nil => have := h.p1.1.length_eq; simp at this; omega
  | cons y ys' =>
  cases us with
  | nil => have := h.p2.1.length_eq; simp at this; omega
  | cons u us' =>
  obtain ⟨_, e1⟩ := head_sorted hh ha h.p1.1 h.p1.2
  obtain ⟨_, e2⟩ := head_sorted hh ha h.p2.1 h.p2.2
  have et : tri (gT xs 0) = (z (gT xs 0).num, ((gT xs 0).num : Int), ((gT xs 0).num : Int)) := by rw [tri_int hv, hk]
  refine ⟨ys', us', by rw [e1, et], by rw [e2, et], fun zs hp => ?_⟩
  have hd : Apart (gT xs 0 :: zs) := ha.perm hp
  have hx : ∀ t ∈ zs, t.num ≠ (gT xs 0).num := fun t ht e => by
    have := (List.nodup_cons.1 (show ((gT xs 0).num :: zs.map (·.num)).Nodup from hd)).1
    exact this (List.mem_map.2 ⟨t, ht, e⟩)
  have hm : ∀ t ∈ zs, t ∈ xs := fun t ht => hp.mem_iff.1 (List.mem_cons_of_mem _ ht)
  refine ⟨fun t ht => h.v t (hm t ht), fun t ht => h.key t (hm t ht), fun t ht => ?_, fun t ht => ?_, tail_sorted hh ha h.p1.1 h.p1.2 hp, tail_sorted hh ha h.p2.1 h.p2.2 hp⟩
  · unfold ups
    rw [if_neg (hx t ht)]
    exact h.off t (hm t ht)
  · obtain ⟨j, hj, rfl⟩ := List.mem_iff_getElem.1 (hm t ht)
    have h2 := hh.least j hj
    rw [gT_of hj] at h2
    unfold Th.le at h2
    omega
theorem T5.not_back {z : Nat → Int} {xs : List Th} {ts : Nat → Bool} {lk la : Int} {ys us : List Tri} (h : T5 z xs ts lk la ys us) {t : Th} (ht : t ∈ xs) : ¬ z t.num < lk ∧ ¬ (z t.num = lk ∧ (t.num : Int) < la) := by
  have h1 := h.key t ht
  have h2 := h.le t ht
  omega

/-- memory: the heap, the row of Booleans, what was told -/
structure TS (w wr : World) (p : Nat) (v : Value) (M : Nat) (xs : List Th) (n tb : Nat) (ts : Nat → Bool) (tv av : Value) (ks vs : List Value) : Prop where
  tm : TM w wr p v M xs n tb ts
  told : wr.ownsRow w.heap.size 2 1 tv n ks
  all : wr.ownsRow w.heap.size 3 1 av n vs
  far : ∀ g, (tv.ownBlock = some g ∨ av.ownBlock = some g) → g ≠ tb ∧ ¬ HS p v M g
theorem TS.move {w wr w' : World} {p : Nat} {v v' : Value} {M : Nat} {xs zs : List Th} {n tb : Nat} {ts : Nat → Bool} {tv av : Value} {ks vs : List Value} (h : TS w wr p v M xs n tb ts tv av ks vs) (hs : HStI w' p v' M zs n) (ho : v'.ownBlock = v.ownBlock) (ht : Turns (HS p v M) wr w') :
    TS w w' p v' M zs n tb ts tv av ks vs :=
  ⟨h.tm.move hs ho ht, own_turns h.told ht (fun g hg => (h.far g (.inl hg)).2), own_turns h.all ht (fun g hg => (h.far g (.inr hg)).2), fun g hg => ⟨(h.far g hg).1, fun hi => (h.far g hg).2 (by unfold HS at *; rw [ho] at hi; exact hi)⟩⟩
theorem TS.mark {w wr : World} {p : Nat} {v : Value} {M : Nat} {xs : List Th} {n tb : Nat} {ts : Nat → Bool} {tv av : Value} {ks vs : List Value} (h : TS w wr p v M xs n tb ts tv av ks vs) (j : Nat) :
    TS w (wr.setCell ⟨tb, j, none⟩ (.bool true)) p v M xs n tb (ups ts j) tv av ks vs :=
  ⟨h.tm.mark j, own_turns h.told (Turns.of_set (S := fun i => i = tb) wr ⟨tb, j, none⟩ (.bool true) rfl) (fun g hg => (h.far g (.inl hg)).1),
    own_turns h.all (Turns.of_set (S := fun i => i = tb) wr ⟨tb, j, none⟩ (.bool true) rfl) (fun g hg => (h.far g (.inr hg)).1), h.far⟩
theorem own_lo {w : World} {base e size n g : Nat} {v : Value} {xs : List Value} (h : w.ownsRow base e size v n xs) (hg : v.ownBlock = some g) : base ≤ g ∧ g < w.heap.size := by
  rcases h.2 with ⟨rfl, _⟩ | ⟨g', cap, cur, rfl, h3, h4, _⟩
  · simp [Value.ownBlock] at hg
  · simp [Value.ownBlock] at hg
    subst hg
    exact ⟨h3, (Array.getElem?_eq_some_iff.1 h4).1⟩
theorem TS.make {w w1 w2 w3 w4 : World} {p : Nat} {v : Value} {M : Nat} {xs : List Th} {n : Nat} {tv av : Value} {ks vs : List Value} (hb : Below w.heap.size w w1) (hs : HStI w2 p v M xs n) (hl : ∀ i, HS p v M i → w1.heap.size ≤ i) (hb2 : Below w1.heap.size w1 w2)
    (ho3 : w3.ownsRow w2.heap.size 2 1 tv n ks) (hb3 : Below w2.heap.size w2 w3) (ho4 : w4.ownsRow w3.heap.size 3 1 av n vs) (hb4 : Below w3.heap.size w3 w4) :
    TS w (w4.alloc (.cells (madeCells #[.bool false] n) 4)) p v M xs n w4.heap.size (fun _ => false) tv av ks vs := by
  have hlt := hs.lts
  have s1 := hb.size
  have s2 := hb2.size
  have s3 := hb3.size
  have s4 := hb4.size
  have hs4 : HStI w4 p v M xs n := (hs.bel hb3).bel hb4
  have hb24 : Below w1.heap.size w1 w4 := (hb2.trans (hb3.mono s2)).trans (hb4.mono (by omega))
  refine ⟨TM.make hb hs4 hl hb24, ?_, ?_, ?_⟩
  · exact ownsRow_base' ((own_turns ho3 (.of_below (S := fun _ => False) hb4) (fun _ _ => id)).alloc _) (by omega)
  · exact ownsRow_base' (ho4.alloc _) (by omega)
  · rintro g (hg | hg)
    · obtain ⟨a, b⟩ := own_lo ho3 hg
      exact ⟨by omega, fun hi => by have := hlt g hi; omega⟩
    · obtain ⟨a, b⟩ := own_lo ho4 hg
      exact ⟨by omega, fun hi => by have := hlt g hi; omega⟩
theorem perm_int {z : Nat → Int} {xs : List Th} {n : Nat} (h : xs.Perm (things z n)) : IntTh xs ∧ xs.length = n := ⟨(things_int z n).perm h, by rw [h.length_eq, things_len]⟩
theorem keysI (hS : SortSays) (w : World) (p : Nat) (v : Value) (M : Nat) (xs : List Th) (nx n : Nat) (h : HStI w p v M xs nx) (hi : IntTh xs) (hn : xs.length = n) (hle : n ≤ 1000) :
    Calls Try.prog 13 #[.pointer (some ⟨p, 0, none⟩)] w fun e w' => ∃ v, e = .returned v ∧ ∃ ys, (ys.Perm (xs.map tri) ∧ Asc ys) ∧ ys.length = n ∧ w'.ownsRow w.heap.size 2 1 v n (ys.map fun y => .int .i64 y.1) ∧ Below w.heap.size w w' := by
  subst hn
  exact keys_of w p xs.length _ hle (sorted_any hS w p v M xs nx h hi)
theorem allI (hS : SortSays) (w : World) (p : Nat) (v : Value) (M : Nat) (xs : List Th) (nx n : Nat) (h : HStI w p v M xs nx) (hi : IntTh xs) (hn : xs.length = n) (hle : n ≤ 1000) :
    Calls Try.prog 14 #[.pointer (some ⟨p, 0, none⟩)] w fun e w' => ∃ v, e = .returned v ∧ ∃ ys, (ys.Perm (xs.map tri) ∧ Asc ys) ∧ ys.length = n ∧ w'.ownsRow w.heap.size 3 1 v n (ys.map fun y => .int .i64 y.2.2) ∧ Below w.heap.size w w' := by
  subst hn
  exact all_of w p xs.length _ hle (sorted_any hS w p v M xs nx h hi)

theorem drop_head {α : Type} {l : List α} {k : Nat} {y : α} {r : List α} (h : l.drop k = y :: r) : l[k]? = some y ∧ l.drop (k + 1) = r := by
  refine ⟨?_, ?_⟩
  · have := congrArg (·[0]?) h
    simpa using this
  · rw [← List.drop_drop, h]; rfl

set_option maxRecDepth 20000 in
theorem sorts_long (a0 : Option Addr) (n c0 : Nat) (w : World) (hl : 300 < (n : Int)) : Calls Try.prog 4 #[.slice a0 n c0] w fun e w' => e = .returned (.bool true) ∧ Below w.heap.size w w' := by
  go_enter Try.func4, Try.ntmps4
  go_wp2_with fail
  refine (awake_any w).mono ?_
  rintro e w1 ⟨rfl, hb⟩
  have HB := Lib.hid hb
  clear hb
  go_wp2_with fail
  go_ret
  exact ⟨rfl, HB.out⟩

set_option maxRecDepth 20000 in
set_option maxHeartbeats 8000000 in
theorem sorts_short (hS : SortSays) (a0 : Option Addr) (n c0 : Nat) (z : Nat → Int) (w : World) (i0 : Ints w a0 n z) (h0 : ¬ 300 < (n : Int)) :
    Calls Try.prog 4 #[.slice a0 n c0] w fun e w' => e = .returned (.bool true) ∧ Below w.heap.size w w' := by
  have I0 := Lib.hid i0
  have HSS := Lib.hid hS
  clear i0 hS
  go_enter Try.func4, Try.ntmps4
  go_wp2_with fail
  refine (awake_any w).mono ?_
  rintro e w1 ⟨rfl, hb⟩
  have HB := Lib.hid hb
  clear hb
  go_wp2_with fail
  refine (filled_any w1 a0 n c0 z (I0.out.bel HB.out) (by omega)).mono ?_
  rintro e w2 ⟨p, rfl, v, M, xs, hs, hp, hl, hb⟩
  have HS := Lib.hid hs
  have HP := Lib.hid hp
  have HL := Lib.hid hl
  have HB2 := Lib.hid hb
  have HI := Lib.hid (perm_int hp)
  clear hs hp hl hb
  go_wp2_with fail
  refine (keysI HSS.out w2 p v M xs n n HS.out HI.out.1 HI.out.2 (by omega)).mono ?_
  rintro e w3 ⟨tv, rfl, ys, hP, hlen, ho, hb⟩
  obtain ⟨A1, k1, rfl⟩ := own_slice' ho
  have HPY := Lib.hid hP
  have HLY := Lib.hid hlen
  have HO3 := Lib.hid ho
  have HB3 := Lib.hid hb
  have HS3 := Lib.hid (HS.out.bel hb)
  clear hP hlen ho hb
  go_wp2_with fail
  refine (allI HSS.out w3 p v M xs n n HS3.out HI.out.1 HI.out.2 (by omega)).mono ?_
  rintro e w4 ⟨av, rfl, us, hP, hlen, ho, hb⟩
  obtain ⟨A2, k2, rfl⟩ := own_slice' ho
  have HPU := Lib.hid hP
  have HLU := Lib.hid hlen
  have HO4 := Lib.hid ho
  have HB4 := Lib.hid hb
  clear hP hlen ho hb
  have hmk := run_make_row' (P := Try.prog) 27 4 (.bool false) 1 Try.underlying27 info_bool rfl .i64 .i64 n (by omega) (by omega)
  go_wp2_with fail
  have HT := Lib.hid (TS.make HB.out HS.out HL.out HB2.out HO3.out HB3.out HO4.out HB4.out)
  have H1 := Lib.hid (T5.start HP.out (fun i hi => (I0.out.wf i hi).1) HPY.out HPU.out)
  generalize w4.alloc (.cells (madeCells #[.bool false] n) 4) = W at *
  generalize w4.heap.size = tb at *
  clear hmk HS HP HL HB2 HS3 HB3 HO3 HB4 HO4 HPY HPU HI
  go_loopw [7, 8, 9, 10, 11, 12, 13] (fun lkv lav iv _ _ _ _ wr => ∃ (k : Nat) (lk la : Int) (v : Value) (xs : List Th) (ts : Nat → Bool), k ≤ n ∧ lkv = .int .i64 lk ∧ lav = .int .i64 la ∧ iv = .int .i64 (k : Int) ∧ Hid (TS w wr p v M xs n tb ts (.slice A1 n k1) (.slice A2 n k2) (ys.map fun y => .int .i64 y.1) (us.map fun y => .int .i64 y.2.2)) ∧ Hid (T5 z xs ts lk la (ys.drop k) (us.drop k))) (fun _ _ iv _ _ _ _ _ => n - (intOf iv).toNat)
  case atStart => exact ⟨0, _, _, v, xs, _, by omega, rfl, rfl, rfl, HT, H1⟩
  case round =>
    clear HT H1
    obtain ⟨k, lk, la, v, xs, ts, hk, rfl, rfl, rfl, hT, h1⟩ := hrel
    have HX : Hid (xs.length = n - k) := Lib.hid (by have a := h1.out.p1.1.length_eq; have b := HLY.out; simp at a; omega)
    by_cases hlt : k < n
    · have hlt1 : (k : Int) < (n : Int) := by omega
      have h0 : 0 < xs.length := by have := HX.out; omega
      have hx := mem_gT h0
      have hnum : (gT xs 0).num < n := hT.out.tm.st.lt _ hx
      have hnb := Lib.hid (h1.out.not_back hx)
      have hpop := Lib.hid (pop1I wr p v M xs n hT.out.tm.st h0)
      have HV : Hid ((gT xs 0).v 0 = .int .i64 ((gT xs 0).num : Int)) := Lib.hid (by rw [h1.out.v _ hx])
      have HK : Hid ((gT xs 0).key = z (gT xs 0).num) := Lib.hid (h1.out.key _ hx)
      have HTS := Lib.hid (h1.out.off _ hx)
      obtain ⟨ys', us', ey, eu, hnx⟩ := h1.out.heads hT.out.tm.st.heap hT.out.tm.st.apart h0
      have HNX := Lib.hid hnx
      obtain ⟨ey1, ey2⟩ := drop_head ey
      obtain ⟨eu1, eu2⟩ := drop_head eu
      have HEY := Lib.hid ey1
      have HEU := Lib.hid eu1
      have HEY2 := Lib.hid ey2
      have HEU2 := Lib.hid eu2
      clear hnx ey eu ey1 ey2 eu1 eu2 h1
      generalize hxe : gT xs 0 = x at *
      clear hx hxe
      obtain ⟨y1, rfl, hy1, hc1⟩ := (I0.out.bel hT.out.tm.bel).cell x.num hnum
      clear hy1
      have hnum' : (x.num : Int) < (n : Int) := by omega
      have hnum0 : ¬ (n : Int) ≤ (x.num : Int) := by omega
      go_wp2_with fail
      refine hpop.out.mono ?_
      rintro e w5 ⟨he, zs, v5, p5, s5, o5, t5⟩
      rw [HV.out, HK.out] at he
      obtain rfl := he
      have HT5 := Lib.hid (hT.out.move s5 o5 t5)
      have HP5 := Lib.hid p5
      clear p5 s5 o5 t5 hc1 hpop HV HK
      obtain ⟨g1, c1, e1, vb1, hg1, hn1, hm1⟩ := own_at HT5.out.told (by omega)
      injection e1 with e1 _ e3
      subst e1 e3
      obtain ⟨g2, c2, e2, vb2, hg2, hn2, hm2⟩ := own_at HT5.out.all (by omega)
      injection e2 with e2 _ e4
      subst e2 e4
      have d1 := HT5.out.told.cellAt k (by omega)
      have d2 := HT5.out.all.cellAt k (by omega)
      rw [List.getElem?_map, HEY.out] at d1
      rw [List.getElem?_map, HEU.out] at d2
      have hb := HT5.out.tm.row.cell x.num
      rw [bl_at ts hnum, HTS.out] at hb
      have hf := HT5.out.tm.row.fz x.num
      obtain ⟨y2, e2, _, hq⟩ := (I0.out.bel HT5.out.tm.bel).cell x.num hnum
      injection e2 with e2
      subst e2
      obtain ⟨n1, n2⟩ := hnb.out
      have HN : Hid (T5 z zs (ups ts x.num) (z x.num) (x.num : Int) (ys.drop (k + 1)) (us.drop (k + 1))) := Lib.hid (by rw [HEY2.out, HEU2.out]; exact HNX.out zs HP5.out)
      have HT6 := Lib.hid (HT5.out.mark x.num)
      clear HNX HP5
      by_cases n3 : z x.num = lk
      · have n4 : ¬ (x.num : Int) < la := fun h => n2 ⟨n3, h⟩
        have n5 : (z x.num == lk) = true := by rw [beq_iff_eq]; exact n3
        clear n2 n3 vb1 vb2 hnb
        go_wp2_with fail
        go_roundw
        case measure => simp only [intOf]; omega
        case rel => exact ⟨k + 1, _, _, v5, zs, ups ts x.num, by omega, rfl, rfl, by go_num, HT6, HN⟩
      · have n5 : (z x.num == lk) = false := beq_eq_false_iff_ne.2 n3
        clear n2 n3 vb1 vb2 hnb
        go_wp2_with fail
        go_roundw
        case measure => simp only [intOf]; omega
        case rel => exact ⟨k + 1, _, _, v5, zs, ups ts x.num, by omega, rfl, rfl, by go_num, HT6, HN⟩
    · have hlt1 : ¬ (k : Int) < (n : Int) := by omega
      obtain rfl : xs = [] := List.eq_nil_of_length_eq_zero (by have := HX.out; omega)
      have hpop := Lib.hid (pop0I wr p v M n hT.out.tm.st)
      clear h1 HX
      go_wp2_with fail
      refine hpop.out.mono ?_
      rintro e w5 ⟨rfl, hb⟩
      have HLen := Lib.hid (lenI w5 p v M [] n (hT.out.tm.st.bel hb))
      have HB5 := Lib.hid (hT.out.tm.bel.trans (hb.mono hT.out.tm.bel.size))
      clear hb hpop
      go_wp2_with (go_at_call 11; refine HLen.out.mono ?_; rintro e w' ⟨rfl, rfl⟩)
      go_ret
      exact ⟨rfl, HB5.out⟩
end Go.Proofs.Ytoihhckiacmfcaa
