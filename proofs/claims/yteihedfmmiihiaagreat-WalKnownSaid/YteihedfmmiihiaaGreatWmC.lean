/- WmC: texts of wal, merged (a claim may hold few texts) -/
import Derived.Test.YteihedfmmiihiaaGreatDkRead
import Derived.Test.YteihedfmmiihiaaGreatMapRng
import Derived.Test.YteihedfmmiihiaaGreatDkShelfA
import Derived.Test.YteihedfmmiihiaaGreatDkShelfB
import Derived.RangeFuncGives
import Derived.RangeFuncNested
import Derived.WalkKit
import Derived.OwnWalkIn
import Derived.TacticsInMore
import Derived.RegionIn
import Derived.LoopNIn
import Derived.LoopIn
import Derived.Shelf.SlIter.Sorted
import Derived.Shelf.SortM.Plain
import Derived.Shelf.SortM.SortNone
namespace Go.Proofs.YteihedfmmiihiaaGreat
open Go.RowKit Go.Maps Go.Sort Go.Shelf
attribute [local go_sem] Oper.semAt_some

/-- a map's keys, each once, in some order -/
def AllKeys (mv : ByteArray → Option Value) (ss : List (List UInt8)) : Prop := ss.Nodup ∧ ∀ k : ByteArray, k.data.toList ∈ ss ↔ mv k ≠ none
theorem str_enc (k : ByteArray) : kStr k = encStr k.data.toList := rfl
theorem key_inj {a b : ByteArray} (h : a.data.toList = b.data.toList) : a = b := by
  cases a; cases b
  simp only at h
  congr
  exact Array.ext' h
set_option maxRecDepth 100000 in
set_option maxHeartbeats 4000000 in
theorem keys1_in (F : Fence) (n : Nat) (h8 : F.fn 71) (hro : F.round = none) (hn : 1 ≤ n) (l Bm b N : Nat) (mv : ByteArray → Option Value) (J : List (List UInt8) → World → Prop)
    (W : World) (hJ : AbidesFrom W.heap.size J)
    (hY : ∀ pre x W1, J pre W1 → pre.length < N → YieldAt F (n - 1) Tryz.prog l #[encStr x] W1 fun e W' => e = .returned (.bool true) ∧ J (pre ++ [x]) W' ∧ KeepsWalks W1 W')
    (hm : W.cell? ⟨Bm, 0, none⟩ = some (.map (some b))) (hown : MapIs kStr W b mv N) (h0 : J [] W) :
    CallsIn F n Tryz.prog 71 #[.func (.yield l) #[] #[], .pointer (some ⟨Bm, 0, none⟩)] W fun e W' => (∃ v, e = .returned v) ∧ ∃ ss, AllKeys mv ss ∧ J ss W' := by
  refine callsIn_of_wp Tryz.func71 rfl h8 ?_ hro
  simp only [Tryz.ntmps71, List.size_toArray, List.length_cons, List.length_nil, Nat.reduceAdd, Nat.reduceSub, Array.replicate_succ, Array.replicate_zero, List.push_toArray, List.append_toArray, List.nil_append, List.cons_append]
  gi_wp2_with (gi_at_range; refine wpi_range _ rfl _ 46 rfl Tryz.underlying46 rfl hown ?_; intro w0 hrg0 hg0 hs0)
  go_frame
  gi_loopw [3] (fun _ wr => ∃ (ks : List ByteArray) (cnt : Nat), Rng kStr wr b W.heap.size mv N ks cnt ∧ J (ks.map fun k => k.data.toList) wr)
    (fun _ wr => wr.rangeLeft b W.heap.size)
  case atStart =>
    exact ⟨[], N, hrg0, hJ [] W w0 none h0 hg0 (fun r e => by cases e)⟩
  case round =>
    obtain ⟨ks, cnt, hrg, hJs⟩ := hrel
    gi_wp2_with (first
      | (gi_at_next; refine wpi_next _ rfl _ rfl (fun a b e => by unfold kStr at e; injection e) rfl hrg ?_ ?_)
      | gi_in)
    · intro hc0 hl0
      gi_wp2
      go_end0
      refine ⟨⟨_, rfl⟩, _, ⟨?_, fun k => ?_⟩, hJs⟩
      · exact List.Pairwise.map _ (fun a b hab e => hab (key_inj e)) hrg.nodup
      · rw [List.mem_map]
        constructor
        · rintro ⟨k', hk', e⟩
          rw [← key_inj e]
          exact hrg.dom k' hk'
        · intro hk
          cases e : mv k with
          | none => exact absurd e hk
          | some v => exact ⟨k, hl0 k v e, rfl⟩
    · intro k v w2 cnt2 hkv hnk hrg2 hlt hg2 hs2 hen
      have hJ2 := hJ _ wr w2 (some W.heap.size) hJs hg2 (fun r e => by cases e; exact ⟨Nat.le_refl _, hrg.iter⟩)
      have hll : (ks.map fun k => k.data.toList).length < N := by have := hrg2.len; rw [List.length_append, List.length_singleton] at this; rw [List.length_map]; omega
      obtain ⟨fn, tmps, assign, body, hy, hR⟩ := hY _ k.data.toList _ hJ2 hll
      rw [← str_enc] at hy
      unfold kStr at hy hen
      clear hs2 hJ2
      gi_wp2
      refine hR.mono ?_
      rintro e W3 ⟨rfl, hJ3, hk3⟩
      gi_wp2
      have hrg4 := hrg2.walks hk3
      go_roundw
      case rel => exact ⟨_, cnt2, hrg4, by rw [List.map_append]; exact hJ3⟩
      case measure => rw [hrg4.left_eq, hrg.left_eq]; exact hlt
theorem keys_gives (F : Fence) (n : Nat) (h8 : F.fn 71) (hro : F.round = none) (hn : 1 ≤ n) (Bm b N : Nat) (mv : ByteArray → Option Value) (w : World) (hBm : Bm < w.heap.size)
    (hm : w.cell? ⟨Bm, 0, none⟩ = some (.map (some b))) (hown : MapIs kStr w b mv N) :
    SeqGives F n Tryz.prog 71 #[.pointer (some ⟨Bm, 0, none⟩)] encStr (AllKeys mv) N w := fun l J W hW hJ hY h0 =>
  keys1_in F n h8 hro hn l Bm b N mv J W hJ hY ((hW.cell (p := ⟨Bm, 0, none⟩) hBm).trans hm) (hown.below hW) h0
end Go.Proofs.YteihedfmmiihiaaGreat

namespace Go.Proofs.YteihedfmmiihiaaGreat
open Go.RowKit Go.Maps Go.Sort Go.Shelf
variable {Xs : Nat → Prop}

/-- the names of files, rising -/
def KeysOf (p : Fs) (ks : List (List UInt8)) : Prop := ks.Pairwise (· < ·) ∧ ∀ k : ByteArray, k.data.toList ∈ ks ↔ p k ≠ none
theorem leB_tr (a b c : List UInt8) (h1 : leB a b = true) (h2 : leB b c = true) : leB a c = true := by simp only [leB, decide_eq_true_eq] at *; exact List.le_trans h1 h2
theorem leB_to (a b : List UInt8) : (leB a b || leB b a) = true := by simp only [leB, Bool.or_eq_true, decide_eq_true_eq]; exact List.le_total a b
theorem lt_of_le_ne {a b : List UInt8} (h : a ≤ b) (k : a ≠ b) : a < b := by
  by_cases hl : a < b
  · exact hl
  · exact absurd (List.le_antisymm h (List.not_lt.1 hl)) k
theorem keys_sorted {p : Fs} {ss : List (List UInt8)} (hn : ss.Nodup) (hm : ∀ k : ByteArray, k.data.toList ∈ ss ↔ p k ≠ none) : KeysOf p (ss.mergeSort leB) := by
  have hp := List.mergeSort_perm ss leB
  refine ⟨?_, fun k => by rw [hp.mem_iff]; exact hm k⟩
  have h1 := List.pairwise_mergeSort leB_tr leB_to ss
  have h2 : (ss.mergeSort leB).Nodup := hp.symm.nodup hn
  exact List.Pairwise.imp₂ (fun a b h k => lt_of_le_ne (by simpa [leB] using h) k) h1 h2
theorem KeysOf.nodup {p : Fs} {ks : List (List UInt8)} (h : KeysOf p ks) : ks.Nodup := h.1.imp (fun h e => by subst e; exact List.lt_irrefl _ h)
theorem KeysOf.one {p : Fs} {ks ks' : List (List UInt8)} (h : KeysOf p ks) (h' : KeysOf p ks') : ks = ks' := by
  have hb : ∀ x : List UInt8, (⟨x.toArray⟩ : ByteArray).data.toList = x := fun x => rfl
  have hp : ks.Perm ks' := (List.perm_ext_iff_of_nodup h.nodup h'.nodup).2 fun x => by
    have a := h.2 ⟨x.toArray⟩
    have b := h'.2 ⟨x.toArray⟩
    rw [hb] at a b
    rw [a, b]
  refine List.Perm.eq_of_pairwise (le := (· < ·)) (fun a b _ _ h1 h2 => absurd (List.lt_trans h1 h2) (List.lt_irrefl _)) h.1 h'.1 hp
theorem sorts (m : Nat) : AnyZ.SortsIn Tryz.prog Tryz.sortedS_ren Fence.wide m :=
  ⟨fun blk off cap ss W hH hblk hsz => callsIn_wide.2 (AnyM.slices_Sort_string Tryz.sortS blk off cap ss W hH hblk hsz),
   fun p cap W => callsIn_wide.2 (AnyM.slices_Sort_string_none Tryz.sortS p cap W)⟩
theorem keysC (W : World) (mb : Option Nat) : Calls Tryz.prog 47 #[.map mb] W fun e w' => e = .returned (.func (.func 71) #[] #[.pointer (some ⟨W.heap.size, 0, none⟩)]) ∧ w' = W.alloc (.cells #[.map mb] 46) := by
  go_enter Tryz.func47, Tryz.ntmps47
  go_wp2_with fail
  go_ret
  exact ⟨rfl, rfl⟩
def SortedY (W : World) (p : Fs) (e : Ending) (w' : World) : Prop :=
  ∃ (v : Value) (ks : List (List UInt8)), e = .returned v ∧ KeysOf p ks ∧ w'.ownsRow W.heap.size 9 1 v ks.length (ks.map encStr) ∧ Below W.heap.size W w'
theorem sortedC (W : World) (Bm F d N : Nat) (off : Bool) (fuse : Int) (p : Fs) (h : DS Xs W d F off fuse p N) (hN : N ≤ 1000000) (hBm : Bm < W.heap.size) (hm : W.cell? ⟨Bm, 0, none⟩ = some (.map (some F))) :
    Calls Tryz.prog 46 #[.func (.func 71) #[] #[.pointer (some ⟨Bm, 0, none⟩)]] W (SortedY W p) := by
  obtain ⟨mv, n, hn, hmap, hf⟩ := h.files
  have hseq := keys_gives Fence.wide 2 trivial rfl (by omega) Bm F n mv W hBm hm hmap
  have hc := AnyZ.sorted_in Tryz.sortedS Fence.wide 5 trivial trivial trivial trivial rfl (by omega) (sorts _) (enters_of Tryz.func70 (by kernel_rfl) rfl) 71 #[.pointer (some ⟨Bm, 0, none⟩)] trivial (enters_of Tryz.func71 (by kernel_rfl) rfl) _ n (by unfold maxLen; omega) (by omega) W hseq
  refine (callsIn_wide.1 hc).mono ?_
  rintro e w' ⟨v, ss, rfl, hS, hrow, _, hb⟩
  have hk := keys_sorted (p := p) hS.1 (fun k => by
    rw [hS.2 k]
    have := (hf.get k).1
    cases e1 : mv k <;> cases e2 : p k <;> simp [e1, e2] at this ⊢)
  refine ⟨v, _, rfl, hk, ?_, hb⟩
  rw [(List.mergeSort_perm ss leB).length_eq]
  exact hrow
def NamesY (w : World) (s : Dk) (e : Ending) (w' : World) : Prop :=
  ∃ v, e = .returned (.tuple #[v, .int .i64 (goC s.off)]) ∧ Below w.heap.size w w' ∧ (s.off = true → v = .slice none 0 0) ∧ (s.off = false → ∃ ks, KeysOf s.p ks ∧ w'.ownsRow w.heap.size 9 1 v ks.length (ks.map encStr))
set_option maxRecDepth 20000 in
set_option maxHeartbeats 1000000 in
theorem namesD (w : World) (d F N : Nat) (s : Dk) (h : s.Is Xs w d F N) (hN : N ≤ 1000000) :
    Calls Tryz.prog 35 #[.pointer (some ⟨d, 0, none⟩)] w (NamesY w s) := by
  obtain ⟨off, fuse, p⟩ := s
  unfold Dk.Is at h
  simp only at h
  have HH := Lib.hid h
  have HT := Lib.hid (goesD w d F N off fuse p h)
  obtain ⟨c0, _, _⟩ := h.cells
  clear h
  cases off with
  | true =>
    unfold goC at HT
    simp only [if_true] at HT
    go_enter Tryz.func35, Tryz.ntmps35
    go_wp2_with (go_at_call 41; refine HT.out.mono ?_; rintro e w2 ⟨rfl, rfl⟩)
    go_ret2
    exact ⟨_, rfl, Below.refl _ _, fun _ => rfl, fun e => by cases e⟩
  | false =>
    unfold goC at HT
    simp only [if_false, Bool.false_eq_true] at HT
    have HB := Lib.hid (Below.new w (.cells #[.map (some F)] 46))
    have HS := Lib.hid (sortedC (w.alloc (.cells #[.map (some F)] 46)) w.heap.size F d N false fuse p (HH.out.bel HB.out) hN (by simp) ((Blk.new w 46 [.map (some F)]).box))
    have HK := Lib.hid (keysC w (some F))
    go_enter Tryz.func35, Tryz.ntmps35
    go_wp2_with (first
      | (go_at_call 41; refine HT.out.mono ?_; rintro e w2 ⟨rfl, rfl⟩)
      | (go_at_call 47; refine HK.out.mono ?_; rintro e w2 ⟨rfl, rfl⟩)
      | (go_at_call 46; refine HS.out.mono ?_; rintro e w3 ⟨v, ks, rfl, hk, ho, hb⟩; have HKS := Lib.hid hk; have HO := Lib.hid ho; have HB3 := Lib.hid hb; clear hk ho hb))
    go_ret2
    refine ⟨_, rfl, below_trans' HB.out HB3.out, (fun e => by cases e), fun _ => ⟨ks, HKS.out, ?_⟩⟩
    obtain ⟨h1, h2⟩ := HO.out
    refine ⟨h1, ?_⟩
    rcases h2 with h2 | ⟨g, cap, cur, e, h3, h4⟩
    · exact .inl h2
    · exact .inr ⟨g, cap, cur, e, Nat.le_trans HB.out.size h3, h4⟩
end Go.Proofs.YteihedfmmiihiaaGreat

namespace Go.Proofs.YteihedfmmiihiaaGreat
open Go.RowKit Go.Maps Go.Sort Go.Shelf
variable {Xs : Nat → Prop}

/-- a slice of numbers that came in -/
structure KeepR (w : World) (A : Option Addr) (n : Nat) (z : Nat → Int) : Prop where
  cell : ∀ i, i < n → ∃ b o, A = some (⟨b, o, none⟩ : Addr) ∧ b < w.heap.size ∧ w.cell? ⟨b, o + i, none⟩ = some (.int .i64 (z i))
  num : ∀ i, i < n → -9223372036854775808 ≤ z i ∧ z i ≤ 9223372036854775807
theorem KeepR.turns {S : Nat → Prop} {w w' : World} {A : Option Addr} {n : Nat} {z : Nat → Int} (h : KeepR w A n z) (t : Turns S w w') (hn : ∀ b o, A = some (⟨b, o, none⟩ : Addr) → 0 < n → ¬ S b) : KeepR w' A n z :=
  ⟨fun i hi => by
    obtain ⟨b, o, e, hb, hc⟩ := h.cell i hi
    exact ⟨b, o, e, Nat.lt_of_lt_of_le hb t.size, (t.cell (p := ⟨b, o + i, none⟩) hb (hn b o e (by omega))).trans hc⟩, h.num⟩
theorem KeepR.nil (w : World) (z : Nat → Int) : KeepR w none 0 z := ⟨fun i hi => absurd hi (Nat.not_lt_zero _), fun i hi => absurd hi (Nat.not_lt_zero _)⟩
/-- how many bytes more of a file last -/
def more (n : Nat) (z : Nat → Int) (i r : Nat) : Nat := if i < n then (if z i < 0 then 0 else if (r : Int) < z i then r else (z i).toNat) else 0
theorem more_le (n : Nat) (z : Nat → Int) (i r : Nat) : more n z i r ≤ r := by
  unfold more
  split
  · split
    · omega
    · split <;> omega
  · omega
def keyB (x : List UInt8) : ByteArray := ⟨x.toArray⟩
/-- files behind a crash, name by name -/
def crashF (n : Nat) (z : Nat → Int) : List (List UInt8) → Nat → Fs → Fs
  | [], _, p => p
  | x :: xs, i, p =>
    if (pl p (keyB x)).2 = (pl p (keyB x)).1.length then crashF n z xs i p
    else crashF n z xs (i + 1) (upd p (keyB x) ((pl p (keyB x)).1.take ((pl p (keyB x)).2 + more n z i ((pl p (keyB x)).1.length - (pl p (keyB x)).2)), (pl p (keyB x)).2 + more n z i ((pl p (keyB x)).1.length - (pl p (keyB x)).2)))
def CrashY (Xs : Nat → Prop) (w : World) (d F N n : Nat) (z : Nat → Int) (p : Fs) (e : Ending) (w' : World) : Prop :=
  e = .returned (.int .i64 0) ∧ ∃ ks, KeysOf p ks ∧ DS Xs w' d F false (-1) (crashF n z ks 0 p) N ∧ Turns (DSet d F) w w'
theorem pl_upd (p : Fs) (k y : ByteArray) (v : Fd) : pl (upd p k v) y = if y = k then v else pl p y := by
  unfold pl upd
  split <;> rfl
theorem upd_some {p : Fs} {k x : ByteArray} {v : Fd} (h : (p x).isSome = true) : (upd p k v x).isSome = true := by
  unfold upd
  split
  · rfl
  · exact h
theorem DS.noF {w : World} {d F N : Nat} {off : Bool} {fuse : Int} {p : Fs} (h : DS Xs w d F off fuse p N) (o : Nat) (v : Value) : w.cell? ⟨F, o, none⟩ ≠ some v := fun e => by
  obtain ⟨mv, n, _, ⟨es, clock, hb, _⟩, _⟩ := h.files
  simp [World.cell?, hb] at e
theorem row_keep {w w' : World} {d F N base : Nat} {off : Bool} {fuse : Int} {p : Fs} {v : Value} {n : Nat} {xs : List Value} (h : DS Xs w d F off fuse p N) (t : Turns (DSet d F) w w') (ho : w.ownsRow base 9 1 v n xs) : w'.ownsRow base 9 1 v n xs := by
  obtain ⟨mv, m, _, hm, _⟩ := h.files
  exact own_turns ho t (fun g hg e => e.elim (fun e => own_ne_blk ho hg h.blk (by decide) e) (fun e => own_ne_map ho hg hm e))
theorem keep_keep {w w' : World} {d F N : Nat} {off : Bool} {fuse : Int} {p : Fs} {A : Option Addr} {n : Nat} {z : Nat → Int} (h : DS Xs w d F off fuse p N) (t : Turns (DSet d F) w w') (hk : KeepR w A n z) (hkd : ∀ b o, A = some (⟨b, o, none⟩ : Addr) → 0 < n → b ≠ d) : KeepR w' A n z :=
  hk.turns t (fun b o e h0 hs => hs.elim (fun e2 => hkd b o e h0 e2) (fun e2 => by
    obtain ⟨b', o', e', _, hc⟩ := hk.cell 0 h0
    rw [e] at e'
    injection e' with e'
    injection e' with e1 e3 e4
    subst e1 e3
    rw [e2] at hc
    exact h.noF _ _ hc))
theorem row_at {w : World} {base : Nat} {A : Option Addr} {c : Nat} {ks : List (List UInt8)} (ho : w.ownsRow base 9 1 (.slice A ks.length c) ks.length (ks.map encStr)) (j : Nat) (hj : j < ks.length) :
    ∃ g, A = some ⟨g, 0, none⟩ ∧ g < w.heap.size ∧ w.cell? ⟨g, j, none⟩ = some (.string (keyB ks[j])) ∧ ks.length ≤ c ∧ c ≤ maxLen := by
  obtain ⟨g, cap, e, _, hg, h1, h2⟩ := own_at ho (by omega)
  injection e with e1 e2 e3
  subst e1 e3
  refine ⟨g, rfl, hg, ?_, h1, h2⟩
  rw [ho.cellAt j (by omega)]
  simp [hj, encStr, keyB]
set_option maxRecDepth 20000 in
set_option maxHeartbeats 4000000 in
theorem crashD (w : World) (d F N : Nat) (s : Dk) (h : s.Is Xs w d F N) (hN : N ≤ 1000000) (A : Option Addr) (n c : Nat) (z : Nat → Int) (hk : KeepR w A n z) (hkd : ∀ b o, A = some (⟨b, o, none⟩ : Addr) → 0 < n → b ≠ d) (hnm : n ≤ maxLen) (hL : Short s.p 100000000) :
    Calls Tryz.prog 23 #[.pointer (some ⟨d, 0, none⟩), .slice A n c] w (CrashY Xs w d F N n z s.p) := by
  obtain ⟨off, fuse, p⟩ := s
  unfold Dk.Is at h
  simp only at h hL ⊢
  unfold maxLen at hnm
  have HH := Lib.hid h
  obtain ⟨c0, _, _⟩ := h.cells
  have HM := Lib.hid (made_is w d (some F) c0)
  simp only [Option.isSome_some] at HM
  have HB := Lib.hid (Below.new w (.cells #[.map (some F)] 46))
  have HS := Lib.hid (sortedC (w.alloc (.cells #[.map (some F)] 46)) w.heap.size F d N off fuse p (HH.out.bel HB.out) hN (by simp) ((Blk.new w 46 [.map (some F)]).box))
  have HK := Lib.hid (keysC w (some F))
  have HKR := Lib.hid hk
  have HKD := Lib.hid hkd
  have HLL := Lib.hid hL
  have hdl := h.lts
  clear h hk hkd hL
  go_enter Tryz.func23, Tryz.ntmps23
  go_wp2_with (first
    | (go_at_call 45; refine HM.out.mono ?_; rintro e w2 ⟨rfl, rfl⟩)
    | (go_at_call 47; refine HK.out.mono ?_; rintro e w2 ⟨rfl, rfl⟩)
    | (go_at_call 46; refine HS.out.mono ?_; rintro e w3 ⟨v, ks, rfl, hk, ho, hb⟩; have HKS := Lib.hid hk; have HO := Lib.hid ho; have HB3 := Lib.hid (below_trans' HB.out hb); obtain ⟨gA, gC, rfl⟩ := own_slice' ho; clear hk ho hb))
  go_loopw [5, 20] (fun iv xv wr => ∃ (j i : Nat) (pj : Fs), j ≤ ks.length ∧ i ≤ j ∧ xv = .int .i64 (j : Int) ∧ iv = .int .i64 (i : Int) ∧ Hid (crashF n z (ks.drop j) i pj = crashF n z ks 0 p) ∧ Hid (DS Xs wr d F off fuse pj N) ∧ Hid (∀ x ∈ ks, (pj (keyB x)).isSome = true) ∧ Hid (Short pj 100000000) ∧ Hid (Turns (DSet d F) w2 wr) ∧ Hid (wr.ownsRow 0 9 1 (.slice gA ks.length gC) ks.length (ks.map encStr))) (fun _ xv _ => ks.length - (intOf xv).toNat)
  case atStart => exact ⟨0, 0, p, by omega, by omega, rfl, rfl, Lib.hid rfl, Lib.hid (HH.out.bel HB3.out), Lib.hid (fun x hx => by have := (HKS.out.2 (keyB x)).1 (by simpa [keyB] using hx); cases e : p (keyB x) <;> simp_all), HLL, Lib.hid (.of_below HB3.out), Lib.hid (by
    obtain ⟨h1, h2⟩ := HO.out
    refine ⟨h1, ?_⟩
    rcases h2 with h2 | ⟨g, cap, cur, e, h3, h4⟩
    · exact .inl h2
    · exact .inr ⟨g, cap, cur, e, Nat.zero_le _, h4⟩)⟩
  case round =>
    obtain ⟨j, i, pj, hj, hij, rfl, rfl, HE, HD, HI, HSh, HT, HR⟩ := hrel
    by_cases hlt : j < ks.length
    · have hlt1 : (j : Int) < (ks.length : Int) := by omega
      obtain ⟨g, hg, hgl, gc, hl1, hl2⟩ := row_at HR.out j hlt
      subst hg
      unfold maxLen at hl2
      obtain ⟨m0, _, _⟩ := HD.out.cells
      have hIs := HI.out _ (List.getElem_mem hlt)
      have hS := HSh.out (keyB ks[j])
      have HDrop := Lib.hid (List.drop_eq_getElem_cons hlt)
      generalize hx : keyB ks[j] = x at *
      have HX := Lib.hid hx
      clear hx
      obtain ⟨v, hv, hn, _, hlk⟩ := HD.out.look x
      obtain ⟨fA, fC, rfl, hfn, hc1, hc2⟩ := hv.form
      unfold maxLen at hc2
      have HV := Lib.hid hv
      unfold fileV at hlk
      generalize hLn : (pl pj x).1.length = L at *
      generalize hla : (pl pj x).2 = la at *
      have HLn := Lib.hid hLn
      have Hla := Lib.hid hla
      clear hLn hla hv hfn
      by_cases heq : la = L
      · subst heq
        go_wp2_with fail
        go_roundw
        case measure => simp only [intOf]; omega
        case rel => exact ⟨j + 1, i, pj, by omega, by omega, by go_num, rfl, Lib.hid (by rw [← HE.out, HDrop.out, crashF, HX.out, if_pos (by rw [HLn.out, Hla.out])]), Lib.hid (HD.out.bel (Below.new _ _)), HI, HSh, Lib.hid (HT.out.alloc _), Lib.hid (own_turns HR.out (.of_below (S := fun _ => False) (Below.new _ _)) (fun _ _ => id))⟩
      · have hne : ¬ (la : Int) = (L : Int) := by omega
        have hne2 : ((la : Int) == (L : Int)) = false := by simp; omega
        have hBX := Lib.hid (Below.new wr (.cells #[.slice fA L fC, .int .i64 (la : Int)] 80))
        have KX := Lib.hid (Blk.new wr 80 [.slice fA L fC, .int .i64 (la : Int)])
        by_cases hin : i < n
        · have hin1 : (i : Int) < (n : Int) := by omega
          have HKW := keep_keep HH.out HT.out HKR.out HKD.out
          obtain ⟨b, o, rfl, hbl, hkc⟩ := HKW.cell i hin
          have hzb := HKW.num i hin
          have hmq : more n z i (L - la) = if z i < 0 then 0 else if ((L - la : Nat) : Int) < z i then L - la else (z i).toNat := if_pos hin
          have hml := more_le n z i (L - la)
          generalize hK : more n z i (L - la) = K at *
          have HMK := Lib.hid hK
          have hin2 : (0 : Int) ≤ (i : Int) := by omega
          have hKq : max 0 (min (z i) ((L : Int) - (la : Int))) = (K : Int) := by
            rw [hmq]
            split
            · omega
            · split <;> omega
          clear hmq hK
          obtain ⟨M, hM⟩ : ∃ M, la + K = M := ⟨_, rfl⟩
          have HMq : Hid (la + more n z i (L - la) = M) := Lib.hid (by rw [HMK.out]; exact hM)
          have hq2 : (la : Int) + (K : Int) = (M : Int) := by omega
          clear HMK
          generalize z i = a at *
          have HKq := Lib.hid hKq
          clear hKq
          go_upto_region 11 with (fail)
          go_region
          rw [HKq.out]
          clear HKq hkc hM
          have hMb : M ≤ L ∧ la ≤ M := by omega
          go_upto_region 13 with (fail)
          have BX : Hid (Turns (fun _ => False) wr (wr.alloc (.cells #[.slice fA L fC, .int .i64 (la : Int)] 80)).drew) := Lib.hid ((Turns.of_below (S := fun _ => False) hBX.out).drewN 1)
          have KX2 : Hid (Blk (wr.alloc (.cells #[.slice fA L fC, .int .i64 (la : Int)] 80)).drew wr.heap.size 80 [.slice fA L fC, .int .i64 (la : Int)]) := Lib.hid (KX.out.drewN 1)
          have hgW := HD.out.lts
          clear KX hBX gc m0 hlk
          generalize (wr.alloc (.cells #[.slice fA L fC, .int .i64 (la : Int)] 80)).drew = X at *
          generalize hgx : wr.heap.size = gx at *
          have HG := Lib.hid hgx
          clear hgx
          have k0 := KX2.out.cell 0
          have k1 := KX2.out.cell 1
          have z0 := KX2.out.fz 0
          have z1 := KX2.out.fz 1
          have kl := KX2.out.lt
          simp only [List.getElem?_cons_succ, List.getElem?_cons_zero] at k0 k1
          go_upto_region 14 with (fail)
          have KY := Lib.hid (KX2.out.set 1 (.int .i64 (M : Int)))
          have TY := Lib.hid ((Turns.refl (fun i => i = gx) X).set ⟨gx, 1, none⟩ (.int .i64 (M : Int)) (fun _ => rfl))
          generalize X.setCell ⟨gx, 1, none⟩ (.int .i64 (M : Int)) = Y at *
          clear k0 k1 z0 z1
          have k0 := KY.out.cell 0
          have k1 := KY.out.cell 1
          have z0 := KY.out.fz 0
          have yl := KY.out.lt
          simp only [List.set_cons_succ, List.set_cons_zero, List.getElem?_cons_succ, List.getElem?_cons_zero] at k0 k1
          have hMc : (M : Int) ≤ (fC : Int) := by omega
          have hM0 : (0 : Int) ≤ (M : Int) := by omega
          go_upto_region 15 with (fail)
          have KZ := Lib.hid (KY.out.set 0 (.slice fA M fC))
          have TZ := Lib.hid (TY.out.then ((Turns.refl (fun i => i = gx) Y).set ⟨gx, 0, none⟩ (.slice fA M fC) (fun _ => rfl)))
          generalize Y.setCell ⟨gx, 0, none⟩ (.slice fA M fC) = Z at *
          clear k0 k1 z0
          have hG := HG.out
          have T0 : Turns (fun i => i = gx) wr Z := (BX.out.mono (fun _ _ e => e.elim)).then TZ.out
          have hbf : ∀ r cur, wr.heap[r]? = some (.cells cur 5 (0, 0)) → ¬ r = gx := fun r cur hr e => by
            have := (Array.getElem?_eq_some_iff.1 hr).1
            omega
          have HDZ := Lib.hid (HD.out.keep T0 (by omega) (by omega) (fun r cur e _ => hbf r cur e))
          have HVZ := Lib.hid ((HV.out.cut M (by rw [HLn.out]; omega)).turns T0 (fun r hr => hbf r _ (((HV.out.cut M (by rw [HLn.out]; omega)).lt hr).2.1.choose_spec)))
          have HRZ := Lib.hid (own_turns HR.out T0 (fun r hr e => by simp [Value.ownBlock] at hr; omega))
          have T0H := Lib.hid T0
          obtain ⟨c1, _, _⟩ := HDZ.out.cells
          obtain ⟨mv, n1, hN1, hmZ, hfZ⟩ := HDZ.out.files
          have HMZ := Lib.hid hmZ
          have HFZ := Lib.hid hfZ
          have k0 := KZ.out.cell 0
          have k1 := KZ.out.cell 1
          simp only [List.set_cons_succ, List.set_cons_zero, List.getElem?_cons_succ, List.getElem?_cons_zero] at k0 k1
          clear hbf hG T0 hmZ hfZ
          refine wp_tail 6 (by kernel_rfl) (by kernel_rfl) ?_
          simp only [List.take_succ_cons, List.take_zero, List.drop_succ_cons, List.drop_zero]
          repeat still_step
          refine wpStill_nil ?_
          have hB := below_drewN' (Below.refl Z.heap.size Z) 1
          refine wpl_update (w := Z.drew) rfl _ _ _ 46 rfl (str_keys Tryz.underlying9) Tryz.underlying46 (HMZ.out.below hB) x (fileV (.slice fA M fC) M) rfl rfl rfl ?_
          intro w4 hm4 ht4
          have HM4 := Lib.hid hm4
          have T4 := Lib.hid (((Turns.refl (fun i => i = F) Z).drewN 1).then (.of_map (S := fun i => i = F) ht4 rfl))
          clear hm4 ht4
          go_wp2_with fail
          have hlen : ((pl pj x).1.take M).length = M := by rw [List.length_take, HLn.out]; omega
          have hd := dsUpd HDZ.out hN1 HMZ.out HFZ.out x _ ((pl pj x).1.take M) M HVZ.out (by omega) HM4.out rfl T4.out
          rw [if_pos hIs] at hd
          have HD4 := Lib.hid hd
          have HT4 := Lib.hid ((HT.out.then (T0H.out.mono (T := DSet d F) (fun i hi e => by have := HG.out; omega))).then (T4.out.mono (fun _ _ e => .inr e)))
          have HR4 := Lib.hid (row_keep HDZ.out (T4.out.mono (fun _ _ e => .inr e)) HRZ.out)
          have HE4 : Hid (crashF n z (ks.drop (j + 1)) (i + 1) (upd pj x ((pl pj x).1.take M, M)) = crashF n z ks 0 p) := Lib.hid (by
            rw [← HE.out, HDrop.out, crashF, HX.out, if_neg (by rw [HLn.out, Hla.out]; exact heq), HLn.out, Hla.out, HMq.out])
          have HI4 : Hid (∀ y ∈ ks, (upd pj x ((pl pj x).1.take M, M) (keyB y)).isSome = true) := Lib.hid (fun y hy => upd_some (HI.out y hy))
          have HSh4 : Hid (Short (upd pj x ((pl pj x).1.take M, M)) 100000000) := Lib.hid (fun y => by
            rw [pl_upd]
            by_cases e : y = x
            · rw [if_pos e]
              have := HSh.out x
              simp only [List.length_take]
              omega
            · rw [if_neg e]
              exact HSh.out y)
          clear hd hlen k0 k1 c1 hIs hS
          go_roundw
          case measure => simp only [intOf]; omega
          case rel => exact ⟨j + 1, i + 1, _, by omega, by omega, by go_num, by go_num, HE4, HD4, HI4, HSh4, HT4, HR4⟩
        · have hin1 : ¬ (i : Int) < (n : Int) := by omega
          have HMq : Hid (la + more n z i (L - la) = la) := Lib.hid (by rw [show more n z i (L - la) = 0 from if_neg hin]; rfl)
          go_upto_region 13 with (fail)
          have BX : Hid (Turns (fun _ => False) wr (wr.alloc (.cells #[.slice fA L fC, .int .i64 (la : Int)] 80))) := Lib.hid (.of_below (S := fun _ => False) hBX.out)
          have KX2 : Hid (Blk (wr.alloc (.cells #[.slice fA L fC, .int .i64 (la : Int)] 80)) wr.heap.size 80 [.slice fA L fC, .int .i64 (la : Int)]) := Lib.hid KX.out
          have hgW := HD.out.lts
          clear KX hBX gc m0 hlk
          generalize (wr.alloc (.cells #[.slice fA L fC, .int .i64 (la : Int)] 80)) = X at *
          generalize hgx : wr.heap.size = gx at *
          have HG := Lib.hid hgx
          clear hgx
          have k0 := KX2.out.cell 0
          have k1 := KX2.out.cell 1
          have z0 := KX2.out.fz 0
          have z1 := KX2.out.fz 1
          have kl := KX2.out.lt
          simp only [List.getElem?_cons_succ, List.getElem?_cons_zero] at k0 k1
          go_upto_region 14 with (fail)
          have KY := Lib.hid (KX2.out.set 1 (.int .i64 (la : Int)))
          have TY := Lib.hid ((Turns.refl (fun i => i = gx) X).set ⟨gx, 1, none⟩ (.int .i64 (la : Int)) (fun _ => rfl))
          generalize X.setCell ⟨gx, 1, none⟩ (.int .i64 (la : Int)) = Y at *
          clear k0 k1 z0 z1
          have k0 := KY.out.cell 0
          have k1 := KY.out.cell 1
          have z0 := KY.out.fz 0
          have yl := KY.out.lt
          simp only [List.set_cons_succ, List.set_cons_zero, List.getElem?_cons_succ, List.getElem?_cons_zero] at k0 k1
          have hMc : (la : Int) ≤ (fC : Int) := by omega
          have hM0 : (0 : Int) ≤ (la : Int) := by omega
          go_upto_region 15 with (fail)
          have KZ := Lib.hid (KY.out.set 0 (.slice fA la fC))
          have TZ := Lib.hid (TY.out.then ((Turns.refl (fun i => i = gx) Y).set ⟨gx, 0, none⟩ (.slice fA la fC) (fun _ => rfl)))
          generalize Y.setCell ⟨gx, 0, none⟩ (.slice fA la fC) = Z at *
          clear k0 k1 z0
          have hG := HG.out
          have T0 : Turns (fun i => i = gx) wr Z := (BX.out.mono (fun _ _ e => e.elim)).then TZ.out
          have hbf : ∀ r cur, wr.heap[r]? = some (.cells cur 5 (0, 0)) → ¬ r = gx := fun r cur hr e => by
            have := (Array.getElem?_eq_some_iff.1 hr).1
            omega
          have HDZ := Lib.hid (HD.out.keep T0 (by omega) (by omega) (fun r cur e _ => hbf r cur e))
          have HVZ := Lib.hid ((HV.out.cut la (by rw [HLn.out]; omega)).turns T0 (fun r hr => hbf r _ (((HV.out.cut la (by rw [HLn.out]; omega)).lt hr).2.1.choose_spec)))
          have HRZ := Lib.hid (own_turns HR.out T0 (fun r hr e => by simp [Value.ownBlock] at hr; omega))
          have T0H := Lib.hid T0
          obtain ⟨c1, _, _⟩ := HDZ.out.cells
          obtain ⟨mv, n1, hN1, hmZ, hfZ⟩ := HDZ.out.files
          have HMZ := Lib.hid hmZ
          have HFZ := Lib.hid hfZ
          have k0 := KZ.out.cell 0
          have k1 := KZ.out.cell 1
          simp only [List.set_cons_succ, List.set_cons_zero, List.getElem?_cons_succ, List.getElem?_cons_zero] at k0 k1
          clear hbf hG T0 hmZ hfZ
          refine wp_tail 6 (by kernel_rfl) (by kernel_rfl) ?_
          simp only [List.take_succ_cons, List.take_zero, List.drop_succ_cons, List.drop_zero]
          repeat still_step
          refine wpStill_nil ?_
          have hB := below_drewN' (Below.refl Z.heap.size Z) 1
          refine wpl_update (w := Z.drew) rfl _ _ _ 46 rfl (str_keys Tryz.underlying9) Tryz.underlying46 (HMZ.out.below hB) x (fileV (.slice fA la fC) la) rfl rfl rfl ?_
          intro w4 hm4 ht4
          have HM4 := Lib.hid hm4
          have T4 := Lib.hid (((Turns.refl (fun i => i = F) Z).drewN 1).then (.of_map (S := fun i => i = F) ht4 rfl))
          clear hm4 ht4
          go_wp2_with fail
          have hlen : ((pl pj x).1.take la).length = la := by rw [List.length_take, HLn.out]; omega
          have hd := dsUpd HDZ.out hN1 HMZ.out HFZ.out x _ ((pl pj x).1.take la) la HVZ.out (by omega) HM4.out rfl T4.out
          rw [if_pos hIs] at hd
          have HD4 := Lib.hid hd
          have HT4 := Lib.hid ((HT.out.then (T0H.out.mono (T := DSet d F) (fun i hi e => by have := HG.out; omega))).then (T4.out.mono (fun _ _ e => .inr e)))
          have HR4 := Lib.hid (row_keep HDZ.out (T4.out.mono (fun _ _ e => .inr e)) HRZ.out)
          have HE4 : Hid (crashF n z (ks.drop (j + 1)) (i + 1) (upd pj x ((pl pj x).1.take la, la)) = crashF n z ks 0 p) := Lib.hid (by
            rw [← HE.out, HDrop.out, crashF, HX.out, if_neg (by rw [HLn.out, Hla.out]; exact heq), HLn.out, Hla.out, HMq.out])
          have HI4 : Hid (∀ y ∈ ks, (upd pj x ((pl pj x).1.take la, la) (keyB y)).isSome = true) := Lib.hid (fun y hy => upd_some (HI.out y hy))
          have HSh4 : Hid (Short (upd pj x ((pl pj x).1.take la, la)) 100000000) := Lib.hid (fun y => by
            rw [pl_upd]
            by_cases e : y = x
            · rw [if_pos e]
              have := HSh.out x
              simp only [List.length_take]
              omega
            · rw [if_neg e]
              exact HSh.out y)
          clear hd hlen k0 k1 c1 hIs hS
          go_roundw
          case measure => simp only [intOf]; omega
          case rel => exact ⟨j + 1, i + 1, _, by omega, by omega, by go_num, by go_num, HE4, HD4, HI4, HSh4, HT4, HR4⟩
    · obtain rfl : j = ks.length := by omega
      have hlt1 : ¬ (ks.length : Int) < (ks.length : Int) := by omega
      obtain ⟨_, m1, m2⟩ := HD.out.cells
      have z1 := HD.out.blk.fz 1
      have z2 := HD.out.blk.fz 2
      have hdl2 := HD.out.lts.1
      go_wp2_with fail
      go_ret
      have hp : pj = crashF n z ks 0 p := by
        rw [← HE.out, List.drop_length, crashF]
      refine ⟨rfl, ks, HKS.out, ?_, (HT.out.set ⟨d, 1, none⟩ _ (fun _ => .inl rfl)).set ⟨d, 2, none⟩ _ (fun _ => .inl rfl)⟩
      rw [← hp]
      exact HD.out.set false (-1) ((HD.out.blk.set 1 (.bool false)).set 2 (.int .i64 (-1))) ((Turns.of_set (S := fun i => i = d) _ ⟨d, 1, none⟩ _ rfl).set ⟨d, 2, none⟩ _ (fun _ => rfl)) (by omega)
end Go.Proofs.YteihedfmmiihiaaGreat
