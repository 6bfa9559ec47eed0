/- WmF: texts of wal, merged (a claim may hold few texts) -/
import Derived.Test.YteihedfmmiihiaaGreatWlRun
import Derived.Test.YteihedfmmiihiaaGreatCodeIn
import Derived.Test.YteihedfmmiihiaaGreatWlMem
import Derived.ArgAppend
import Derived.Maps.AppendAt
namespace Go.Proofs.YteihedfmmiihiaaGreat
open Go.RowKit

/-- a block of bytes -/
def IsU8 (w : World) (g : Nat) : Prop := ∃ cur, w.heap[g]? = some (.cells cur 5 (0, 0))
theorem IsU8.ne {w : World} {g r : Nat} {t : TypeId} {cs : List Value} (h : IsU8 w g) (hb : Blk w r t cs) (ht : 5 ≠ t) : g ≠ r := by
  rintro rfl
  obtain ⟨cur, hc⟩ := h
  unfold Blk at hb
  rw [hc] at hb
  injection hb with hb
  injection hb with _ hb _
  exact ht hb
theorem IsU8.keep {w w' : World} {g : Nat} {S : Nat → Prop} (h : IsU8 w g) (k : Turns S w w') (hn : ¬ S g) : IsU8 w' g := by
  obtain ⟨cur, hc⟩ := h
  exact ⟨cur, (k.block g (Array.getElem?_eq_some_iff.1 hc).1 hn).trans hc⟩
theorem OwnB.u8 {w : World} {H c : Nat} {A : Option Addr} {l : List UInt8} (h : OwnB w H A c l) : ∀ ad, A = some ad → IsU8 w ad.block := fun ad e => by
  rcases h.2 with ⟨e1, _⟩ | ⟨g, cap, cur, e1, _, hh, _⟩
  · injection e1 with e1; rw [e] at e1; cases e1
  · injection e1 with e1
    rw [e] at e1
    rw [Option.some.inj e1]
    exact ⟨cur, hh⟩
/-- a slice of bytes that can be read, all of whose memory is bytes -/
structure Rb (w : World) (A : Option Addr) (c : Nat) (l : List UInt8) : Prop where
  inn : In w A l.length c l
  u8 : ∀ ad, A = some ad → 0 < l.length → IsU8 w ad.block
theorem Rb.keep {w w' : World} {S : Nat → Prop} {A : Option Addr} {c : Nat} {l : List UInt8} (h : Rb w A c l) (k : Turns S w w') (h2 : ∀ g, IsU8 w g → ¬ S g) : Rb w' A c l :=
  ⟨⟨h.inn.bs.kept k.size (fun ad e h0 => k.block _ (h.inn.lt ad e h0) (h2 _ (h.u8 ad e h0))), fun ad e h0 => Nat.lt_of_lt_of_le (h.inn.lt ad e h0) k.size, h.inn.cap_le⟩, fun ad e h0 => (h.u8 ad e h0).keep k (h2 _ (h.u8 ad e h0))⟩
theorem Rb.bel {w w' : World} {A : Option Addr} {c : Nat} {l : List UInt8} (h : Rb w A c l) (k : Below w.heap.size w w') : Rb w' A c l := h.keep (.of_below (S := fun _ => False) k) (fun _ _ => id)
theorem Rb.of_own {w : World} {H c : Nat} {A : Option Addr} {l : List UInt8} (h : OwnB w H A c l) : Rb w A c l :=
  ⟨⟨h.bs, fun ad e _ => by obtain ⟨cur, hc⟩ := h.u8 ad e; exact (Array.getElem?_eq_some_iff.1 hc).1, ⟨h.cap.1, h.cap.2.1⟩⟩, fun ad e _ => h.u8 ad e⟩
theorem Rb.far {w : World} {A : Option Addr} {c : Nat} {l : List UInt8} {r : Nat} {t : TypeId} {cs : List Value} (h : Rb w A c l) (hb : Blk w r t cs) (ht : 5 ≠ t) (o : Nat) (v : Value) : Rb (w.setCell ⟨r, o, none⟩ v) A c l :=
  h.keep (Turns.of_set (S := fun i => i = r) w ⟨r, o, none⟩ v rfl) (fun _ hg e => hg.ne hb ht e)
/-- the rest of it -/
theorem Rb.rest {w : World} {A A2 : Option Addr} {c k : Nat} {l : List UInt8} (h : Rb w A c l) (hk : k ≤ l.length) (hA : ∀ ad, A = some ad → (if c = k then some ad else some (ad.add k)) = A2) (hA0 : A = none → A2 = none) : Rb w A2 (c - k) (l.drop k) ∧ (l.drop k).length = l.length - k := by
  have hl : (l.drop k).length = l.length - k := List.length_drop
  refine ⟨⟨?_, ?_⟩, hl⟩
  · have hbs : Bs w A2 (l.length - k) (l.drop k) := by
      have := h.inn.bs.cut (A' := A2) k l.length hk (Nat.le_refl _) (fun a h0 e => by
        have := hA a e
        rw [if_neg (by have := h.inn.cap_le; omega)] at this
        exact this.symm)
      rwa [List.take_of_length_le (by simp)] at this
    rw [hl]
    refine ⟨hbs, fun ad e h0 => ?_, by have := h.inn.cap_le; rw [hl]; omega⟩
    obtain ⟨ad', e', hlt, _⟩ := hbs.cell 0 h0
    obtain rfl := Option.some.inj (e'.symm.trans e)
    exact hlt
  · intro ad e h0
    cases hA1 : A with
    | none => rw [hA0 hA1] at e; cases e
    | some a =>
      have := hA a hA1
      rw [if_neg (by have := h.inn.cap_le; rw [hl] at h0; omega)] at this
      rw [e] at this
      rw [← Option.some.inj this, add_block]
      exact h.u8 a hA1 (by rw [hl] at h0; omega)
/-- a reader that has these bytes to read -/
structure RdB (w : World) (rb : Nat) (l : List UInt8) : Prop where
  is : ∃ A c, Blk w rb 115 [.slice A l.length c, .bool true] ∧ Rb w A c l
theorem RdB.keep {w w' : World} {S : Nat → Prop} {rb : Nat} {l : List UInt8} (h : RdB w rb l) (k : Turns S w w') (h1 : ¬ S rb) (h2 : ∀ g, IsU8 w g → ¬ S g) : RdB w' rb l := by
  obtain ⟨A, c, hb, hr⟩ := h.is
  exact ⟨A, c, hb.turns k h1, hr.keep k h2⟩
theorem RdB.goes {w : World} {rb c k : Nat} {ad : Addr} {A2 : Option Addr} {l rest : List UInt8} (hb : Blk w rb 115 [.slice (some ad) l.length c, .bool true]) (hr : Rb w (some ad) c l) (hk : k ≤ l.length)
    (hA : (if c = k then some ad else some (ad.add k)) = A2) (hd : l.drop k = rest) : RdB ((w.setCell ⟨rb, 1, none⟩ (.bool true)).setCell ⟨rb, 0, none⟩ (.slice A2 (l.length - k) (c - k))) rb rest := by
  subst hd
  have h1 := hb.set 1 (.bool true)
  have h2 := h1.set 0 (.slice A2 (l.length - k) (c - k))
  obtain ⟨h3, h4⟩ := ((hr.far hb (by decide) 1 (.bool true)).far h1 (by decide) 0 (.slice A2 (l.length - k) (c - k))).rest (A2 := A2) hk (fun a e => by rw [← Option.some.inj e]; exact hA) (fun e => by cases e)
  exact ⟨A2, c - k, by rw [h4]; exact h2, h3⟩
theorem turn2 {w w1 : World} (h : Below w.heap.size w w1) (rb : Nat) (u v : Value) : Turns (fun i => i = rb) w ((w1.setCell ⟨rb, 1, none⟩ u).setCell ⟨rb, 0, none⟩ v) :=
  Turns.set (S := fun i => i = rb) (Turns.set (S := fun i => i = rb) (Turns.of_below h) ⟨rb, 1, none⟩ u (fun _ => rfl)) ⟨rb, 0, none⟩ v (fun _ => rfl)
def RdY (w : World) (rb : Nat) (rest : List UInt8) (v : Value) (e : Ending) (w' : World) : Prop := e = .returned v ∧ RdB w' rb rest ∧ Turns (fun i => i = rb) w w'
set_option maxRecDepth 20000 in
set_option maxHeartbeats 4000000 in
theorem num_ok (w : World) (rb n most : Nat) (rest : List UInt8) (h : RdB w rb (Cd.uB n ++ rest)) (hn : n ≤ most) (hm : most < 18446744073709551616) :
    Calls Tryz.prog 81 #[.pointer (some ⟨rb, 0, none⟩), .int .u64 most] w (RdY w rb rest (.int .u64 n)) := by
  obtain ⟨l, hl⟩ : ∃ l, Cd.uB n ++ rest = l := ⟨_, rfl⟩
  obtain ⟨k, hk⟩ : ∃ k, (Cd.uB n).length = k := ⟨_, rfl⟩
  rw [hl] at h
  have hkl : k ≤ l.length := by rw [← hl, List.length_append]; omega
  have hk0 : 0 < k := by rw [← hk]; exact Cd.uB_pos n
  have hd : l.drop k = rest := by rw [← hl, ← hk, List.drop_left]
  have hr : Cd.rdUint l 0 = .ok (n, k) := by rw [← hl, ← hk]; exact Cd.rdUint_wrote n (by omega) rest
  obtain ⟨A, c, hb, hrb⟩ := h.is
  have hi := hrb.inn
  obtain ⟨ad, rfl, hz1, hz2⟩ := hi.bs.cell 0 (by omega)
  clear hz1 hz2
  have HG := readUint_any w (some ad) l.length c l hi
  rw [hr] at HG
  have HG := Lib.hid HG
  have c0 : w.cell? ⟨rb, 0, none⟩ = some (.slice (some ad) l.length c) := hb.cell 0
  have c1 : w.cell? ⟨rb, 1, none⟩ = some (.bool true) := hb.cell 1
  have q1 : (n : Int) ≤ (most : Int) := by omega
  have q2 : (k : Int) ≤ (l.length : Int) := by omega
  obtain ⟨A2, hA2⟩ : ∃ A2, (if c = k then some ad else some (ad.add k)) = A2 := ⟨_, rfl⟩
  have HB := Lib.hid hb
  have HI := Lib.hid hrb
  have HK := Lib.hid hkl
  have HD := Lib.hid hd
  have HA := Lib.hid hA2
  have hrl := hb.lt
  clear h hb hi hrb hkl hd hl hk hr hk0 hn
  go_enter Tryz.func81, Tryz.ntmps81
  go_wp2_with fail
  refine HG.out.mono ?_
  rintro e w1 ⟨rfl, hb1⟩
  have B1 := Lib.hid hb1
  clear hb1 c0 c1
  have HB1 := Lib.hid (HB.out.bel B1.out)
  have c0 : w1.cell? ⟨rb, 0, none⟩ = some (.slice (some ad) l.length c) := HB1.out.cell 0
  have c1 : w1.cell? ⟨rb, 1, none⟩ = some (.bool true) := HB1.out.cell 1
  have z0 := HB1.out.fz 0
  have z1 := HB1.out.fz 1
  unfold u64V
  go_wp2_with fail
  go_ret
  exact ⟨rfl, RdB.goes HB1.out (HI.out.bel B1.out) HK.out HA.out HD.out, turn2 B1.out _ _ _⟩
set_option maxRecDepth 20000 in
set_option maxHeartbeats 4000000 in
theorem vote_ok (w : World) (rb : Nat) (n : Int) (rest : List UInt8) (h : RdB w rb (Cd.uB (Cd.zig n) ++ rest)) (hn : -1 ≤ n ∧ n ≤ 6) :
    Calls Tryz.prog 82 #[.pointer (some ⟨rb, 0, none⟩)] w (RdY w rb rest (.int .i64 n)) := by
  obtain ⟨l, hl⟩ : ∃ l, Cd.uB (Cd.zig n) ++ rest = l := ⟨_, rfl⟩
  obtain ⟨k, hk⟩ : ∃ k, (Cd.uB (Cd.zig n)).length = k := ⟨_, rfl⟩
  rw [hl] at h
  have hkl : k ≤ l.length := by rw [← hl, List.length_append]; omega
  have hk0 : 0 < k := by rw [← hk]; exact Cd.uB_pos _
  have hd : l.drop k = rest := by rw [← hl, ← hk, List.drop_left]
  have hr : Cd.rdInt l 0 = .ok (n, k) := by rw [← hl, ← hk]; exact Cd.rdInt_wrote n (by have := zig_vote hn; omega) rest
  obtain ⟨A, c, hb, hrb⟩ := h.is
  have hi := hrb.inn
  obtain ⟨ad, rfl, hz1, hz2⟩ := hi.bs.cell 0 (by omega)
  clear hz1 hz2
  have HG := readInt_any w (some ad) l.length c l hi
  rw [hr] at HG
  have HG := Lib.hid HG
  have c0 : w.cell? ⟨rb, 0, none⟩ = some (.slice (some ad) l.length c) := hb.cell 0
  have c1 : w.cell? ⟨rb, 1, none⟩ = some (.bool true) := hb.cell 1
  have q1 : -1 ≤ n := by omega
  have q3 : n < 7 := by omega
  have q2 : (k : Int) ≤ (l.length : Int) := by omega
  obtain ⟨A2, hA2⟩ : ∃ A2, (if c = k then some ad else some (ad.add k)) = A2 := ⟨_, rfl⟩
  have HB := Lib.hid hb
  have HI := Lib.hid hrb
  have HK := Lib.hid hkl
  have HD := Lib.hid hd
  have HA := Lib.hid hA2
  have hrl := hb.lt
  clear h hb hi hrb hkl hd hl hk hr hk0 hn
  go_enter Tryz.func82, Tryz.ntmps82
  go_wp2_with fail
  refine HG.out.mono ?_
  rintro e w1 ⟨rfl, hb1⟩
  have B1 := Lib.hid hb1
  clear hb1 c0 c1
  have HB1 := Lib.hid (HB.out.bel B1.out)
  have c0 : w1.cell? ⟨rb, 0, none⟩ = some (.slice (some ad) l.length c) := HB1.out.cell 0
  have c1 : w1.cell? ⟨rb, 1, none⟩ = some (.bool true) := HB1.out.cell 1
  have z0 := HB1.out.fz 0
  have z1 := HB1.out.fz 1
  unfold i64V
  go_wp2_with fail
  go_ret
  exact ⟨rfl, RdB.goes HB1.out (HI.out.bel B1.out) HK.out HA.out HD.out, turn2 B1.out _ _ _⟩
set_option maxRecDepth 20000 in
set_option maxHeartbeats 4000000 in
theorem text_ok (w : World) (rb : Nat) (d : ByteArray) (rest : List UInt8) (h : RdB w rb (Cd.textB d.data.toList ++ rest)) (hn : d.size ≤ 65536) :
    Calls Tryz.prog 83 #[.pointer (some ⟨rb, 0, none⟩)] w (RdY w rb rest (.string d)) := by
  obtain ⟨l, hl⟩ : ∃ l, Cd.textB d.data.toList ++ rest = l := ⟨_, rfl⟩
  obtain ⟨k, hk⟩ : ∃ k, (Cd.textB d.data.toList).length = k := ⟨_, rfl⟩
  rw [hl] at h
  have hkl : k ≤ l.length := by rw [← hl, List.length_append]; omega
  have hk0 : 0 < k := by rw [← hk]; unfold Cd.textB; rw [List.length_append]; have := Cd.uB_pos d.data.toList.length; omega
  have hd : l.drop k = rest := by rw [← hl, ← hk, List.drop_left]
  have hr : Cd.rdText l 0 = .ok (d.data.toList, k) := by rw [← hl, ← hk]; exact Cd.rdText_wrote d.data.toList (by rw [show d.data.toList.length = d.size from by simp]; omega) rest
  obtain ⟨A, c, hb, hrb⟩ := h.is
  have hi := hrb.inn
  obtain ⟨ad, rfl, hz1, hz2⟩ := hi.bs.cell 0 (by omega)
  clear hz1 hz2
  have HG := readText_any w (some ad) l.length c l hi
  rw [hr] at HG
  have HG := Lib.hid HG
  have c0 : w.cell? ⟨rb, 0, none⟩ = some (.slice (some ad) l.length c) := hb.cell 0
  have c1 : w.cell? ⟨rb, 1, none⟩ = some (.bool true) := hb.cell 1
  have q2 : (k : Int) ≤ (l.length : Int) := by omega
  obtain ⟨A2, hA2⟩ : ∃ A2, (if c = k then some ad else some (ad.add k)) = A2 := ⟨_, rfl⟩
  have HB := Lib.hid hb
  have HI := Lib.hid hrb
  have HK := Lib.hid hkl
  have HD := Lib.hid hd
  have HA := Lib.hid hA2
  have hrl := hb.lt
  clear h hb hi hrb hkl hd hl hk hr hk0 hn
  go_enter Tryz.func83, Tryz.ntmps83
  go_wp2_with fail
  refine HG.out.mono ?_
  rintro e w1 ⟨rfl, hb1⟩
  have B1 := Lib.hid hb1
  clear hb1 c0 c1
  have HB1 := Lib.hid (HB.out.bel B1.out)
  have c0 : w1.cell? ⟨rb, 0, none⟩ = some (.slice (some ad) l.length c) := HB1.out.cell 0
  have c1 : w1.cell? ⟨rb, 1, none⟩ = some (.bool true) := HB1.out.cell 1
  have z0 := HB1.out.fz 0
  have z1 := HB1.out.fz 1
  have hsv : strV d.data.toList = .string d := rfl
  rw [hsv]
  go_wp2_with fail
  go_ret
  exact ⟨rfl, RdB.goes HB1.out (HI.out.bel B1.out) HK.out HA.out HD.out, turn2 B1.out _ _ _⟩
end Go.Proofs.YteihedfmmiihiaaGreat

namespace Go.Proofs.YteihedfmmiihiaaGreat
open Go.RowKit

theorem info_entry : (Tryz.prog.info? 29).map (fun i => (i.zero, i.size, i.bytes)) = some (some (.agg #[.int .i64 0, .string ⟨#[]⟩]), 2, 24) := by kernel_rfl
/-- a row of entries of the call's own -/
def OwnE (w : World) (H : Nat) (A : Option Addr) (c : Nat) (L : List En) : Prop := w.ownsRow H 29 2 (.slice A L.length c) L.length (L.flatMap enC)
section
variable {w w' : World} {H K c n : Nat} {A : Option Addr} {L : List En} {S : Nat → Prop}
theorem OwnE.nil (w : World) (H : Nat) : OwnE w H none 0 [] := World.ownsRow_nil _ _ _ _
theorem OwnE.lg (h : OwnE w H A c L) : Lg w A L.length c L := .of_own h rfl
theorem OwnE.keep (h : OwnE w H A c L) (k : Turns S w w') (hn : ∀ g, A.map Addr.block = some g → ¬ S g) : OwnE w' H A c L := own_turns h k (fun g hg => hn g (by
  cases A with
  | none => simp [Value.ownBlock] at hg
  | some a => simpa [Value.ownBlock] using hg))
theorem OwnE.bel (h : OwnE w H A c L) (k : Below w.heap.size w w') : OwnE w' H A c L := h.keep (.of_below (S := fun _ => False) k) (fun _ _ => id)
theorem OwnE.weak (h : OwnE w H A c L) (hk : K ≤ H) : OwnE w K A c L := ⟨h.1, by
  rcases h.2 with h1 | ⟨g, cap', cur, e, h2, h3⟩
  · exact .inl h1
  · exact .inr ⟨g, cap', cur, e, Nat.le_trans hk h2, h3⟩⟩
theorem OwnE.ge (h : OwnE w H A c L) : ∀ g, A.map Addr.block = some g → H ≤ g := fun g hg => own_ge h (by
  cases A with
  | none => simp at hg
  | some a => simpa [Value.ownBlock] using hg)
theorem OwnE.is (h : OwnE w H A c L) : ∀ g, A.map Addr.block = some g → ∃ cs, w.heap[g]? = some (.cells cs 29 (0, 0)) := fun g hg => by
  rcases h.2 with ⟨e1, _⟩ | ⟨g', cap, cur, e1, _, hh, _⟩
  · injection e1 with e1; rw [e1] at hg; cases hg
  · injection e1 with e1
    rw [e1] at hg
    injection hg with hg
    subst hg
    exact ⟨cur, hh⟩
end
/-- a block of entries -/
def IsEn (w : World) (g : Nat) : Prop := ∃ cs, w.heap[g]? = some (.cells cs 29 (0, 0))
theorem IsEn.ne {w : World} {g r : Nat} {t : TypeId} {cs : List Value} (h : IsEn w g) (hb : Blk w r t cs) (ht : 29 ≠ t) : g ≠ r := by
  rintro rfl
  obtain ⟨cur, hc⟩ := h
  unfold Blk at hb
  rw [hc] at hb
  injection hb with hb
  injection hb with _ hb _
  exact ht hb
theorem IsEn.ne8 {w : World} {g r : Nat} (h : IsEn w g) (hb : IsU8 w r) : g ≠ r := by
  rintro rfl
  obtain ⟨cur, hc⟩ := h
  obtain ⟨cur2, hc2⟩ := hb
  rw [hc] at hc2
  injection hc2 with hb
  injection hb with _ hb _
  exact absurd hb (by decide)
theorem enC_one (L : List En) : ∀ u ∈ L.flatMap enC, u.oneCell' = true := fun u hu => by
  obtain ⟨x, _, hx⟩ := List.mem_flatMap.1 hu
  simp [enC] at hx
  rcases hx with rfl | rfl <;> rfl
theorem Ens.some_at {w : World} {A : Option Addr} {L : List En} (h : Ens w A L) (h0 : 0 < L.length) : ∃ g o, A = some ⟨g, o, none⟩ := by
  obtain ⟨g, o, cs, e, _⟩ := h 0 h0
  exact ⟨g, o, e⟩
/-- entries behind a row of the call's own -/
theorem append_own_en (w : World) (H : Nat) (A : Option Addr) (c : Nat) (L : List En) (h : OwnE w H A c L) (hH : H ≤ w.heap.size) (B : Option Addr) (m cb : Nat) (M : List En) (hs : Lg w B m cb M) (hL : L.length + M.length ≤ 1000000000) (ty : TypeId) (r : List En) (hr : r = L ++ M) :
    ∃ A' c' w', (Builtin.append_ #[25, 25] ty #[.slice A L.length c, .slice B m cb]).run Tryz.prog w = .ok (.slice A' r.length c') w' ∧ OwnE w' H A' c' r ∧ Below H w w' ∧ Turns (IsEn w) w w' := by
  obtain ⟨i0, hi, hz0, hz1, hz2⟩ := info_parts info_entry
  have hm := hs.len
  by_cases h0 : m = 0
  · have hM : M = [] := List.eq_nil_of_length_eq_zero (by omega)
    subst hM
    subst h0
    rw [List.append_nil] at hr
    subst hr
    have hsrc : Src Tryz.prog i0.size 25 (.slice B 0 cb) 0 [] w := by
      cases B with
      | none => exact Src.ofNil w Tryz.underlying25 cb
      | some a => exact Src.ofSlice w Tryz.underlying25 a 0 cb [] (by simp) (by simp) (by simp)
    have hle : r.length ≤ c := h.lg.cap.1
    have hrun := run_append_nothing w 25 25 ty 29 i0 Tryz.underlying25 hi A r.length c hle _ hsrc
    exact ⟨A, c, w, hrun, h, Below.refl _ _, Turns.refl _ _⟩
  · obtain ⟨g, o, rfl⟩ := hs.ens.some_at (by omega)
    obtain ⟨v', w', hrun, r1, r2, _, r4⟩ := run_append_own_at (P := Tryz.prog) w H 25 ty 29 i0 _ 2 24 Tryz.underlying25 hi hz0 hz1 hz2 rfl (by decide) _ L.length (L.flatMap enC) h ⟨g, o, none⟩ m cb (M.flatMap enC) (by rw [flat_len enC 2 enC_len, hm]) hs.ens.adds (enC_one M) (by unfold maxLen; omega) (by omega) hH
    rw [← List.flatMap_append, ← hr] at r1
    obtain ⟨A', c', rfl⟩ := own_slice' r1
    have e : L.length + m = r.length := by rw [hr, List.length_append]; omega
    rw [e] at r1 hrun
    exact ⟨A', c', w', hrun, r1, (Below.refl H w).grown r2 hH (fun k hk => (h.lt k hk).1), .of_grown r2 (fun r hr => h.is r (by
      cases A with
      | none => simp [Value.ownBlock] at hr
      | some a => simpa [Value.ownBlock] using hr))⟩
/-- entries behind a slice that is full, or of the call's own -/
def Gro (w : World) (H : Nat) (A : Option Addr) (c : Nat) (L : List En) : Prop := OwnE w H A c L ∨ (c = L.length ∧ Lg w A L.length L.length L)
theorem append_gro_en (w : World) (H : Nat) (A : Option Addr) (c : Nat) (L : List En) (h : Gro w H A c L) (hH : H ≤ w.heap.size) (B : Option Addr) (m cb : Nat) (M : List En) (hs : Lg w B m cb M) (h0 : 0 < m) (hL : L.length + M.length ≤ 1000000000) (ty : TypeId) (r : List En) (hr : r = L ++ M) :
    ∃ A' c' w', (Builtin.append_ #[25, 25] ty #[.slice A L.length c, .slice B m cb]).run Tryz.prog w = .ok (.slice A' r.length c') w' ∧ OwnE w' H A' c' r ∧ Below H w w' ∧ Turns (IsEn w) w w' := by
  rcases h with h | ⟨rfl, h⟩
  · exact append_own_en w H A c L h hH B m cb M hs hL ty r hr
  · cases A with
    | none =>
      have := h.nil rfl
      have hl : L = [] := List.eq_nil_of_length_eq_zero this.1
      subst hl
      exact append_own_en w H none 0 [] (.nil _ _) hH B m cb M hs hL ty r hr
    | some a =>
      obtain ⟨i0, hi, hz0, hz1, hz2⟩ := info_parts info_entry
      have hm := hs.len
      obtain ⟨g, o, rfl⟩ := hs.ens.some_at (by omega)
      have holds : ∀ j u, (L.flatMap enC)[j]? = some u → w.cell? (a.add j) = some u := fun j u hj => by
        have hl0 : 0 < L.length := by
          have := (List.getElem?_eq_some_iff.1 hj).1
          rw [flat_len enC 2 enC_len] at this
          omega
        obtain ⟨g', o', e⟩ := h.ens.some_at hl0
        have he := h.ens
        have ea := Option.some.inj e
        rw [ea] at he ⊢
        exact he.adds j u hj
      obtain ⟨v', w', hrun, r1, r2⟩ := run_append_arg_grows (P := Tryz.prog) w 25 ty 29 i0 _ 2 24 Tryz.underlying25 hi hz0 hz1 hz2 rfl (by decide) a L.length L.length (L.flatMap enC) (by rw [flat_len enC 2 enC_len]) holds ⟨g, o, none⟩ m cb (M.flatMap enC) (by rw [flat_len enC 2 enC_len, hm]) hs.ens.adds (by omega) (by unfold maxLen; omega) (by omega)
      rw [← List.flatMap_append, ← hr] at r1
      obtain ⟨A', c', rfl⟩ := own_slice' r1
      have e : L.length + m = r.length := by rw [hr, List.length_append]; omega
      rw [e] at r1 hrun
      exact ⟨A', c', w', hrun, OwnE.weak (H := w.heap.size) r1 hH, (Below.refl H w).grown r2 hH (fun k hk => by cases hk), .of_grown r2 (fun r hr => by cases hr)⟩
end Go.Proofs.YteihedfmmiihiaaGreat
