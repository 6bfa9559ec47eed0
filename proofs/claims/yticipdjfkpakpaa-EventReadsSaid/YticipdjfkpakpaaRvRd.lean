/- The document's Read of an event. -/
import Derived.Test.YticipdjfkpakpaaRvA
import Derived.Test.YticipdjfkpakpaaEvRead1
namespace Go.Proofs.Yticipdjfkpakpaa
open Go.RowKit
attribute [local go_sem] run_store_cx'

theorem Blk.new (w : World) (t : TypeId) (cs : List Value) : Blk (w.alloc (.cells cs.toArray t)) w.heap.size t cs := heap_alloc_new w _
/-- the blocks of the document's Read: its result, nothing, the event under way -/
structure RV (w W : World) (xs : List Value) : Prop where
  kR : Blk W w.heap.size 27 [.int .u8 0, .int .i64 0, .string ⟨#[]⟩, .slice none 0 0, .int .i64 0]
  kN : Blk W (w.heap.size + 1) 27 [.int .u8 0, .int .i64 0, .string ⟨#[]⟩, .slice none 0 0, .int .i64 0]
  kX : Blk W (w.heap.size + 1 + 1) 27 xs
  B : Below w.heap.size w W
section
variable {w W W' : World} {xs : List Value}
theorem RV.bel (h : RV w W xs) (hb : Below W.heap.size W W') : RV w W' xs := ⟨h.kR.bel hb, h.kN.bel hb, h.kX.bel hb, below_trans' h.B hb⟩
theorem RV.set (h : RV w W xs) (j : Nat) (v : Value) : RV w (W.setCell ⟨w.heap.size + 1 + 1, j, none⟩ v) (xs.set j v) :=
  ⟨h.kR.far (by simp only; omega) v, h.kN.far (by simp only; omega) v, h.kX.set j v, h.B.setCell (p := ⟨w.heap.size + 1 + 1, j, none⟩) (by simp only; omega) v⟩
theorem RV.lt (h : RV w W xs) : w.heap.size + 1 + 1 < W.heap.size := h.kX.lt
theorem RV.ret (h : RV w W xs) (v0 v1 v2 v3 v4 : Value) : Blk (((((W.setCell ⟨w.heap.size, 0, none⟩ v0).setCell ⟨w.heap.size, 1, none⟩ v1).setCell ⟨w.heap.size, 2, none⟩ v2).setCell ⟨w.heap.size, 3, none⟩ v3).setCell ⟨w.heap.size, 4, none⟩ v4) w.heap.size 27 [v0, v1, v2, v3, v4] :=
  ((((h.kR.set 0 v0).set 1 v1).set 2 v2).set 3 v3).set 4 v4
theorem RV.retB (h : RV w W xs) (v0 v1 v2 v3 v4 : Value) : Below w.heap.size w (((((W.setCell ⟨w.heap.size, 0, none⟩ v0).setCell ⟨w.heap.size, 1, none⟩ v1).setCell ⟨w.heap.size, 2, none⟩ v2).setCell ⟨w.heap.size, 3, none⟩ v3).setCell ⟨w.heap.size, 4, none⟩ v4) :=
  ((((h.B.setCell (p := ⟨w.heap.size, 0, none⟩) (Nat.le_refl _) v0).setCell (p := ⟨w.heap.size, 1, none⟩) (Nat.le_refl _) v1).setCell (p := ⟨w.heap.size, 2, none⟩) (Nat.le_refl _) v2).setCell (p := ⟨w.heap.size, 3, none⟩) (Nat.le_refl _) v3).setCell (p := ⟨w.heap.size, 4, none⟩) (Nat.le_refl _) v4
/-- the result's block behind the five stores -/
theorem blk_ret {b : Nat} {u0 u1 u2 u3 u4 : Value} (h : Blk W b 27 [u0, u1, u2, u3, u4]) (v0 v1 v2 v3 v4 : Value) : Blk (((((W.setCell ⟨b, 0, none⟩ v0).setCell ⟨b, 1, none⟩ v1).setCell ⟨b, 2, none⟩ v2).setCell ⟨b, 3, none⟩ v3).setCell ⟨b, 4, none⟩ v4) b 27 [v0, v1, v2, v3, v4] :=
  ((((h.set 0 v0).set 1 v1).set 2 v2).set 3 v3).set 4 v4
theorem below_ret (h : Below w.heap.size w W) (v0 v1 v2 v3 v4 : Value) : Below w.heap.size w (((((W.setCell ⟨w.heap.size, 0, none⟩ v0).setCell ⟨w.heap.size, 1, none⟩ v1).setCell ⟨w.heap.size, 2, none⟩ v2).setCell ⟨w.heap.size, 3, none⟩ v3).setCell ⟨w.heap.size, 4, none⟩ v4) :=
  ((((h.setCell (p := ⟨w.heap.size, 0, none⟩) (Nat.le_refl _) v0).setCell (p := ⟨w.heap.size, 1, none⟩) (Nat.le_refl _) v1).setCell (p := ⟨w.heap.size, 2, none⟩) (Nat.le_refl _) v2).setCell (p := ⟨w.heap.size, 3, none⟩) (Nat.le_refl _) v3).setCell (p := ⟨w.heap.size, 4, none⟩) (Nat.le_refl _) v4
/-- bytes that came in are not turned by a store into the event under way -/
theorem RV.inn {A : Option Addr} {len cap : Nat} {l : List UInt8} (h : RV w W xs) (hin : In w A len cap l) : In W A len cap l :=
  hin.below h.B
end
theorem own_set {W : World} {base n b j : Nat} {e : TypeId} {size : Nat} {v u : Value} {xs : List Value} (h : W.ownsRow base e size v n xs) (hb : b < base) : (W.setCell ⟨b, j, none⟩ u).ownsRow base e size v n xs :=
  own_far h (grown_setCell W b j u) hb
theorem own_set5 {W : World} {base n b : Nat} {e : TypeId} {size : Nat} {v : Value} {xs : List Value} (h : W.ownsRow base e size v n xs) (hb : b < base) (v0 v1 v2 v3 v4 : Value) :
    (((((W.setCell ⟨b, 0, none⟩ v0).setCell ⟨b, 1, none⟩ v1).setCell ⟨b, 2, none⟩ v2).setCell ⟨b, 3, none⟩ v3).setCell ⟨b, 4, none⟩ v4).ownsRow base e size v n xs :=
  own_set (own_set (own_set (own_set (own_set h hb) hb) hb) hb) hb
/-- what is read as an event of a kind -/
def rdEvK (l : List UInt8) (a k : Nat) : Except (Nat × Nat) (Ev × Nat) :=
  match opt (hasId k) 0 (fun m => Cd.rdUint m 0) l (a + 1) with
    | .error e => .error e
    | .ok (n, t1) =>
      match opt (hasName k) [] (fun m => Cd.rdText m 0) l t1 with
      | .error e => .error e
      | .ok (s, t2) =>
        match opt (hasValue k) [] rdValue l t2 with
        | .error e => .error e
        | .ok (v, t3) =>
          match opt (hasInt k) 0 (fun m => Cd.rdInt m 0) l t3 with
          | .error e => .error e
          | .ok (i, t4) => if evOk ⟨k, min n 500, s, v, i⟩ then .ok (⟨k, min n 500, s, v, i⟩, t4) else .error (a, 3)
theorem rdEv_kind {l : List UInt8} {a k : Nat} (ha : a < l.length) (hkl : l[a].toNat = k) (hk : 1 ≤ k ∧ k ≤ 12) : rdEv l a = rdEvK l a k := by
  subst hkl
  unfold rdEv rdEvK
  rw [dif_pos ha, if_neg (by omega)]
  rfl
theorem opt_no {α : Type} (zero : α) (f : List UInt8 → Except (Nat × Nat) (α × Nat)) (l : List UInt8) (t : Nat) : opt false zero f l t = .ok (zero, t) := rfl
theorem opt_yes {α : Type} (zero : α) (f : List UInt8 → Except (Nat × Nat) (α × Nat)) (l : List UInt8) (t : Nat) : opt true zero f l t = shft t (f (l.drop t)) := rfl
theorem evGets_err {w w' : World} {res : Except (Nat × Nat) (Ev × Nat)} {p en : Nat} (hr : res = .error (p, en)) (hB : Below w.heap.size w w') : EvGets w res (.returned (.tuple #[.agg #[.int .u8 0, .int .i64 0, .string ⟨#[]⟩, .slice none 0 0, .int .i64 0], .int .i64 (p : Int), .int .i64 (en : Int)])) w' := by
  subst hr
  exact ⟨rfl, hB⟩

set_option maxRecDepth 20000 in
set_option maxHeartbeats 4000000 in
theorem rvRead_end (w : World) (A : Option Addr) (len cap : Nat) (l : List UInt8) (h : In w A len cap l) (hsz : l.length ≤ 1000000) :
    Calls Try.prog 8 #[.slice A len cap, .int .i64 (l.length : Int)] w (EvGets w (rdEv l l.length)) := by
  obtain rfl := h.bs.len
  have HR : Hid (rdEv l l.length = .error (l.length, 4)) := Lib.hid (by unfold rdEv; rw [dif_neg (by omega)])
  have kR := Blk.alloc (Blk.new w 27 [.int .u8 0, .int .i64 0, .string ⟨#[]⟩, .slice none 0 0, .int .i64 0]) (.cells #[.int .u8 0, .int .i64 0, .string ⟨#[]⟩, .slice none 0 0, .int .i64 0] 27)
  have hB : Below w.heap.size w ((w.alloc (.cells #[.int .u8 0, .int .i64 0, .string ⟨#[]⟩, .slice none 0 0, .int .i64 0] 27)).alloc (.cells #[.int .u8 0, .int .i64 0, .string ⟨#[]⟩, .slice none 0 0, .int .i64 0] 27)) := ((Below.refl _ _).alloc (Nat.le_refl _) _).alloc (by simp) _
  have KR := Lib.hid kR
  have HB := Lib.hid hB
  clear kR hB h
  have hge : (l.length : Int) ≤ (l.length : Int) := Int.le_refl _
  go_enter Try.func8, Try.ntmps8
  go_wp2_with fail
  rw [HR.out]
  refine bodyPost_ret (results_cell_row3 (h := rfl) (g := w.heap.size) (t := 27) (cs := ([.int .u8 0, .int .i64 0, .string ⟨#[]⟩, .slice none 0 0, .int .i64 0] : List Value).toArray) (fr := (0, 0)) (hp := rfl) (hg := KR.out) (hu := Try.underlying27) (hd := rfl) (hi := by kernel_rfl) _ _) rfl ?_
  exact evGets_err rfl HB.out

set_option maxRecDepth 20000 in
set_option maxHeartbeats 4000000 in
theorem rvRead_bad (w : World) (A : Option Addr) (len cap : Nat) (l : List UInt8) (a : Nat) (h : In w A len cap l) (hsz : l.length ≤ 1000000) (ha : a < l.length) (hk : ¬ (1 ≤ l[a].toNat ∧ l[a].toNat ≤ 12)) :
    Calls Try.prog 8 #[.slice A len cap, .int .i64 (a : Int)] w (EvGets w (rdEv l a)) := by
  have HEQ : Hid (rdEv l a = .error (a, 3)) := Lib.hid (by unfold rdEv; rw [dif_pos ha, if_pos (by omega)])
  obtain rfl := h.bs.len
  obtain ⟨ad, rfl, hlt, hc⟩ := h.bs.cell a ha
  have hc2 : ∀ o1 o2 : Obj, ((w.alloc o1).alloc o2).cell? (ad.add a) = some (.int .u8 (l[a].toNat : Int)) := fun o1 o2 =>
    (World.cell?_of_block (w := w) ((((Below.refl w.heap.size w).alloc (Nat.le_refl _) o1).alloc (by simp) o2).block _ (World.block_lt_of_cell? w _ hc))).trans hc
  have hl1 : ¬ ((l.length : Int) ≤ (a : Int)) := by omega
  have hl2 : ¬ (l.length ≤ a) := by omega
  have hl4 : (a : Int) < (l.length : Int) := by omega
  generalize l[a].toNat = k at *
  have hR0 : RV w (((w.alloc (.cells #[.int .u8 0, .int .i64 0, .string ⟨#[]⟩, .slice none 0 0, .int .i64 0] 27)).alloc (.cells #[.int .u8 0, .int .i64 0, .string ⟨#[]⟩, .slice none 0 0, .int .i64 0] 27)).alloc (.cells #[.int .u8 (k : Int), .int .i64 0, .string ⟨#[]⟩, .slice none 0 0, .int .i64 0] 27)) [.int .u8 (k : Int), .int .i64 0, .string ⟨#[]⟩, .slice none 0 0, .int .i64 0] :=
    ⟨(Blk.alloc (Blk.new w 27 [.int .u8 0, .int .i64 0, .string ⟨#[]⟩, .slice none 0 0, .int .i64 0]) _).alloc _, by have := Blk.alloc (Blk.new (w.alloc (.cells #[.int .u8 0, .int .i64 0, .string ⟨#[]⟩, .slice none 0 0, .int .i64 0] 27)) 27 [.int .u8 0, .int .i64 0, .string ⟨#[]⟩, .slice none 0 0, .int .i64 0]) (.cells #[.int .u8 (k : Int), .int .i64 0, .string ⟨#[]⟩, .slice none 0 0, .int .i64 0] 27); rwa [World.size_alloc] at this,
      by have := Blk.new ((w.alloc (.cells #[.int .u8 0, .int .i64 0, .string ⟨#[]⟩, .slice none 0 0, .int .i64 0] 27)).alloc (.cells #[.int .u8 0, .int .i64 0, .string ⟨#[]⟩, .slice none 0 0, .int .i64 0] 27)) 27 [.int .u8 (k : Int), .int .i64 0, .string ⟨#[]⟩, .slice none 0 0, .int .i64 0]; rwa [World.size_alloc, World.size_alloc] at this,
      (((Below.refl w.heap.size w).alloc (Nat.le_refl _) _).alloc (by simp) _).alloc (by simp; omega) _⟩
  have R0 := Lib.hid hR0
  clear h hc hR0
  by_cases hk1 : (k : Int) < 1
  · clear hk
    go_enter Try.func8, Try.ntmps8
    go_wp2_with fail
    refine bodyPost_ret (results_cell_row3 (h := rfl) (g := w.heap.size) (t := 27) (cs := ([.int .u8 0, .int .i64 0, .string ⟨#[]⟩, .slice none 0 0, .int .i64 0] : List Value).toArray) (fr := (0, 0)) (hp := rfl) (hg := R0.out.kR) (hu := Try.underlying27) (hd := rfl) (hi := by kernel_rfl) _ _) rfl ?_
    exact evGets_err HEQ.out R0.out.B
  · have hk4 : (12 : Int) < (k : Int) := by omega
    clear hk
    go_enter Try.func8, Try.ntmps8
    go_wp2_with fail
    refine bodyPost_ret (results_cell_row3 (h := rfl) (g := w.heap.size) (t := 27) (cs := ([.int .u8 0, .int .i64 0, .string ⟨#[]⟩, .slice none 0 0, .int .i64 0] : List Value).toArray) (fr := (0, 0)) (hp := rfl) (hg := R0.out.kR) (hu := Try.underlying27) (hd := rfl) (hi := by kernel_rfl) _ _) rfl ?_
    exact evGets_err HEQ.out R0.out.B

set_option maxRecDepth 20000 in
set_option maxHeartbeats 8000000 in
theorem rvRead_NVF (w : World) (A : Option Addr) (len cap : Nat) (l : List UInt8) (a k : Nat) (h : In w A len cap l) (hsz : l.length ≤ 1000000) (ha : a < l.length) (hkl : l[a].toNat = k) (hk : 1 ≤ k ∧ k ≤ 12) (hi : hasId k = false) (hn : hasName k = true) (hv : hasValue k = true) (hf : hasInt k = true) :
    Calls Try.prog 8 #[.slice A len cap, .int .i64 (a : Int)] w (EvGets w (rdEv l a)) := by
  have HEQ := Lib.hid (rdEv_kind ha hkl hk)
  obtain rfl := h.bs.len
  obtain ⟨ad, rfl, hlt, hc⟩ := h.bs.cell a ha
  rw [hkl] at hc
  have hc2 : ∀ o1 o2 : Obj, ((w.alloc o1).alloc o2).cell? (ad.add a) = some (.int .u8 (k : Int)) := fun o1 o2 =>
    (World.cell?_of_block (w := w) ((((Below.refl w.heap.size w).alloc (Nat.le_refl _) o1).alloc (by simp) o2).block _ (World.block_lt_of_cell? w _ hc))).trans hc
  have II := Lib.hid h
  have hl1 : ¬ ((l.length : Int) ≤ (a : Int)) := by omega
  have hl2 : ¬ (l.length ≤ a) := by omega
  have hl3 : (l.length : Int) ≤ 1000000 := by omega
  have hl4 : (a : Int) < (l.length : Int) := by omega
  have hl5 : (l.length : Int) ≤ (cap : Int) := by have := h.cap_le; omega
  have hk1 : ¬ ((k : Int) < 1) := by omega
  have hk2 : ¬ ((12 : Int) < (k : Int)) := by omega
  have hk3 : ¬ (k < 1) := by omega
  have hk4 : ¬ (12 < k) := by omega
  have HK := Lib.hid hk
  have hI := Lib.hid hi
  have hN := Lib.hid hn
  have hV := Lib.hid hv
  have hF := Lib.hid hf
  have HM0 : Hid (min 0 500 = 0) := Lib.hid rfl
  obtain ⟨t0s, ht0s⟩ : ∃ t, t = a + 1 := ⟨_, rfl⟩
  have hadd : (a : Int) + 1 = (t0s : Int) := by omega
  have hts : t0s ≤ l.length := by omega
  rw [show rdEvK l a k = rdEvK l a k from rfl] at HEQ
  have HT := Lib.hid ht0s
  clear hk hi hn hv hf ht0s
  have hR0 : RV w (((w.alloc (.cells #[.int .u8 0, .int .i64 0, .string ⟨#[]⟩, .slice none 0 0, .int .i64 0] 27)).alloc (.cells #[.int .u8 0, .int .i64 0, .string ⟨#[]⟩, .slice none 0 0, .int .i64 0] 27)).alloc (.cells #[.int .u8 (k : Int), .int .i64 0, .string ⟨#[]⟩, .slice none 0 0, .int .i64 0] 27)) [.int .u8 (k : Int), .int .i64 0, .string ⟨#[]⟩, .slice none 0 0, .int .i64 0] :=
    ⟨(Blk.alloc (Blk.new w 27 [.int .u8 0, .int .i64 0, .string ⟨#[]⟩, .slice none 0 0, .int .i64 0]) _).alloc _, by have := Blk.alloc (Blk.new (w.alloc (.cells #[.int .u8 0, .int .i64 0, .string ⟨#[]⟩, .slice none 0 0, .int .i64 0] 27)) 27 [.int .u8 0, .int .i64 0, .string ⟨#[]⟩, .slice none 0 0, .int .i64 0]) (.cells #[.int .u8 (k : Int), .int .i64 0, .string ⟨#[]⟩, .slice none 0 0, .int .i64 0] 27); rwa [World.size_alloc] at this,
      by have := Blk.new ((w.alloc (.cells #[.int .u8 0, .int .i64 0, .string ⟨#[]⟩, .slice none 0 0, .int .i64 0] 27)).alloc (.cells #[.int .u8 0, .int .i64 0, .string ⟨#[]⟩, .slice none 0 0, .int .i64 0] 27)) 27 [.int .u8 (k : Int), .int .i64 0, .string ⟨#[]⟩, .slice none 0 0, .int .i64 0]; rwa [World.size_alloc, World.size_alloc] at this,
      (((Below.refl w.heap.size w).alloc (Nat.le_refl _) _).alloc (by simp) _).alloc (by simp; omega) _⟩
  have R0 := Lib.hid hR0
  clear h hc hkl hR0
  go_enter Try.func8, Try.ntmps8
  go_wp2_with (first | (go_at_call 20; refine (rhId k HK.out _).mono ?_; rintro e wn ⟨rfl, rfl⟩; rw [hI.out]) | (go_at_call 22; refine (rhName k HK.out _).mono ?_; rintro e wn ⟨rfl, rfl⟩; rw [hN.out]) | (go_at_call 24; refine (rhValue k HK.out _).mono ?_; rintro e wn ⟨rfl, rfl⟩; rw [hV.out]) | (go_at_call 26; refine (rhInt k HK.out _).mono ?_; rintro e wn ⟨rfl, rfl⟩; rw [hF.out]))
  generalize ((w.alloc (.cells #[.int .u8 0, .int .i64 0, .string ⟨#[]⟩, .slice none 0 0, .int .i64 0] 27)).alloc (.cells #[.int .u8 0, .int .i64 0, .string ⟨#[]⟩, .slice none 0 0, .int .i64 0] 27)).alloc (.cells #[.int .u8 (k : Int), .int .i64 0, .string ⟨#[]⟩, .slice none 0 0, .int .i64 0] 27) = W0 at *
  clear hc2
  have IIR0 := Lib.hid (R0.out.inn II.out)
  have HC1 := Lib.hid (refText_any W0 (some ad) l.length cap l t0s IIR0.out.bs IIR0.out.cap_le.1 (by omega) hsz)
  rcases hr1 : Cd.rdText l t0s with ⟨p, en⟩ | ⟨n1, t1⟩
  · have HS1 := Lib.hid hr1
    have hen : ((en : Int) != 0) = true := by rw [bne_iff_ne]; have := rdText_errno hr1; omega
    have HH1 : Hid (shft t0s (Cd.rdText (l.drop t0s) 0) = .error (p, en)) := Lib.hid (by rw [rdText_shft (by omega)]; exact hr1)
    clear hr1
    refine HC1.out.mono ?_
    rintro e w' ⟨hs, rfl⟩
    obtain rfl := hs.of_error HS1.out
    have z0 := R0.out.kN.cell 0
    have x0 := R0.out.kX.cell 0
    have fr0 := R0.out.kR.fz 0
    have fx0 := R0.out.kX.fz 0
    have r0 := R0.out.kR.cell 0
    have z1 := R0.out.kN.cell 1
    have x1 := R0.out.kX.cell 1
    have fr1 := R0.out.kR.fz 1
    have fx1 := R0.out.kX.fz 1
    have r1 := R0.out.kR.cell 1
    have z2 := R0.out.kN.cell 2
    have x2 := R0.out.kX.cell 2
    have fr2 := R0.out.kR.fz 2
    have fx2 := R0.out.kX.fz 2
    have r2 := R0.out.kR.cell 2
    have z3 := R0.out.kN.cell 3
    have x3 := R0.out.kX.cell 3
    have fr3 := R0.out.kR.fz 3
    have fx3 := R0.out.kX.fz 3
    have r3 := R0.out.kR.cell 3
    have z4 := R0.out.kN.cell 4
    have x4 := R0.out.kX.cell 4
    have fr4 := R0.out.kR.fz 4
    have fx4 := R0.out.kX.fz 4
    have r4 := R0.out.kR.cell 4
    simp only [List.getElem?_cons_succ, List.getElem?_cons_zero] at z0 z1 z2 z3 z4 x0 x1 x2 x3 x4 r0 r1 r2 r3 r4
    have hRl := R0.out.lt
    have hRl0 : w.heap.size < W0.heap.size := by omega
    have hRl1 : w.heap.size + 1 < W0.heap.size := by omega
    go_wp2_with fail
    refine bodyPost_ret (results_cell_row3 (h := rfl) (g := w.heap.size) (t := 27) (cs := ([.int .u8 0, .int .i64 0, .string ⟨#[]⟩, .slice none 0 0, .int .i64 0] : List Value).toArray) (fr := (0, 0)) (hp := rfl) (hg := R0.out.ret _ _ _ _ _) (hu := Try.underlying27) (hd := rfl) (hi := by kernel_rfl) _ _) rfl ?_
    exact evGets_err (by rw [HEQ.out]; unfold rdEvK; rw [hI.out, hN.out, hV.out, hF.out, ← HT.out]; simp only [opt_no, opt_yes, HH1.out]) (R0.out.retB _ _ _ _ _)
  · have HS1 := Lib.hid hr1
    have ht1 : t1 ≤ l.length := rdText_le hr1
    have hb1 : n1.length ≤ l.length := rdText_len hr1
    have HH1 : Hid (shft t0s (Cd.rdText (l.drop t0s) 0) = .ok (n1, t1)) := Lib.hid (by rw [rdText_shft (by omega)]; exact hr1)
    clear hr1
    refine HC1.out.mono ?_
    rintro e w' ⟨hs, rfl⟩
    obtain rfl := hs.of_ok HS1.out
    clear hs HC1
    unfold strV
    have z0 := R0.out.kN.cell 0
    have x0 := R0.out.kX.cell 0
    have fr0 := R0.out.kR.fz 0
    have fx0 := R0.out.kX.fz 0
    have r0 := R0.out.kR.cell 0
    have z1 := R0.out.kN.cell 1
    have x1 := R0.out.kX.cell 1
    have fr1 := R0.out.kR.fz 1
    have fx1 := R0.out.kX.fz 1
    have r1 := R0.out.kR.cell 1
    have z2 := R0.out.kN.cell 2
    have x2 := R0.out.kX.cell 2
    have fr2 := R0.out.kR.fz 2
    have fx2 := R0.out.kX.fz 2
    have r2 := R0.out.kR.cell 2
    have z3 := R0.out.kN.cell 3
    have x3 := R0.out.kX.cell 3
    have fr3 := R0.out.kR.fz 3
    have fx3 := R0.out.kX.fz 3
    have r3 := R0.out.kR.cell 3
    have z4 := R0.out.kN.cell 4
    have x4 := R0.out.kX.cell 4
    have fr4 := R0.out.kR.fz 4
    have fx4 := R0.out.kX.fz 4
    have r4 := R0.out.kR.cell 4
    simp only [List.getElem?_cons_succ, List.getElem?_cons_zero] at z0 z1 z2 z3 z4 x0 x1 x2 x3 x4 r0 r1 r2 r3 r4
    have hRl := R0.out.lt
    have hRl0 : w.heap.size < W0.heap.size := by omega
    have hRl1 : w.heap.size + 1 < W0.heap.size := by omega
    have hR := R0.out.set 2 (.string ⟨n1.toArray⟩)
    simp only [List.set_cons_succ, List.set_cons_zero] at hR
    have R2 := Lib.hid hR
    have IIR2 := Lib.hid (hR.inn II.out)
    clear hR
    obtain ⟨A', hA'⟩ : ∃ A', (if cap = t1 then some ad else some (ad.add t1)) = A' := ⟨_, rfl⟩
    go_wp2_with (first | (go_at_call 20; refine (rhId k HK.out _).mono ?_; rintro e wn ⟨rfl, rfl⟩; rw [hI.out]) | (go_at_call 22; refine (rhName k HK.out _).mono ?_; rintro e wn ⟨rfl, rfl⟩; rw [hN.out]) | (go_at_call 24; refine (rhValue k HK.out _).mono ?_; rintro e wn ⟨rfl, rfl⟩; rw [hV.out]) | (go_at_call 26; refine (rhInt k HK.out _).mono ?_; rintro e wn ⟨rfl, rfl⟩; rw [hF.out]))
    clear r0 r1 r2 r3 r4 z0 z1 z2 z3 z4 x0 x1 x2 x3 x4 fr0 fr1 fr2 fr3 fr4 fx0 fx1 fx2 fx3 fx4 hRl hRl0 hRl1
    generalize W0.setCell ⟨w.heap.size + 1 + 1, 2, none⟩ (.string ⟨n1.toArray⟩) = W2 at *
    clear R0 IIR0
    have hid2 : In W2 A' (l.length - t1) (cap - t1) (l.drop t1) := by rw [← hA']; exact in_drop IIR2.out (by omega)
    clear hA'
    have HC2 := Lib.hid (refValue_any W2 _ _ _ (l.drop t1) hid2 (by simp; omega))
    clear hid2
    rcases hr2 : rdValue (l.drop t1) with ⟨p, en⟩ | ⟨n2, t2⟩
    · have hen : ((en : Int) != 0) = true := by rw [bne_iff_ne]; have := rdValue_errno hr2; omega
      have hpl := (rdValue_er hr2).1
      rw [List.length_drop] at hpl
      have HH2 : Hid (shft t1 (rdValue (l.drop t1)) = .error (t1 + p, en)) := Lib.hid (by rw [hr2]; rfl)
      have HR2 := Lib.hid hr2
      clear hr2
      obtain ⟨q, hq⟩ : ∃ q, q = t1 + p := ⟨_, rfl⟩
      have hq2 : (t1 : Int) + (p : Int) = (q : Int) := by omega
      rw [← hq] at HH2
      have hq3 : (q : Int) ≤ 1000000 := by omega
      clear hq hpl
      refine HC2.out.mono ?_
      rintro e w2 ⟨he, B2⟩
      rw [HR2.out] at he
      obtain rfl := he
      have RE := Lib.hid (R2.out.bel B2)
      clear B2 HC2
      have z0 := RE.out.kN.cell 0
      have x0 := RE.out.kX.cell 0
      have fr0 := RE.out.kR.fz 0
      have fx0 := RE.out.kX.fz 0
      have r0 := RE.out.kR.cell 0
      have z1 := RE.out.kN.cell 1
      have x1 := RE.out.kX.cell 1
      have fr1 := RE.out.kR.fz 1
      have fx1 := RE.out.kX.fz 1
      have r1 := RE.out.kR.cell 1
      have z2 := RE.out.kN.cell 2
      have x2 := RE.out.kX.cell 2
      have fr2 := RE.out.kR.fz 2
      have fx2 := RE.out.kX.fz 2
      have r2 := RE.out.kR.cell 2
      have z3 := RE.out.kN.cell 3
      have x3 := RE.out.kX.cell 3
      have fr3 := RE.out.kR.fz 3
      have fx3 := RE.out.kX.fz 3
      have r3 := RE.out.kR.cell 3
      have z4 := RE.out.kN.cell 4
      have x4 := RE.out.kX.cell 4
      have fr4 := RE.out.kR.fz 4
      have fx4 := RE.out.kX.fz 4
      have r4 := RE.out.kR.cell 4
      simp only [List.getElem?_cons_succ, List.getElem?_cons_zero] at z0 z1 z2 z3 z4 x0 x1 x2 x3 x4 r0 r1 r2 r3 r4
      have hRl := RE.out.lt
      have hRl0 : w.heap.size < w2.heap.size := by omega
      have hRl1 : w.heap.size + 1 < w2.heap.size := by omega
      go_wp2_with fail
      refine bodyPost_ret (results_cell_row3 (h := rfl) (g := w.heap.size) (t := 27) (cs := ([.int .u8 0, .int .i64 0, .string ⟨#[]⟩, .slice none 0 0, .int .i64 0] : List Value).toArray) (fr := (0, 0)) (hp := rfl) (hg := RE.out.ret _ _ _ _ _) (hu := Try.underlying27) (hd := rfl) (hi := by kernel_rfl) _ _) rfl ?_
      exact evGets_err (by rw [HEQ.out]; unfold rdEvK; rw [hI.out, hN.out, hV.out, hF.out, ← HT.out]; simp only [opt_no, opt_yes, HH1.out, HH2.out]) (RE.out.retB _ _ _ _ _)
    · have ht2 : t2 ≤ l.length - t1 := by have := rdValue_le hr2; rwa [List.length_drop] at this
      obtain ⟨sz, hvi⟩ := rdValue_inv hr2
      have HVO := Lib.hid (show ValOk n2 ∧ ∀ y ∈ n2, I64 y.int from ⟨hvi.valOk, fun y hy => (hvi.ok y hy).2.1⟩)
      clear hvi
      have HH2 : Hid (shft t1 (rdValue (l.drop t1)) = .ok (n2, t1 + t2)) := Lib.hid (by rw [hr2]; rfl)
      have HR2 := Lib.hid hr2
      clear hr2
      obtain ⟨q, hq⟩ : ∃ q, q = t1 + t2 := ⟨_, rfl⟩
      have hq2 : (t1 : Int) + (t2 : Int) = (q : Int) := by omega
      rw [← hq] at HH2
      have hq3 : q ≤ l.length := by omega
      have hq4 : (q : Int) ≤ 1000000 := by omega
      clear hq ht2
      refine HC2.out.mono ?_
      rintro e w2 ⟨he, B2⟩
      rw [HR2.out] at he
      obtain ⟨v2, rfl, ho2⟩ := he
      obtain ⟨A2, c2, rfl⟩ := own_slice ho2
      have RE := Lib.hid (R2.out.bel B2)
      have hO2 := ho2.mono (base' := W2.heap.size) (Nat.le_refl _)
      have hWl := R2.out.lt
      have HOa := Lib.hid (World.ownsRow.mono (base' := w.heap.size + 1 + 1 + 1) ho2 (by omega))
      clear B2 HC2 ho2 hO2 hWl
      have z0 := RE.out.kN.cell 0
      have x0 := RE.out.kX.cell 0
      have fr0 := RE.out.kR.fz 0
      have fx0 := RE.out.kX.fz 0
      have r0 := RE.out.kR.cell 0
      have z1 := RE.out.kN.cell 1
      have x1 := RE.out.kX.cell 1
      have fr1 := RE.out.kR.fz 1
      have fx1 := RE.out.kX.fz 1
      have r1 := RE.out.kR.cell 1
      have z2 := RE.out.kN.cell 2
      have x2 := RE.out.kX.cell 2
      have fr2 := RE.out.kR.fz 2
      have fx2 := RE.out.kX.fz 2
      have r2 := RE.out.kR.cell 2
      have z3 := RE.out.kN.cell 3
      have x3 := RE.out.kX.cell 3
      have fr3 := RE.out.kR.fz 3
      have fx3 := RE.out.kX.fz 3
      have r3 := RE.out.kR.cell 3
      have z4 := RE.out.kN.cell 4
      have x4 := RE.out.kX.cell 4
      have fr4 := RE.out.kR.fz 4
      have fx4 := RE.out.kX.fz 4
      have r4 := RE.out.kR.cell 4
      simp only [List.getElem?_cons_succ, List.getElem?_cons_zero] at z0 z1 z2 z3 z4 x0 x1 x2 x3 x4 r0 r1 r2 r3 r4
      have hRl := RE.out.lt
      have hRl0 : w.heap.size < w2.heap.size := by omega
      have hRl1 : w.heap.size + 1 < w2.heap.size := by omega
      have hR := RE.out.set 3 (.slice A2 n2.length c2)
      simp only [List.set_cons_succ, List.set_cons_zero] at hR
      have R3 := Lib.hid hR
      have IIR3 := Lib.hid (hR.inn II.out)
      clear hR
      go_wp2_with (first | (go_at_call 20; refine (rhId k HK.out _).mono ?_; rintro e wn ⟨rfl, rfl⟩; rw [hI.out]) | (go_at_call 22; refine (rhName k HK.out _).mono ?_; rintro e wn ⟨rfl, rfl⟩; rw [hN.out]) | (go_at_call 24; refine (rhValue k HK.out _).mono ?_; rintro e wn ⟨rfl, rfl⟩; rw [hV.out]) | (go_at_call 26; refine (rhInt k HK.out _).mono ?_; rintro e wn ⟨rfl, rfl⟩; rw [hF.out]))
      clear r0 r1 r2 r3 r4 z0 z1 z2 z3 z4 x0 x1 x2 x3 x4 fr0 fr1 fr2 fr3 fr4 fx0 fx1 fx2 fx3 fx4 hRl hRl0 hRl1
      have HO2 := Lib.hid (own_set (b := w.heap.size + 1 + 1) (j := 3) (u := .slice A2 n2.length c2) HOa.out (by omega))
      clear HOa
      generalize w2.setCell ⟨w.heap.size + 1 + 1, 3, none⟩ (.slice A2 n2.length c2) = W3 at *
      clear RE R2 IIR2
      have HC3 := Lib.hid (refInt_any W3 (some ad) l.length cap l q IIR3.out.bs (by omega) hsz)
      rcases hr3 : Cd.rdInt l q with ⟨p, en⟩ | ⟨n3, t3⟩
      · have HS3 := Lib.hid hr3
        have hen : ((en : Int) != 0) = true := by rw [bne_iff_ne]; have := rdInt_errno hr3; omega
        have HH3 : Hid (shft q (Cd.rdInt (l.drop q) 0) = .error (p, en)) := Lib.hid (by rw [rdInt_shft (by omega)]; exact hr3)
        clear hr3
        refine HC3.out.mono ?_
        rintro e w' ⟨hs, rfl⟩
        obtain rfl := hs.of_error HS3.out
        have z0 := R3.out.kN.cell 0
        have x0 := R3.out.kX.cell 0
        have fr0 := R3.out.kR.fz 0
        have fx0 := R3.out.kX.fz 0
        have r0 := R3.out.kR.cell 0
        have z1 := R3.out.kN.cell 1
        have x1 := R3.out.kX.cell 1
        have fr1 := R3.out.kR.fz 1
        have fx1 := R3.out.kX.fz 1
        have r1 := R3.out.kR.cell 1
        have z2 := R3.out.kN.cell 2
        have x2 := R3.out.kX.cell 2
        have fr2 := R3.out.kR.fz 2
        have fx2 := R3.out.kX.fz 2
        have r2 := R3.out.kR.cell 2
        have z3 := R3.out.kN.cell 3
        have x3 := R3.out.kX.cell 3
        have fr3 := R3.out.kR.fz 3
        have fx3 := R3.out.kX.fz 3
        have r3 := R3.out.kR.cell 3
        have z4 := R3.out.kN.cell 4
        have x4 := R3.out.kX.cell 4
        have fr4 := R3.out.kR.fz 4
        have fx4 := R3.out.kX.fz 4
        have r4 := R3.out.kR.cell 4
        simp only [List.getElem?_cons_succ, List.getElem?_cons_zero] at z0 z1 z2 z3 z4 x0 x1 x2 x3 x4 r0 r1 r2 r3 r4
        have hRl := R3.out.lt
        have hRl0 : w.heap.size < W3.heap.size := by omega
        have hRl1 : w.heap.size + 1 < W3.heap.size := by omega
        go_wp2_with fail
        refine bodyPost_ret (results_cell_row3 (h := rfl) (g := w.heap.size) (t := 27) (cs := ([.int .u8 0, .int .i64 0, .string ⟨#[]⟩, .slice none 0 0, .int .i64 0] : List Value).toArray) (fr := (0, 0)) (hp := rfl) (hg := R3.out.ret _ _ _ _ _) (hu := Try.underlying27) (hd := rfl) (hi := by kernel_rfl) _ _) rfl ?_
        exact evGets_err (by rw [HEQ.out]; unfold rdEvK; rw [hI.out, hN.out, hV.out, hF.out, ← HT.out]; simp only [opt_no, opt_yes, HH1.out, HH2.out, HH3.out]) (R3.out.retB _ _ _ _ _)
      · have HS3 := Lib.hid hr3
        have ht3 : t3 ≤ l.length := rdInt_le hr3
        have HB3 := Lib.hid (rdInt_i64 hr3)
        have HH3 : Hid (shft q (Cd.rdInt (l.drop q) 0) = .ok (n3, t3)) := Lib.hid (by rw [rdInt_shft (by omega)]; exact hr3)
        clear hr3
        refine HC3.out.mono ?_
        rintro e w' ⟨hs, rfl⟩
        obtain rfl := hs.of_ok HS3.out
        clear hs HC3
        unfold i64V
        have z0 := R3.out.kN.cell 0
        have x0 := R3.out.kX.cell 0
        have fr0 := R3.out.kR.fz 0
        have fx0 := R3.out.kX.fz 0
        have r0 := R3.out.kR.cell 0
        have z1 := R3.out.kN.cell 1
        have x1 := R3.out.kX.cell 1
        have fr1 := R3.out.kR.fz 1
        have fx1 := R3.out.kX.fz 1
        have r1 := R3.out.kR.cell 1
        have z2 := R3.out.kN.cell 2
        have x2 := R3.out.kX.cell 2
        have fr2 := R3.out.kR.fz 2
        have fx2 := R3.out.kX.fz 2
        have r2 := R3.out.kR.cell 2
        have z3 := R3.out.kN.cell 3
        have x3 := R3.out.kX.cell 3
        have fr3 := R3.out.kR.fz 3
        have fx3 := R3.out.kX.fz 3
        have r3 := R3.out.kR.cell 3
        have z4 := R3.out.kN.cell 4
        have x4 := R3.out.kX.cell 4
        have fr4 := R3.out.kR.fz 4
        have fx4 := R3.out.kX.fz 4
        have r4 := R3.out.kR.cell 4
        simp only [List.getElem?_cons_succ, List.getElem?_cons_zero] at z0 z1 z2 z3 z4 x0 x1 x2 x3 x4 r0 r1 r2 r3 r4
        have hRl := R3.out.lt
        have hRl0 : w.heap.size < W3.heap.size := by omega
        have hRl1 : w.heap.size + 1 < W3.heap.size := by omega
        have hR := R3.out.set 4 (.int .i64 n3)
        simp only [List.set_cons_succ, List.set_cons_zero] at hR
        have R4 := Lib.hid hR
        have IIR4 := Lib.hid (hR.inn II.out)
        clear hR
        go_wp2_with (first | (go_at_call 20; refine (rhId k HK.out _).mono ?_; rintro e wn ⟨rfl, rfl⟩; rw [hI.out]) | (go_at_call 22; refine (rhName k HK.out _).mono ?_; rintro e wn ⟨rfl, rfl⟩; rw [hN.out]) | (go_at_call 24; refine (rhValue k HK.out _).mono ?_; rintro e wn ⟨rfl, rfl⟩; rw [hV.out]) | (go_at_call 26; refine (rhInt k HK.out _).mono ?_; rintro e wn ⟨rfl, rfl⟩; rw [hF.out]))
        clear r0 r1 r2 r3 r4 z0 z1 z2 z3 z4 x0 x1 x2 x3 x4 fr0 fr1 fr2 fr3 fr4 fx0 fx1 fx2 fx3 fx4 hRl hRl0 hRl1
        have HO3 := Lib.hid (own_set (b := w.heap.size + 1 + 1) (j := 4) (u := .int .i64 n3) HO2.out (by omega))
        clear HO2
        generalize W3.setCell ⟨w.heap.size + 1 + 1, 4, none⟩ (.int .i64 n3) = W4 at *
        clear R3 IIR3
        have hraw : EvRaw ⟨k, 0, n1, n2, n3⟩ := ⟨HK.out, (fun h => by rfl), (by simp only; omega), (fun h => by rw [hN.out] at h; cases h), (by simp only [List.length_nil]; omega), (fun h => by rw [hF.out] at h; cases h), HB3.out, (fun h => by rw [hV.out] at h; cases h), (fun h => HVO.out)⟩
        have HRT := Lib.hid (right17_any ⟨k, 0, n1, n2, n3⟩ hraw A2 n2.length c2 W4 (vin_own HO3.out))
        clear hraw
        rcases hok : evOk ⟨k, 0, n1, n2, n3⟩ with _ | _
        · have HOK := Lib.hid hok
          clear hok
          refine HRT.out.mono ?_
          rintro e w9 ⟨rfl, B9⟩
          rw [HOK.out]
          have RE := Lib.hid (R4.out.bel B9)
          clear B9 HRT
          have z0 := RE.out.kN.cell 0
          have x0 := RE.out.kX.cell 0
          have fr0 := RE.out.kR.fz 0
          have fx0 := RE.out.kX.fz 0
          have r0 := RE.out.kR.cell 0
          have z1 := RE.out.kN.cell 1
          have x1 := RE.out.kX.cell 1
          have fr1 := RE.out.kR.fz 1
          have fx1 := RE.out.kX.fz 1
          have r1 := RE.out.kR.cell 1
          have z2 := RE.out.kN.cell 2
          have x2 := RE.out.kX.cell 2
          have fr2 := RE.out.kR.fz 2
          have fx2 := RE.out.kX.fz 2
          have r2 := RE.out.kR.cell 2
          have z3 := RE.out.kN.cell 3
          have x3 := RE.out.kX.cell 3
          have fr3 := RE.out.kR.fz 3
          have fx3 := RE.out.kX.fz 3
          have r3 := RE.out.kR.cell 3
          have z4 := RE.out.kN.cell 4
          have x4 := RE.out.kX.cell 4
          have fr4 := RE.out.kR.fz 4
          have fx4 := RE.out.kX.fz 4
          have r4 := RE.out.kR.cell 4
          simp only [List.getElem?_cons_succ, List.getElem?_cons_zero] at z0 z1 z2 z3 z4 x0 x1 x2 x3 x4 r0 r1 r2 r3 r4
          have hRl := RE.out.lt
          have hRl0 : w.heap.size < w9.heap.size := by omega
          have hRl1 : w.heap.size + 1 < w9.heap.size := by omega
          go_wp2_with fail
          refine bodyPost_ret (results_cell_row3 (h := rfl) (g := w.heap.size) (t := 27) (cs := ([.int .u8 0, .int .i64 0, .string ⟨#[]⟩, .slice none 0 0, .int .i64 0] : List Value).toArray) (fr := (0, 0)) (hp := rfl) (hg := RE.out.ret _ _ _ _ _) (hu := Try.underlying27) (hd := rfl) (hi := by kernel_rfl) _ _) rfl ?_
          exact evGets_err (by rw [HEQ.out]; unfold rdEvK; rw [hI.out, hN.out, hV.out, hF.out, ← HT.out]; simp only [opt_no, opt_yes, HH1.out, HH2.out, HH3.out, HM0.out, HOK.out]; rfl) (RE.out.retB _ _ _ _ _)
        · have HOK := Lib.hid hok
          clear hok
          refine HRT.out.mono ?_
          rintro e w9 ⟨rfl, B9⟩
          rw [HOK.out]
          have RE := Lib.hid (R4.out.bel B9)
          have HO9 := Lib.hid (own_below HO3.out B9)
          clear B9 HRT
          have z0 := RE.out.kN.cell 0
          have x0 := RE.out.kX.cell 0
          have fr0 := RE.out.kR.fz 0
          have fx0 := RE.out.kX.fz 0
          have r0 := RE.out.kR.cell 0
          have z1 := RE.out.kN.cell 1
          have x1 := RE.out.kX.cell 1
          have fr1 := RE.out.kR.fz 1
          have fx1 := RE.out.kX.fz 1
          have r1 := RE.out.kR.cell 1
          have z2 := RE.out.kN.cell 2
          have x2 := RE.out.kX.cell 2
          have fr2 := RE.out.kR.fz 2
          have fx2 := RE.out.kX.fz 2
          have r2 := RE.out.kR.cell 2
          have z3 := RE.out.kN.cell 3
          have x3 := RE.out.kX.cell 3
          have fr3 := RE.out.kR.fz 3
          have fx3 := RE.out.kX.fz 3
          have r3 := RE.out.kR.cell 3
          have z4 := RE.out.kN.cell 4
          have x4 := RE.out.kX.cell 4
          have fr4 := RE.out.kR.fz 4
          have fx4 := RE.out.kX.fz 4
          have r4 := RE.out.kR.cell 4
          simp only [List.getElem?_cons_succ, List.getElem?_cons_zero] at z0 z1 z2 z3 z4 x0 x1 x2 x3 x4 r0 r1 r2 r3 r4
          have hRl := RE.out.lt
          have hRl0 : w.heap.size < w9.heap.size := by omega
          have hRl1 : w.heap.size + 1 < w9.heap.size := by omega
          go_wp2_with fail
          have hres : rdEv l a = .ok (⟨k, 0, n1, n2, n3⟩, t3) := by rw [HEQ.out]; unfold rdEvK; rw [hI.out, hN.out, hV.out, hF.out, ← HT.out]; simp only [opt_no, opt_yes, HH1.out, HH2.out, HH3.out, HM0.out, HOK.out]; rfl
          rw [hres]
          refine bodyPost_ret (results_cell_row3 (h := rfl) (g := w.heap.size) (t := 27) (cs := ([.int .u8 (k : Int), .int .i64 0, .string ⟨n1.toArray⟩, .slice A2 n2.length c2, .int .i64 n3] : List Value).toArray) (fr := (0, 0)) (hp := rfl) (hg := RE.out.ret _ _ _ _ _) (hu := Try.underlying27) (hd := rfl) (hi := by kernel_rfl) _ _) rfl ?_
          exact ⟨⟨A2, c2, rfl, World.ownsRow.mono (base := w.heap.size + 1 + 1 + 1) (own_set5 HO9.out (by omega) _ _ _ _ _) (by omega)⟩, RE.out.retB _ _ _ _ _⟩

set_option maxRecDepth 20000 in
set_option maxHeartbeats 8000000 in
theorem rvRead_F (w : World) (A : Option Addr) (len cap : Nat) (l : List UInt8) (a k : Nat) (h : In w A len cap l) (hsz : l.length ≤ 1000000) (ha : a < l.length) (hkl : l[a].toNat = k) (hk : 1 ≤ k ∧ k ≤ 12) (hi : hasId k = false) (hn : hasName k = false) (hv : hasValue k = false) (hf : hasInt k = true) :
    Calls Try.prog 8 #[.slice A len cap, .int .i64 (a : Int)] w (EvGets w (rdEv l a)) := by
  have HEQ := Lib.hid (rdEv_kind ha hkl hk)
  obtain rfl := h.bs.len
  obtain ⟨ad, rfl, hlt, hc⟩ := h.bs.cell a ha
  rw [hkl] at hc
  have hc2 : ∀ o1 o2 : Obj, ((w.alloc o1).alloc o2).cell? (ad.add a) = some (.int .u8 (k : Int)) := fun o1 o2 =>
    (World.cell?_of_block (w := w) ((((Below.refl w.heap.size w).alloc (Nat.le_refl _) o1).alloc (by simp) o2).block _ (World.block_lt_of_cell? w _ hc))).trans hc
  have II := Lib.hid h
  have hl1 : ¬ ((l.length : Int) ≤ (a : Int)) := by omega
  have hl2 : ¬ (l.length ≤ a) := by omega
  have hl3 : (l.length : Int) ≤ 1000000 := by omega
  have hl4 : (a : Int) < (l.length : Int) := by omega
  have hl5 : (l.length : Int) ≤ (cap : Int) := by have := h.cap_le; omega
  have hk1 : ¬ ((k : Int) < 1) := by omega
  have hk2 : ¬ ((12 : Int) < (k : Int)) := by omega
  have hk3 : ¬ (k < 1) := by omega
  have hk4 : ¬ (12 < k) := by omega
  have HK := Lib.hid hk
  have hI := Lib.hid hi
  have hN := Lib.hid hn
  have hV := Lib.hid hv
  have hF := Lib.hid hf
  have HM0 : Hid (min 0 500 = 0) := Lib.hid rfl
  obtain ⟨t0s, ht0s⟩ : ∃ t, t = a + 1 := ⟨_, rfl⟩
  have hadd : (a : Int) + 1 = (t0s : Int) := by omega
  have hts : t0s ≤ l.length := by omega
  rw [show rdEvK l a k = rdEvK l a k from rfl] at HEQ
  have HT := Lib.hid ht0s
  clear hk hi hn hv hf ht0s
  have hR0 : RV w (((w.alloc (.cells #[.int .u8 0, .int .i64 0, .string ⟨#[]⟩, .slice none 0 0, .int .i64 0] 27)).alloc (.cells #[.int .u8 0, .int .i64 0, .string ⟨#[]⟩, .slice none 0 0, .int .i64 0] 27)).alloc (.cells #[.int .u8 (k : Int), .int .i64 0, .string ⟨#[]⟩, .slice none 0 0, .int .i64 0] 27)) [.int .u8 (k : Int), .int .i64 0, .string ⟨#[]⟩, .slice none 0 0, .int .i64 0] :=
    ⟨(Blk.alloc (Blk.new w 27 [.int .u8 0, .int .i64 0, .string ⟨#[]⟩, .slice none 0 0, .int .i64 0]) _).alloc _, by have := Blk.alloc (Blk.new (w.alloc (.cells #[.int .u8 0, .int .i64 0, .string ⟨#[]⟩, .slice none 0 0, .int .i64 0] 27)) 27 [.int .u8 0, .int .i64 0, .string ⟨#[]⟩, .slice none 0 0, .int .i64 0]) (.cells #[.int .u8 (k : Int), .int .i64 0, .string ⟨#[]⟩, .slice none 0 0, .int .i64 0] 27); rwa [World.size_alloc] at this,
      by have := Blk.new ((w.alloc (.cells #[.int .u8 0, .int .i64 0, .string ⟨#[]⟩, .slice none 0 0, .int .i64 0] 27)).alloc (.cells #[.int .u8 0, .int .i64 0, .string ⟨#[]⟩, .slice none 0 0, .int .i64 0] 27)) 27 [.int .u8 (k : Int), .int .i64 0, .string ⟨#[]⟩, .slice none 0 0, .int .i64 0]; rwa [World.size_alloc, World.size_alloc] at this,
      (((Below.refl w.heap.size w).alloc (Nat.le_refl _) _).alloc (by simp) _).alloc (by simp; omega) _⟩
  have R0 := Lib.hid hR0
  clear h hc hkl hR0
  go_enter Try.func8, Try.ntmps8
  go_wp2_with (first | (go_at_call 20; refine (rhId k HK.out _).mono ?_; rintro e wn ⟨rfl, rfl⟩; rw [hI.out]) | (go_at_call 22; refine (rhName k HK.out _).mono ?_; rintro e wn ⟨rfl, rfl⟩; rw [hN.out]) | (go_at_call 24; refine (rhValue k HK.out _).mono ?_; rintro e wn ⟨rfl, rfl⟩; rw [hV.out]) | (go_at_call 26; refine (rhInt k HK.out _).mono ?_; rintro e wn ⟨rfl, rfl⟩; rw [hF.out]))
  generalize ((w.alloc (.cells #[.int .u8 0, .int .i64 0, .string ⟨#[]⟩, .slice none 0 0, .int .i64 0] 27)).alloc (.cells #[.int .u8 0, .int .i64 0, .string ⟨#[]⟩, .slice none 0 0, .int .i64 0] 27)).alloc (.cells #[.int .u8 (k : Int), .int .i64 0, .string ⟨#[]⟩, .slice none 0 0, .int .i64 0] 27) = W0 at *
  clear hc2
  have IIR0 := Lib.hid (R0.out.inn II.out)
  have HC3 := Lib.hid (refInt_any W0 (some ad) l.length cap l t0s IIR0.out.bs (by omega) hsz)
  rcases hr3 : Cd.rdInt l t0s with ⟨p, en⟩ | ⟨n3, t3⟩
  · have HS3 := Lib.hid hr3
    have hen : ((en : Int) != 0) = true := by rw [bne_iff_ne]; have := rdInt_errno hr3; omega
    have HH3 : Hid (shft t0s (Cd.rdInt (l.drop t0s) 0) = .error (p, en)) := Lib.hid (by rw [rdInt_shft (by omega)]; exact hr3)
    clear hr3
    refine HC3.out.mono ?_
    rintro e w' ⟨hs, rfl⟩
    obtain rfl := hs.of_error HS3.out
    have z0 := R0.out.kN.cell 0
    have x0 := R0.out.kX.cell 0
    have fr0 := R0.out.kR.fz 0
    have fx0 := R0.out.kX.fz 0
    have r0 := R0.out.kR.cell 0
    have z1 := R0.out.kN.cell 1
    have x1 := R0.out.kX.cell 1
    have fr1 := R0.out.kR.fz 1
    have fx1 := R0.out.kX.fz 1
    have r1 := R0.out.kR.cell 1
    have z2 := R0.out.kN.cell 2
    have x2 := R0.out.kX.cell 2
    have fr2 := R0.out.kR.fz 2
    have fx2 := R0.out.kX.fz 2
    have r2 := R0.out.kR.cell 2
    have z3 := R0.out.kN.cell 3
    have x3 := R0.out.kX.cell 3
    have fr3 := R0.out.kR.fz 3
    have fx3 := R0.out.kX.fz 3
    have r3 := R0.out.kR.cell 3
    have z4 := R0.out.kN.cell 4
    have x4 := R0.out.kX.cell 4
    have fr4 := R0.out.kR.fz 4
    have fx4 := R0.out.kX.fz 4
    have r4 := R0.out.kR.cell 4
    simp only [List.getElem?_cons_succ, List.getElem?_cons_zero] at z0 z1 z2 z3 z4 x0 x1 x2 x3 x4 r0 r1 r2 r3 r4
    have hRl := R0.out.lt
    have hRl0 : w.heap.size < W0.heap.size := by omega
    have hRl1 : w.heap.size + 1 < W0.heap.size := by omega
    go_wp2_with fail
    refine bodyPost_ret (results_cell_row3 (h := rfl) (g := w.heap.size) (t := 27) (cs := ([.int .u8 0, .int .i64 0, .string ⟨#[]⟩, .slice none 0 0, .int .i64 0] : List Value).toArray) (fr := (0, 0)) (hp := rfl) (hg := R0.out.ret _ _ _ _ _) (hu := Try.underlying27) (hd := rfl) (hi := by kernel_rfl) _ _) rfl ?_
    exact evGets_err (by rw [HEQ.out]; unfold rdEvK; rw [hI.out, hN.out, hV.out, hF.out, ← HT.out]; simp only [opt_no, opt_yes, HH3.out]) (R0.out.retB _ _ _ _ _)
  · have HS3 := Lib.hid hr3
    have ht3 : t3 ≤ l.length := rdInt_le hr3
    have HB3 := Lib.hid (rdInt_i64 hr3)
    have HH3 : Hid (shft t0s (Cd.rdInt (l.drop t0s) 0) = .ok (n3, t3)) := Lib.hid (by rw [rdInt_shft (by omega)]; exact hr3)
    clear hr3
    refine HC3.out.mono ?_
    rintro e w' ⟨hs, rfl⟩
    obtain rfl := hs.of_ok HS3.out
    clear hs HC3
    unfold i64V
    have z0 := R0.out.kN.cell 0
    have x0 := R0.out.kX.cell 0
    have fr0 := R0.out.kR.fz 0
    have fx0 := R0.out.kX.fz 0
    have r0 := R0.out.kR.cell 0
    have z1 := R0.out.kN.cell 1
    have x1 := R0.out.kX.cell 1
    have fr1 := R0.out.kR.fz 1
    have fx1 := R0.out.kX.fz 1
    have r1 := R0.out.kR.cell 1
    have z2 := R0.out.kN.cell 2
    have x2 := R0.out.kX.cell 2
    have fr2 := R0.out.kR.fz 2
    have fx2 := R0.out.kX.fz 2
    have r2 := R0.out.kR.cell 2
    have z3 := R0.out.kN.cell 3
    have x3 := R0.out.kX.cell 3
    have fr3 := R0.out.kR.fz 3
    have fx3 := R0.out.kX.fz 3
    have r3 := R0.out.kR.cell 3
    have z4 := R0.out.kN.cell 4
    have x4 := R0.out.kX.cell 4
    have fr4 := R0.out.kR.fz 4
    have fx4 := R0.out.kX.fz 4
    have r4 := R0.out.kR.cell 4
    simp only [List.getElem?_cons_succ, List.getElem?_cons_zero] at z0 z1 z2 z3 z4 x0 x1 x2 x3 x4 r0 r1 r2 r3 r4
    have hRl := R0.out.lt
    have hRl0 : w.heap.size < W0.heap.size := by omega
    have hRl1 : w.heap.size + 1 < W0.heap.size := by omega
    have hR := R0.out.set 4 (.int .i64 n3)
    simp only [List.set_cons_succ, List.set_cons_zero] at hR
    have R4 := Lib.hid hR
    have IIR4 := Lib.hid (hR.inn II.out)
    clear hR
    go_wp2_with (first | (go_at_call 20; refine (rhId k HK.out _).mono ?_; rintro e wn ⟨rfl, rfl⟩; rw [hI.out]) | (go_at_call 22; refine (rhName k HK.out _).mono ?_; rintro e wn ⟨rfl, rfl⟩; rw [hN.out]) | (go_at_call 24; refine (rhValue k HK.out _).mono ?_; rintro e wn ⟨rfl, rfl⟩; rw [hV.out]) | (go_at_call 26; refine (rhInt k HK.out _).mono ?_; rintro e wn ⟨rfl, rfl⟩; rw [hF.out]))
    clear r0 r1 r2 r3 r4 z0 z1 z2 z3 z4 x0 x1 x2 x3 x4 fr0 fr1 fr2 fr3 fr4 fx0 fx1 fx2 fx3 fx4 hRl hRl0 hRl1
    generalize W0.setCell ⟨w.heap.size + 1 + 1, 4, none⟩ (.int .i64 n3) = W4 at *
    clear R0 IIR0
    have hraw : EvRaw ⟨k, 0, [], [], n3⟩ := ⟨HK.out, (fun h => by rfl), (by simp only; omega), (fun h => by rfl), (by simp only [List.length_nil]; omega), (fun h => by rw [hF.out] at h; cases h), HB3.out, (fun h => by rfl), (fun h => (by rw [hV.out] at h; cases h))⟩
    have HRT := Lib.hid (right17_any ⟨k, 0, [], [], n3⟩ hraw none 0 0 W4 (.inl ⟨rfl, rfl⟩))
    clear hraw
    rcases hok : evOk ⟨k, 0, [], [], n3⟩ with _ | _
    · have HOK := Lib.hid hok
      clear hok
      refine HRT.out.mono ?_
      rintro e w9 ⟨rfl, B9⟩
      rw [HOK.out]
      have RE := Lib.hid (R4.out.bel B9)
      clear B9 HRT
      have z0 := RE.out.kN.cell 0
      have x0 := RE.out.kX.cell 0
      have fr0 := RE.out.kR.fz 0
      have fx0 := RE.out.kX.fz 0
      have r0 := RE.out.kR.cell 0
      have z1 := RE.out.kN.cell 1
      have x1 := RE.out.kX.cell 1
      have fr1 := RE.out.kR.fz 1
      have fx1 := RE.out.kX.fz 1
      have r1 := RE.out.kR.cell 1
      have z2 := RE.out.kN.cell 2
      have x2 := RE.out.kX.cell 2
      have fr2 := RE.out.kR.fz 2
      have fx2 := RE.out.kX.fz 2
      have r2 := RE.out.kR.cell 2
      have z3 := RE.out.kN.cell 3
      have x3 := RE.out.kX.cell 3
      have fr3 := RE.out.kR.fz 3
      have fx3 := RE.out.kX.fz 3
      have r3 := RE.out.kR.cell 3
      have z4 := RE.out.kN.cell 4
      have x4 := RE.out.kX.cell 4
      have fr4 := RE.out.kR.fz 4
      have fx4 := RE.out.kX.fz 4
      have r4 := RE.out.kR.cell 4
      simp only [List.getElem?_cons_succ, List.getElem?_cons_zero] at z0 z1 z2 z3 z4 x0 x1 x2 x3 x4 r0 r1 r2 r3 r4
      have hRl := RE.out.lt
      have hRl0 : w.heap.size < w9.heap.size := by omega
      have hRl1 : w.heap.size + 1 < w9.heap.size := by omega
      go_wp2_with fail
      refine bodyPost_ret (results_cell_row3 (h := rfl) (g := w.heap.size) (t := 27) (cs := ([.int .u8 0, .int .i64 0, .string ⟨#[]⟩, .slice none 0 0, .int .i64 0] : List Value).toArray) (fr := (0, 0)) (hp := rfl) (hg := RE.out.ret _ _ _ _ _) (hu := Try.underlying27) (hd := rfl) (hi := by kernel_rfl) _ _) rfl ?_
      exact evGets_err (by rw [HEQ.out]; unfold rdEvK; rw [hI.out, hN.out, hV.out, hF.out, ← HT.out]; simp only [opt_no, opt_yes, HH3.out, HM0.out, HOK.out]; rfl) (RE.out.retB _ _ _ _ _)
    · have HOK := Lib.hid hok
      clear hok
      refine HRT.out.mono ?_
      rintro e w9 ⟨rfl, B9⟩
      rw [HOK.out]
      have RE := Lib.hid (R4.out.bel B9)
      clear B9 HRT
      have z0 := RE.out.kN.cell 0
      have x0 := RE.out.kX.cell 0
      have fr0 := RE.out.kR.fz 0
      have fx0 := RE.out.kX.fz 0
      have r0 := RE.out.kR.cell 0
      have z1 := RE.out.kN.cell 1
      have x1 := RE.out.kX.cell 1
      have fr1 := RE.out.kR.fz 1
      have fx1 := RE.out.kX.fz 1
      have r1 := RE.out.kR.cell 1
      have z2 := RE.out.kN.cell 2
      have x2 := RE.out.kX.cell 2
      have fr2 := RE.out.kR.fz 2
      have fx2 := RE.out.kX.fz 2
      have r2 := RE.out.kR.cell 2
      have z3 := RE.out.kN.cell 3
      have x3 := RE.out.kX.cell 3
      have fr3 := RE.out.kR.fz 3
      have fx3 := RE.out.kX.fz 3
      have r3 := RE.out.kR.cell 3
      have z4 := RE.out.kN.cell 4
      have x4 := RE.out.kX.cell 4
      have fr4 := RE.out.kR.fz 4
      have fx4 := RE.out.kX.fz 4
      have r4 := RE.out.kR.cell 4
      simp only [List.getElem?_cons_succ, List.getElem?_cons_zero] at z0 z1 z2 z3 z4 x0 x1 x2 x3 x4 r0 r1 r2 r3 r4
      have hRl := RE.out.lt
      have hRl0 : w.heap.size < w9.heap.size := by omega
      have hRl1 : w.heap.size + 1 < w9.heap.size := by omega
      go_wp2_with fail
      have hres : rdEv l a = .ok (⟨k, 0, [], [], n3⟩, t3) := by rw [HEQ.out]; unfold rdEvK; rw [hI.out, hN.out, hV.out, hF.out, ← HT.out]; simp only [opt_no, opt_yes, HH3.out, HM0.out, HOK.out]; rfl
      rw [hres]
      refine bodyPost_ret (results_cell_row3 (h := rfl) (g := w.heap.size) (t := 27) (cs := ([.int .u8 (k : Int), .int .i64 0, .string ⟨#[]⟩, .slice none 0 0, .int .i64 n3] : List Value).toArray) (fr := (0, 0)) (hp := rfl) (hg := RE.out.ret _ _ _ _ _) (hu := Try.underlying27) (hd := rfl) (hi := by kernel_rfl) _ _) rfl ?_
      exact ⟨⟨none, 0, rfl, World.ownsRow_nil _ _ _ _⟩, RE.out.retB _ _ _ _ _⟩

set_option maxRecDepth 20000 in
set_option maxHeartbeats 8000000 in
theorem rvRead_INV (w : World) (A : Option Addr) (len cap : Nat) (l : List UInt8) (a k : Nat) (h : In w A len cap l) (hsz : l.length ≤ 1000000) (ha : a < l.length) (hkl : l[a].toNat = k) (hk : 1 ≤ k ∧ k ≤ 12) (hi : hasId k = true) (hn : hasName k = true) (hv : hasValue k = true) (hf : hasInt k = false) :
    Calls Try.prog 8 #[.slice A len cap, .int .i64 (a : Int)] w (EvGets w (rdEv l a)) := by
  have HEQ := Lib.hid (rdEv_kind ha hkl hk)
  obtain rfl := h.bs.len
  obtain ⟨ad, rfl, hlt, hc⟩ := h.bs.cell a ha
  rw [hkl] at hc
  have hc2 : ∀ o1 o2 : Obj, ((w.alloc o1).alloc o2).cell? (ad.add a) = some (.int .u8 (k : Int)) := fun o1 o2 =>
    (World.cell?_of_block (w := w) ((((Below.refl w.heap.size w).alloc (Nat.le_refl _) o1).alloc (by simp) o2).block _ (World.block_lt_of_cell? w _ hc))).trans hc
  have II := Lib.hid h
  have hl1 : ¬ ((l.length : Int) ≤ (a : Int)) := by omega
  have hl2 : ¬ (l.length ≤ a) := by omega
  have hl3 : (l.length : Int) ≤ 1000000 := by omega
  have hl4 : (a : Int) < (l.length : Int) := by omega
  have hl5 : (l.length : Int) ≤ (cap : Int) := by have := h.cap_le; omega
  have hk1 : ¬ ((k : Int) < 1) := by omega
  have hk2 : ¬ ((12 : Int) < (k : Int)) := by omega
  have hk3 : ¬ (k < 1) := by omega
  have hk4 : ¬ (12 < k) := by omega
  have HK := Lib.hid hk
  have hI := Lib.hid hi
  have hN := Lib.hid hn
  have hV := Lib.hid hv
  have hF := Lib.hid hf
  have HM0 : Hid (min 0 500 = 0) := Lib.hid rfl
  obtain ⟨t0s, ht0s⟩ : ∃ t, t = a + 1 := ⟨_, rfl⟩
  have hadd : (a : Int) + 1 = (t0s : Int) := by omega
  have hts : t0s ≤ l.length := by omega
  rw [show rdEvK l a k = rdEvK l a k from rfl] at HEQ
  have HT := Lib.hid ht0s
  clear hk hi hn hv hf ht0s
  have hR0 : RV w (((w.alloc (.cells #[.int .u8 0, .int .i64 0, .string ⟨#[]⟩, .slice none 0 0, .int .i64 0] 27)).alloc (.cells #[.int .u8 0, .int .i64 0, .string ⟨#[]⟩, .slice none 0 0, .int .i64 0] 27)).alloc (.cells #[.int .u8 (k : Int), .int .i64 0, .string ⟨#[]⟩, .slice none 0 0, .int .i64 0] 27)) [.int .u8 (k : Int), .int .i64 0, .string ⟨#[]⟩, .slice none 0 0, .int .i64 0] :=
    ⟨(Blk.alloc (Blk.new w 27 [.int .u8 0, .int .i64 0, .string ⟨#[]⟩, .slice none 0 0, .int .i64 0]) _).alloc _, by have := Blk.alloc (Blk.new (w.alloc (.cells #[.int .u8 0, .int .i64 0, .string ⟨#[]⟩, .slice none 0 0, .int .i64 0] 27)) 27 [.int .u8 0, .int .i64 0, .string ⟨#[]⟩, .slice none 0 0, .int .i64 0]) (.cells #[.int .u8 (k : Int), .int .i64 0, .string ⟨#[]⟩, .slice none 0 0, .int .i64 0] 27); rwa [World.size_alloc] at this,
      by have := Blk.new ((w.alloc (.cells #[.int .u8 0, .int .i64 0, .string ⟨#[]⟩, .slice none 0 0, .int .i64 0] 27)).alloc (.cells #[.int .u8 0, .int .i64 0, .string ⟨#[]⟩, .slice none 0 0, .int .i64 0] 27)) 27 [.int .u8 (k : Int), .int .i64 0, .string ⟨#[]⟩, .slice none 0 0, .int .i64 0]; rwa [World.size_alloc, World.size_alloc] at this,
      (((Below.refl w.heap.size w).alloc (Nat.le_refl _) _).alloc (by simp) _).alloc (by simp; omega) _⟩
  have R0 := Lib.hid hR0
  clear h hc hkl hR0
  go_enter Try.func8, Try.ntmps8
  go_wp2_with (first | (go_at_call 20; refine (rhId k HK.out _).mono ?_; rintro e wn ⟨rfl, rfl⟩; rw [hI.out]) | (go_at_call 22; refine (rhName k HK.out _).mono ?_; rintro e wn ⟨rfl, rfl⟩; rw [hN.out]) | (go_at_call 24; refine (rhValue k HK.out _).mono ?_; rintro e wn ⟨rfl, rfl⟩; rw [hV.out]) | (go_at_call 26; refine (rhInt k HK.out _).mono ?_; rintro e wn ⟨rfl, rfl⟩; rw [hF.out]))
  generalize ((w.alloc (.cells #[.int .u8 0, .int .i64 0, .string ⟨#[]⟩, .slice none 0 0, .int .i64 0] 27)).alloc (.cells #[.int .u8 0, .int .i64 0, .string ⟨#[]⟩, .slice none 0 0, .int .i64 0] 27)).alloc (.cells #[.int .u8 (k : Int), .int .i64 0, .string ⟨#[]⟩, .slice none 0 0, .int .i64 0] 27) = W0 at *
  clear hc2
  have IIR0 := Lib.hid (R0.out.inn II.out)
  have HC0 := Lib.hid (refUint_any W0 (some ad) l.length cap l t0s IIR0.out.bs (by omega) hsz)
  rcases hr0 : Cd.rdUint l t0s with ⟨p, en⟩ | ⟨n0, t0⟩
  · have HS0 := Lib.hid hr0
    have hen : ((en : Int) != 0) = true := by rw [bne_iff_ne]; have := rdUint_errno' hr0; omega
    have HH0 : Hid (shft t0s (Cd.rdUint (l.drop t0s) 0) = .error (p, en)) := Lib.hid (by rw [rdUint_shft (by omega)]; exact hr0)
    clear hr0
    refine HC0.out.mono ?_
    rintro e w' ⟨hs, rfl⟩
    obtain rfl := hs.of_error HS0.out
    have z0 := R0.out.kN.cell 0
    have x0 := R0.out.kX.cell 0
    have fr0 := R0.out.kR.fz 0
    have fx0 := R0.out.kX.fz 0
    have r0 := R0.out.kR.cell 0
    have z1 := R0.out.kN.cell 1
    have x1 := R0.out.kX.cell 1
    have fr1 := R0.out.kR.fz 1
    have fx1 := R0.out.kX.fz 1
    have r1 := R0.out.kR.cell 1
    have z2 := R0.out.kN.cell 2
    have x2 := R0.out.kX.cell 2
    have fr2 := R0.out.kR.fz 2
    have fx2 := R0.out.kX.fz 2
    have r2 := R0.out.kR.cell 2
    have z3 := R0.out.kN.cell 3
    have x3 := R0.out.kX.cell 3
    have fr3 := R0.out.kR.fz 3
    have fx3 := R0.out.kX.fz 3
    have r3 := R0.out.kR.cell 3
    have z4 := R0.out.kN.cell 4
    have x4 := R0.out.kX.cell 4
    have fr4 := R0.out.kR.fz 4
    have fx4 := R0.out.kX.fz 4
    have r4 := R0.out.kR.cell 4
    simp only [List.getElem?_cons_succ, List.getElem?_cons_zero] at z0 z1 z2 z3 z4 x0 x1 x2 x3 x4 r0 r1 r2 r3 r4
    have hRl := R0.out.lt
    have hRl0 : w.heap.size < W0.heap.size := by omega
    have hRl1 : w.heap.size + 1 < W0.heap.size := by omega
    go_wp2_with fail
    refine bodyPost_ret (results_cell_row3 (h := rfl) (g := w.heap.size) (t := 27) (cs := ([.int .u8 0, .int .i64 0, .string ⟨#[]⟩, .slice none 0 0, .int .i64 0] : List Value).toArray) (fr := (0, 0)) (hp := rfl) (hg := R0.out.ret _ _ _ _ _) (hu := Try.underlying27) (hd := rfl) (hi := by kernel_rfl) _ _) rfl ?_
    exact evGets_err (by rw [HEQ.out]; unfold rdEvK; rw [hI.out, hN.out, hV.out, hF.out, ← HT.out]; simp only [opt_no, opt_yes, HH0.out]) (R0.out.retB _ _ _ _ _)
  · have HS0 := Lib.hid hr0
    have ht0 : t0 ≤ l.length := (Cd.rdUint_lt hr0).2.2
    have hb0 : n0 < 18446744073709551616 := (Cd.rdUint_lt hr0).1
    have HH0 : Hid (shft t0s (Cd.rdUint (l.drop t0s) 0) = .ok (n0, t0)) := Lib.hid (by rw [rdUint_shft (by omega)]; exact hr0)
    clear hr0
    refine HC0.out.mono ?_
    rintro e w' ⟨hs, rfl⟩
    obtain rfl := hs.of_ok HS0.out
    clear hs HC0
    unfold u64V
    have z0 := R0.out.kN.cell 0
    have x0 := R0.out.kX.cell 0
    have fr0 := R0.out.kR.fz 0
    have fx0 := R0.out.kX.fz 0
    have r0 := R0.out.kR.cell 0
    have z1 := R0.out.kN.cell 1
    have x1 := R0.out.kX.cell 1
    have fr1 := R0.out.kR.fz 1
    have fx1 := R0.out.kX.fz 1
    have r1 := R0.out.kR.cell 1
    have z2 := R0.out.kN.cell 2
    have x2 := R0.out.kX.cell 2
    have fr2 := R0.out.kR.fz 2
    have fx2 := R0.out.kX.fz 2
    have r2 := R0.out.kR.cell 2
    have z3 := R0.out.kN.cell 3
    have x3 := R0.out.kX.cell 3
    have fr3 := R0.out.kR.fz 3
    have fx3 := R0.out.kX.fz 3
    have r3 := R0.out.kR.cell 3
    have z4 := R0.out.kN.cell 4
    have x4 := R0.out.kX.cell 4
    have fr4 := R0.out.kR.fz 4
    have fx4 := R0.out.kX.fz 4
    have r4 := R0.out.kR.cell 4
    simp only [List.getElem?_cons_succ, List.getElem?_cons_zero] at z0 z1 z2 z3 z4 x0 x1 x2 x3 x4 r0 r1 r2 r3 r4
    have hRl := R0.out.lt
    have hRl0 : w.heap.size < W0.heap.size := by omega
    have hRl1 : w.heap.size + 1 < W0.heap.size := by omega
    rcases Nat.lt_or_ge 500 n0 with hm | hm
    · have hm' : (500 : Int) < (n0 : Int) := by omega
      have HM : Hid (min n0 500 = 500) := Lib.hid (by omega)
      clear hm
      have hR := R0.out.set 1 (.int .i64 500)
      simp only [List.set_cons_succ, List.set_cons_zero] at hR
      have R1 := Lib.hid hR
      have IIR1 := Lib.hid (hR.inn II.out)
      clear hR
      go_wp2_with (first | (go_at_call 20; refine (rhId k HK.out _).mono ?_; rintro e wn ⟨rfl, rfl⟩; rw [hI.out]) | (go_at_call 22; refine (rhName k HK.out _).mono ?_; rintro e wn ⟨rfl, rfl⟩; rw [hN.out]) | (go_at_call 24; refine (rhValue k HK.out _).mono ?_; rintro e wn ⟨rfl, rfl⟩; rw [hV.out]) | (go_at_call 26; refine (rhInt k HK.out _).mono ?_; rintro e wn ⟨rfl, rfl⟩; rw [hF.out]))
      clear r0 r1 r2 r3 r4 z0 z1 z2 z3 z4 x0 x1 x2 x3 x4 fr0 fr1 fr2 fr3 fr4 fx0 fx1 fx2 fx3 fx4 hRl hRl0 hRl1
      generalize W0.setCell ⟨w.heap.size + 1 + 1, 1, none⟩ (.int .i64 500) = W1 at *
      clear R0 IIR0
      have HC1 := Lib.hid (refText_any W1 (some ad) l.length cap l t0 IIR1.out.bs IIR1.out.cap_le.1 (by omega) hsz)
      rcases hr1 : Cd.rdText l t0 with ⟨p, en⟩ | ⟨n1, t1⟩
      · have HS1 := Lib.hid hr1
        have hen : ((en : Int) != 0) = true := by rw [bne_iff_ne]; have := rdText_errno hr1; omega
        have HH1 : Hid (shft t0 (Cd.rdText (l.drop t0) 0) = .error (p, en)) := Lib.hid (by rw [rdText_shft (by omega)]; exact hr1)
        clear hr1
        refine HC1.out.mono ?_
        rintro e w' ⟨hs, rfl⟩
        obtain rfl := hs.of_error HS1.out
        have z0 := R1.out.kN.cell 0
        have x0 := R1.out.kX.cell 0
        have fr0 := R1.out.kR.fz 0
        have fx0 := R1.out.kX.fz 0
        have r0 := R1.out.kR.cell 0
        have z1 := R1.out.kN.cell 1
        have x1 := R1.out.kX.cell 1
        have fr1 := R1.out.kR.fz 1
        have fx1 := R1.out.kX.fz 1
        have r1 := R1.out.kR.cell 1
        have z2 := R1.out.kN.cell 2
        have x2 := R1.out.kX.cell 2
        have fr2 := R1.out.kR.fz 2
        have fx2 := R1.out.kX.fz 2
        have r2 := R1.out.kR.cell 2
        have z3 := R1.out.kN.cell 3
        have x3 := R1.out.kX.cell 3
        have fr3 := R1.out.kR.fz 3
        have fx3 := R1.out.kX.fz 3
        have r3 := R1.out.kR.cell 3
        have z4 := R1.out.kN.cell 4
        have x4 := R1.out.kX.cell 4
        have fr4 := R1.out.kR.fz 4
        have fx4 := R1.out.kX.fz 4
        have r4 := R1.out.kR.cell 4
        simp only [List.getElem?_cons_succ, List.getElem?_cons_zero] at z0 z1 z2 z3 z4 x0 x1 x2 x3 x4 r0 r1 r2 r3 r4
        have hRl := R1.out.lt
        have hRl0 : w.heap.size < W1.heap.size := by omega
        have hRl1 : w.heap.size + 1 < W1.heap.size := by omega
        go_wp2_with fail
        refine bodyPost_ret (results_cell_row3 (h := rfl) (g := w.heap.size) (t := 27) (cs := ([.int .u8 0, .int .i64 0, .string ⟨#[]⟩, .slice none 0 0, .int .i64 0] : List Value).toArray) (fr := (0, 0)) (hp := rfl) (hg := R1.out.ret _ _ _ _ _) (hu := Try.underlying27) (hd := rfl) (hi := by kernel_rfl) _ _) rfl ?_
        exact evGets_err (by rw [HEQ.out]; unfold rdEvK; rw [hI.out, hN.out, hV.out, hF.out, ← HT.out]; simp only [opt_no, opt_yes, HH0.out, HH1.out]) (R1.out.retB _ _ _ _ _)
      · have HS1 := Lib.hid hr1
        have ht1 : t1 ≤ l.length := rdText_le hr1
        have hb1 : n1.length ≤ l.length := rdText_len hr1
        have HH1 : Hid (shft t0 (Cd.rdText (l.drop t0) 0) = .ok (n1, t1)) := Lib.hid (by rw [rdText_shft (by omega)]; exact hr1)
        clear hr1
        refine HC1.out.mono ?_
        rintro e w' ⟨hs, rfl⟩
        obtain rfl := hs.of_ok HS1.out
        clear hs HC1
        unfold strV
        have z0 := R1.out.kN.cell 0
        have x0 := R1.out.kX.cell 0
        have fr0 := R1.out.kR.fz 0
        have fx0 := R1.out.kX.fz 0
        have r0 := R1.out.kR.cell 0
        have z1 := R1.out.kN.cell 1
        have x1 := R1.out.kX.cell 1
        have fr1 := R1.out.kR.fz 1
        have fx1 := R1.out.kX.fz 1
        have r1 := R1.out.kR.cell 1
        have z2 := R1.out.kN.cell 2
        have x2 := R1.out.kX.cell 2
        have fr2 := R1.out.kR.fz 2
        have fx2 := R1.out.kX.fz 2
        have r2 := R1.out.kR.cell 2
        have z3 := R1.out.kN.cell 3
        have x3 := R1.out.kX.cell 3
        have fr3 := R1.out.kR.fz 3
        have fx3 := R1.out.kX.fz 3
        have r3 := R1.out.kR.cell 3
        have z4 := R1.out.kN.cell 4
        have x4 := R1.out.kX.cell 4
        have fr4 := R1.out.kR.fz 4
        have fx4 := R1.out.kX.fz 4
        have r4 := R1.out.kR.cell 4
        simp only [List.getElem?_cons_succ, List.getElem?_cons_zero] at z0 z1 z2 z3 z4 x0 x1 x2 x3 x4 r0 r1 r2 r3 r4
        have hRl := R1.out.lt
        have hRl0 : w.heap.size < W1.heap.size := by omega
        have hRl1 : w.heap.size + 1 < W1.heap.size := by omega
        have hR := R1.out.set 2 (.string ⟨n1.toArray⟩)
        simp only [List.set_cons_succ, List.set_cons_zero] at hR
        have R2 := Lib.hid hR
        have IIR2 := Lib.hid (hR.inn II.out)
        clear hR
        obtain ⟨A', hA'⟩ : ∃ A', (if cap = t1 then some ad else some (ad.add t1)) = A' := ⟨_, rfl⟩
        go_wp2_with (first | (go_at_call 20; refine (rhId k HK.out _).mono ?_; rintro e wn ⟨rfl, rfl⟩; rw [hI.out]) | (go_at_call 22; refine (rhName k HK.out _).mono ?_; rintro e wn ⟨rfl, rfl⟩; rw [hN.out]) | (go_at_call 24; refine (rhValue k HK.out _).mono ?_; rintro e wn ⟨rfl, rfl⟩; rw [hV.out]) | (go_at_call 26; refine (rhInt k HK.out _).mono ?_; rintro e wn ⟨rfl, rfl⟩; rw [hF.out]))
        clear r0 r1 r2 r3 r4 z0 z1 z2 z3 z4 x0 x1 x2 x3 x4 fr0 fr1 fr2 fr3 fr4 fx0 fx1 fx2 fx3 fx4 hRl hRl0 hRl1
        generalize W1.setCell ⟨w.heap.size + 1 + 1, 2, none⟩ (.string ⟨n1.toArray⟩) = W2 at *
        clear R1 IIR1
        have hid2 : In W2 A' (l.length - t1) (cap - t1) (l.drop t1) := by rw [← hA']; exact in_drop IIR2.out (by omega)
        clear hA'
        have HC2 := Lib.hid (refValue_any W2 _ _ _ (l.drop t1) hid2 (by simp; omega))
        clear hid2
        rcases hr2 : rdValue (l.drop t1) with ⟨p, en⟩ | ⟨n2, t2⟩
        · have hen : ((en : Int) != 0) = true := by rw [bne_iff_ne]; have := rdValue_errno hr2; omega
          have hpl := (rdValue_er hr2).1
          rw [List.length_drop] at hpl
          have HH2 : Hid (shft t1 (rdValue (l.drop t1)) = .error (t1 + p, en)) := Lib.hid (by rw [hr2]; rfl)
          have HR2 := Lib.hid hr2
          clear hr2
          obtain ⟨q, hq⟩ : ∃ q, q = t1 + p := ⟨_, rfl⟩
          have hq2 : (t1 : Int) + (p : Int) = (q : Int) := by omega
          rw [← hq] at HH2
          have hq3 : (q : Int) ≤ 1000000 := by omega
          clear hq hpl
          refine HC2.out.mono ?_
          rintro e w2 ⟨he, B2⟩
          rw [HR2.out] at he
          obtain rfl := he
          have RE := Lib.hid (R2.out.bel B2)
          clear B2 HC2
          have z0 := RE.out.kN.cell 0
          have x0 := RE.out.kX.cell 0
          have fr0 := RE.out.kR.fz 0
          have fx0 := RE.out.kX.fz 0
          have r0 := RE.out.kR.cell 0
          have z1 := RE.out.kN.cell 1
          have x1 := RE.out.kX.cell 1
          have fr1 := RE.out.kR.fz 1
          have fx1 := RE.out.kX.fz 1
          have r1 := RE.out.kR.cell 1
          have z2 := RE.out.kN.cell 2
          have x2 := RE.out.kX.cell 2
          have fr2 := RE.out.kR.fz 2
          have fx2 := RE.out.kX.fz 2
          have r2 := RE.out.kR.cell 2
          have z3 := RE.out.kN.cell 3
          have x3 := RE.out.kX.cell 3
          have fr3 := RE.out.kR.fz 3
          have fx3 := RE.out.kX.fz 3
          have r3 := RE.out.kR.cell 3
          have z4 := RE.out.kN.cell 4
          have x4 := RE.out.kX.cell 4
          have fr4 := RE.out.kR.fz 4
          have fx4 := RE.out.kX.fz 4
          have r4 := RE.out.kR.cell 4
          simp only [List.getElem?_cons_succ, List.getElem?_cons_zero] at z0 z1 z2 z3 z4 x0 x1 x2 x3 x4 r0 r1 r2 r3 r4
          have hRl := RE.out.lt
          have hRl0 : w.heap.size < w2.heap.size := by omega
          have hRl1 : w.heap.size + 1 < w2.heap.size := by omega
          go_wp2_with fail
          refine bodyPost_ret (results_cell_row3 (h := rfl) (g := w.heap.size) (t := 27) (cs := ([.int .u8 0, .int .i64 0, .string ⟨#[]⟩, .slice none 0 0, .int .i64 0] : List Value).toArray) (fr := (0, 0)) (hp := rfl) (hg := RE.out.ret _ _ _ _ _) (hu := Try.underlying27) (hd := rfl) (hi := by kernel_rfl) _ _) rfl ?_
          exact evGets_err (by rw [HEQ.out]; unfold rdEvK; rw [hI.out, hN.out, hV.out, hF.out, ← HT.out]; simp only [opt_no, opt_yes, HH0.out, HH1.out, HH2.out]) (RE.out.retB _ _ _ _ _)
        · have ht2 : t2 ≤ l.length - t1 := by have := rdValue_le hr2; rwa [List.length_drop] at this
          obtain ⟨sz, hvi⟩ := rdValue_inv hr2
          have HVO := Lib.hid (show ValOk n2 ∧ ∀ y ∈ n2, I64 y.int from ⟨hvi.valOk, fun y hy => (hvi.ok y hy).2.1⟩)
          clear hvi
          have HH2 : Hid (shft t1 (rdValue (l.drop t1)) = .ok (n2, t1 + t2)) := Lib.hid (by rw [hr2]; rfl)
          have HR2 := Lib.hid hr2
          clear hr2
          obtain ⟨q, hq⟩ : ∃ q, q = t1 + t2 := ⟨_, rfl⟩
          have hq2 : (t1 : Int) + (t2 : Int) = (q : Int) := by omega
          rw [← hq] at HH2
          have hq3 : q ≤ l.length := by omega
          have hq4 : (q : Int) ≤ 1000000 := by omega
          clear hq ht2
          refine HC2.out.mono ?_
          rintro e w2 ⟨he, B2⟩
          rw [HR2.out] at he
          obtain ⟨v2, rfl, ho2⟩ := he
          obtain ⟨A2, c2, rfl⟩ := own_slice ho2
          have RE := Lib.hid (R2.out.bel B2)
          have hO2 := ho2.mono (base' := W2.heap.size) (Nat.le_refl _)
          have hWl := R2.out.lt
          have HOa := Lib.hid (World.ownsRow.mono (base' := w.heap.size + 1 + 1 + 1) ho2 (by omega))
          clear B2 HC2 ho2 hO2 hWl
          have z0 := RE.out.kN.cell 0
          have x0 := RE.out.kX.cell 0
          have fr0 := RE.out.kR.fz 0
          have fx0 := RE.out.kX.fz 0
          have r0 := RE.out.kR.cell 0
          have z1 := RE.out.kN.cell 1
          have x1 := RE.out.kX.cell 1
          have fr1 := RE.out.kR.fz 1
          have fx1 := RE.out.kX.fz 1
          have r1 := RE.out.kR.cell 1
          have z2 := RE.out.kN.cell 2
          have x2 := RE.out.kX.cell 2
          have fr2 := RE.out.kR.fz 2
          have fx2 := RE.out.kX.fz 2
          have r2 := RE.out.kR.cell 2
          have z3 := RE.out.kN.cell 3
          have x3 := RE.out.kX.cell 3
          have fr3 := RE.out.kR.fz 3
          have fx3 := RE.out.kX.fz 3
          have r3 := RE.out.kR.cell 3
          have z4 := RE.out.kN.cell 4
          have x4 := RE.out.kX.cell 4
          have fr4 := RE.out.kR.fz 4
          have fx4 := RE.out.kX.fz 4
          have r4 := RE.out.kR.cell 4
          simp only [List.getElem?_cons_succ, List.getElem?_cons_zero] at z0 z1 z2 z3 z4 x0 x1 x2 x3 x4 r0 r1 r2 r3 r4
          have hRl := RE.out.lt
          have hRl0 : w.heap.size < w2.heap.size := by omega
          have hRl1 : w.heap.size + 1 < w2.heap.size := by omega
          have hR := RE.out.set 3 (.slice A2 n2.length c2)
          simp only [List.set_cons_succ, List.set_cons_zero] at hR
          have R3 := Lib.hid hR
          have IIR3 := Lib.hid (hR.inn II.out)
          clear hR
          go_wp2_with (first | (go_at_call 20; refine (rhId k HK.out _).mono ?_; rintro e wn ⟨rfl, rfl⟩; rw [hI.out]) | (go_at_call 22; refine (rhName k HK.out _).mono ?_; rintro e wn ⟨rfl, rfl⟩; rw [hN.out]) | (go_at_call 24; refine (rhValue k HK.out _).mono ?_; rintro e wn ⟨rfl, rfl⟩; rw [hV.out]) | (go_at_call 26; refine (rhInt k HK.out _).mono ?_; rintro e wn ⟨rfl, rfl⟩; rw [hF.out]))
          clear r0 r1 r2 r3 r4 z0 z1 z2 z3 z4 x0 x1 x2 x3 x4 fr0 fr1 fr2 fr3 fr4 fx0 fx1 fx2 fx3 fx4 hRl hRl0 hRl1
          have HO2 := Lib.hid (own_set (b := w.heap.size + 1 + 1) (j := 3) (u := .slice A2 n2.length c2) HOa.out (by omega))
          clear HOa
          generalize w2.setCell ⟨w.heap.size + 1 + 1, 3, none⟩ (.slice A2 n2.length c2) = W3 at *
          clear RE R2 IIR2
          have hraw : EvRaw ⟨k, 500, n1, n2, 0⟩ := ⟨HK.out, (fun h => by rw [hI.out] at h; cases h), (by simp only; omega), (fun h => by rw [hN.out] at h; cases h), (by simp only [List.length_nil]; omega), (fun h => by rfl), (show I64 0 from ⟨by decide, by decide⟩), (fun h => by rw [hV.out] at h; cases h), (fun h => HVO.out)⟩
          have HRT := Lib.hid (right17_any ⟨k, 500, n1, n2, 0⟩ hraw A2 n2.length c2 W3 (vin_own HO2.out))
          clear hraw
          rcases hok : evOk ⟨k, 500, n1, n2, 0⟩ with _ | _
          · have HOK := Lib.hid hok
            clear hok
            refine HRT.out.mono ?_
            rintro e w9 ⟨rfl, B9⟩
            rw [HOK.out]
            have RE := Lib.hid (R3.out.bel B9)
            clear B9 HRT
            have z0 := RE.out.kN.cell 0
            have x0 := RE.out.kX.cell 0
            have fr0 := RE.out.kR.fz 0
            have fx0 := RE.out.kX.fz 0
            have r0 := RE.out.kR.cell 0
            have z1 := RE.out.kN.cell 1
            have x1 := RE.out.kX.cell 1
            have fr1 := RE.out.kR.fz 1
            have fx1 := RE.out.kX.fz 1
            have r1 := RE.out.kR.cell 1
            have z2 := RE.out.kN.cell 2
            have x2 := RE.out.kX.cell 2
            have fr2 := RE.out.kR.fz 2
            have fx2 := RE.out.kX.fz 2
            have r2 := RE.out.kR.cell 2
            have z3 := RE.out.kN.cell 3
            have x3 := RE.out.kX.cell 3
            have fr3 := RE.out.kR.fz 3
            have fx3 := RE.out.kX.fz 3
            have r3 := RE.out.kR.cell 3
            have z4 := RE.out.kN.cell 4
            have x4 := RE.out.kX.cell 4
            have fr4 := RE.out.kR.fz 4
            have fx4 := RE.out.kX.fz 4
            have r4 := RE.out.kR.cell 4
            simp only [List.getElem?_cons_succ, List.getElem?_cons_zero] at z0 z1 z2 z3 z4 x0 x1 x2 x3 x4 r0 r1 r2 r3 r4
            have hRl := RE.out.lt
            have hRl0 : w.heap.size < w9.heap.size := by omega
            have hRl1 : w.heap.size + 1 < w9.heap.size := by omega
            go_wp2_with fail
            refine bodyPost_ret (results_cell_row3 (h := rfl) (g := w.heap.size) (t := 27) (cs := ([.int .u8 0, .int .i64 0, .string ⟨#[]⟩, .slice none 0 0, .int .i64 0] : List Value).toArray) (fr := (0, 0)) (hp := rfl) (hg := RE.out.ret _ _ _ _ _) (hu := Try.underlying27) (hd := rfl) (hi := by kernel_rfl) _ _) rfl ?_
            exact evGets_err (by rw [HEQ.out]; unfold rdEvK; rw [hI.out, hN.out, hV.out, hF.out, ← HT.out]; simp only [opt_no, opt_yes, HH0.out, HH1.out, HH2.out, HM.out, HOK.out]; rfl) (RE.out.retB _ _ _ _ _)
          · have HOK := Lib.hid hok
            clear hok
            refine HRT.out.mono ?_
            rintro e w9 ⟨rfl, B9⟩
            rw [HOK.out]
            have RE := Lib.hid (R3.out.bel B9)
            have HO9 := Lib.hid (own_below HO2.out B9)
            clear B9 HRT
            have z0 := RE.out.kN.cell 0
            have x0 := RE.out.kX.cell 0
            have fr0 := RE.out.kR.fz 0
            have fx0 := RE.out.kX.fz 0
            have r0 := RE.out.kR.cell 0
            have z1 := RE.out.kN.cell 1
            have x1 := RE.out.kX.cell 1
            have fr1 := RE.out.kR.fz 1
            have fx1 := RE.out.kX.fz 1
            have r1 := RE.out.kR.cell 1
            have z2 := RE.out.kN.cell 2
            have x2 := RE.out.kX.cell 2
            have fr2 := RE.out.kR.fz 2
            have fx2 := RE.out.kX.fz 2
            have r2 := RE.out.kR.cell 2
            have z3 := RE.out.kN.cell 3
            have x3 := RE.out.kX.cell 3
            have fr3 := RE.out.kR.fz 3
            have fx3 := RE.out.kX.fz 3
            have r3 := RE.out.kR.cell 3
            have z4 := RE.out.kN.cell 4
            have x4 := RE.out.kX.cell 4
            have fr4 := RE.out.kR.fz 4
            have fx4 := RE.out.kX.fz 4
            have r4 := RE.out.kR.cell 4
            simp only [List.getElem?_cons_succ, List.getElem?_cons_zero] at z0 z1 z2 z3 z4 x0 x1 x2 x3 x4 r0 r1 r2 r3 r4
            have hRl := RE.out.lt
            have hRl0 : w.heap.size < w9.heap.size := by omega
            have hRl1 : w.heap.size + 1 < w9.heap.size := by omega
            go_wp2_with fail
            have hres : rdEv l a = .ok (⟨k, 500, n1, n2, 0⟩, q) := by rw [HEQ.out]; unfold rdEvK; rw [hI.out, hN.out, hV.out, hF.out, ← HT.out]; simp only [opt_no, opt_yes, HH0.out, HH1.out, HH2.out, HM.out, HOK.out]; rfl
            rw [hres]
            refine bodyPost_ret (results_cell_row3 (h := rfl) (g := w.heap.size) (t := 27) (cs := ([.int .u8 (k : Int), .int .i64 500, .string ⟨n1.toArray⟩, .slice A2 n2.length c2, .int .i64 0] : List Value).toArray) (fr := (0, 0)) (hp := rfl) (hg := RE.out.ret _ _ _ _ _) (hu := Try.underlying27) (hd := rfl) (hi := by kernel_rfl) _ _) rfl ?_
            exact ⟨⟨A2, c2, rfl, World.ownsRow.mono (base := w.heap.size + 1 + 1 + 1) (own_set5 HO9.out (by omega) _ _ _ _ _) (by omega)⟩, RE.out.retB _ _ _ _ _⟩
    · have hm' : (n0 : Int) ≤ 500 := by omega
      have HM : Hid (min n0 500 = n0) := Lib.hid (by omega)
      clear hm
      have hR := R0.out.set 1 (.int .i64 (n0 : Int))
      simp only [List.set_cons_succ, List.set_cons_zero] at hR
      have R1 := Lib.hid hR
      have IIR1 := Lib.hid (hR.inn II.out)
      clear hR
      go_wp2_with (first | (go_at_call 20; refine (rhId k HK.out _).mono ?_; rintro e wn ⟨rfl, rfl⟩; rw [hI.out]) | (go_at_call 22; refine (rhName k HK.out _).mono ?_; rintro e wn ⟨rfl, rfl⟩; rw [hN.out]) | (go_at_call 24; refine (rhValue k HK.out _).mono ?_; rintro e wn ⟨rfl, rfl⟩; rw [hV.out]) | (go_at_call 26; refine (rhInt k HK.out _).mono ?_; rintro e wn ⟨rfl, rfl⟩; rw [hF.out]))
      clear r0 r1 r2 r3 r4 z0 z1 z2 z3 z4 x0 x1 x2 x3 x4 fr0 fr1 fr2 fr3 fr4 fx0 fx1 fx2 fx3 fx4 hRl hRl0 hRl1
      generalize W0.setCell ⟨w.heap.size + 1 + 1, 1, none⟩ (.int .i64 (n0 : Int)) = W1 at *
      clear R0 IIR0
      have HC1 := Lib.hid (refText_any W1 (some ad) l.length cap l t0 IIR1.out.bs IIR1.out.cap_le.1 (by omega) hsz)
      rcases hr1 : Cd.rdText l t0 with ⟨p, en⟩ | ⟨n1, t1⟩
      · have HS1 := Lib.hid hr1
        have hen : ((en : Int) != 0) = true := by rw [bne_iff_ne]; have := rdText_errno hr1; omega
        have HH1 : Hid (shft t0 (Cd.rdText (l.drop t0) 0) = .error (p, en)) := Lib.hid (by rw [rdText_shft (by omega)]; exact hr1)
        clear hr1
        refine HC1.out.mono ?_
        rintro e w' ⟨hs, rfl⟩
        obtain rfl := hs.of_error HS1.out
        have z0 := R1.out.kN.cell 0
        have x0 := R1.out.kX.cell 0
        have fr0 := R1.out.kR.fz 0
        have fx0 := R1.out.kX.fz 0
        have r0 := R1.out.kR.cell 0
        have z1 := R1.out.kN.cell 1
        have x1 := R1.out.kX.cell 1
        have fr1 := R1.out.kR.fz 1
        have fx1 := R1.out.kX.fz 1
        have r1 := R1.out.kR.cell 1
        have z2 := R1.out.kN.cell 2
        have x2 := R1.out.kX.cell 2
        have fr2 := R1.out.kR.fz 2
        have fx2 := R1.out.kX.fz 2
        have r2 := R1.out.kR.cell 2
        have z3 := R1.out.kN.cell 3
        have x3 := R1.out.kX.cell 3
        have fr3 := R1.out.kR.fz 3
        have fx3 := R1.out.kX.fz 3
        have r3 := R1.out.kR.cell 3
        have z4 := R1.out.kN.cell 4
        have x4 := R1.out.kX.cell 4
        have fr4 := R1.out.kR.fz 4
        have fx4 := R1.out.kX.fz 4
        have r4 := R1.out.kR.cell 4
        simp only [List.getElem?_cons_succ, List.getElem?_cons_zero] at z0 z1 z2 z3 z4 x0 x1 x2 x3 x4 r0 r1 r2 r3 r4
        have hRl := R1.out.lt
        have hRl0 : w.heap.size < W1.heap.size := by omega
        have hRl1 : w.heap.size + 1 < W1.heap.size := by omega
        go_wp2_with fail
        refine bodyPost_ret (results_cell_row3 (h := rfl) (g := w.heap.size) (t := 27) (cs := ([.int .u8 0, .int .i64 0, .string ⟨#[]⟩, .slice none 0 0, .int .i64 0] : List Value).toArray) (fr := (0, 0)) (hp := rfl) (hg := R1.out.ret _ _ _ _ _) (hu := Try.underlying27) (hd := rfl) (hi := by kernel_rfl) _ _) rfl ?_
        exact evGets_err (by rw [HEQ.out]; unfold rdEvK; rw [hI.out, hN.out, hV.out, hF.out, ← HT.out]; simp only [opt_no, opt_yes, HH0.out, HH1.out]) (R1.out.retB _ _ _ _ _)
      · have HS1 := Lib.hid hr1
        have ht1 : t1 ≤ l.length := rdText_le hr1
        have hb1 : n1.length ≤ l.length := rdText_len hr1
        have HH1 : Hid (shft t0 (Cd.rdText (l.drop t0) 0) = .ok (n1, t1)) := Lib.hid (by rw [rdText_shft (by omega)]; exact hr1)
        clear hr1
        refine HC1.out.mono ?_
        rintro e w' ⟨hs, rfl⟩
        obtain rfl := hs.of_ok HS1.out
        clear hs HC1
        unfold strV
        have z0 := R1.out.kN.cell 0
        have x0 := R1.out.kX.cell 0
        have fr0 := R1.out.kR.fz 0
        have fx0 := R1.out.kX.fz 0
        have r0 := R1.out.kR.cell 0
        have z1 := R1.out.kN.cell 1
        have x1 := R1.out.kX.cell 1
        have fr1 := R1.out.kR.fz 1
        have fx1 := R1.out.kX.fz 1
        have r1 := R1.out.kR.cell 1
        have z2 := R1.out.kN.cell 2
        have x2 := R1.out.kX.cell 2
        have fr2 := R1.out.kR.fz 2
        have fx2 := R1.out.kX.fz 2
        have r2 := R1.out.kR.cell 2
        have z3 := R1.out.kN.cell 3
        have x3 := R1.out.kX.cell 3
        have fr3 := R1.out.kR.fz 3
        have fx3 := R1.out.kX.fz 3
        have r3 := R1.out.kR.cell 3
        have z4 := R1.out.kN.cell 4
        have x4 := R1.out.kX.cell 4
        have fr4 := R1.out.kR.fz 4
        have fx4 := R1.out.kX.fz 4
        have r4 := R1.out.kR.cell 4
        simp only [List.getElem?_cons_succ, List.getElem?_cons_zero] at z0 z1 z2 z3 z4 x0 x1 x2 x3 x4 r0 r1 r2 r3 r4
        have hRl := R1.out.lt
        have hRl0 : w.heap.size < W1.heap.size := by omega
        have hRl1 : w.heap.size + 1 < W1.heap.size := by omega
        have hR := R1.out.set 2 (.string ⟨n1.toArray⟩)
        simp only [List.set_cons_succ, List.set_cons_zero] at hR
        have R2 := Lib.hid hR
        have IIR2 := Lib.hid (hR.inn II.out)
        clear hR
        obtain ⟨A', hA'⟩ : ∃ A', (if cap = t1 then some ad else some (ad.add t1)) = A' := ⟨_, rfl⟩
        go_wp2_with (first | (go_at_call 20; refine (rhId k HK.out _).mono ?_; rintro e wn ⟨rfl, rfl⟩; rw [hI.out]) | (go_at_call 22; refine (rhName k HK.out _).mono ?_; rintro e wn ⟨rfl, rfl⟩; rw [hN.out]) | (go_at_call 24; refine (rhValue k HK.out _).mono ?_; rintro e wn ⟨rfl, rfl⟩; rw [hV.out]) | (go_at_call 26; refine (rhInt k HK.out _).mono ?_; rintro e wn ⟨rfl, rfl⟩; rw [hF.out]))
        clear r0 r1 r2 r3 r4 z0 z1 z2 z3 z4 x0 x1 x2 x3 x4 fr0 fr1 fr2 fr3 fr4 fx0 fx1 fx2 fx3 fx4 hRl hRl0 hRl1
        generalize W1.setCell ⟨w.heap.size + 1 + 1, 2, none⟩ (.string ⟨n1.toArray⟩) = W2 at *
        clear R1 IIR1
        have hid2 : In W2 A' (l.length - t1) (cap - t1) (l.drop t1) := by rw [← hA']; exact in_drop IIR2.out (by omega)
        clear hA'
        have HC2 := Lib.hid (refValue_any W2 _ _ _ (l.drop t1) hid2 (by simp; omega))
        clear hid2
        rcases hr2 : rdValue (l.drop t1) with ⟨p, en⟩ | ⟨n2, t2⟩
        · have hen : ((en : Int) != 0) = true := by rw [bne_iff_ne]; have := rdValue_errno hr2; omega
          have hpl := (rdValue_er hr2).1
          rw [List.length_drop] at hpl
          have HH2 : Hid (shft t1 (rdValue (l.drop t1)) = .error (t1 + p, en)) := Lib.hid (by rw [hr2]; rfl)
          have HR2 := Lib.hid hr2
          clear hr2
          obtain ⟨q, hq⟩ : ∃ q, q = t1 + p := ⟨_, rfl⟩
          have hq2 : (t1 : Int) + (p : Int) = (q : Int) := by omega
          rw [← hq] at HH2
          have hq3 : (q : Int) ≤ 1000000 := by omega
          clear hq hpl
          refine HC2.out.mono ?_
          rintro e w2 ⟨he, B2⟩
          rw [HR2.out] at he
          obtain rfl := he
          have RE := Lib.hid (R2.out.bel B2)
          clear B2 HC2
          have z0 := RE.out.kN.cell 0
          have x0 := RE.out.kX.cell 0
          have fr0 := RE.out.kR.fz 0
          have fx0 := RE.out.kX.fz 0
          have r0 := RE.out.kR.cell 0
          have z1 := RE.out.kN.cell 1
          have x1 := RE.out.kX.cell 1
          have fr1 := RE.out.kR.fz 1
          have fx1 := RE.out.kX.fz 1
          have r1 := RE.out.kR.cell 1
          have z2 := RE.out.kN.cell 2
          have x2 := RE.out.kX.cell 2
          have fr2 := RE.out.kR.fz 2
          have fx2 := RE.out.kX.fz 2
          have r2 := RE.out.kR.cell 2
          have z3 := RE.out.kN.cell 3
          have x3 := RE.out.kX.cell 3
          have fr3 := RE.out.kR.fz 3
          have fx3 := RE.out.kX.fz 3
          have r3 := RE.out.kR.cell 3
          have z4 := RE.out.kN.cell 4
          have x4 := RE.out.kX.cell 4
          have fr4 := RE.out.kR.fz 4
          have fx4 := RE.out.kX.fz 4
          have r4 := RE.out.kR.cell 4
          simp only [List.getElem?_cons_succ, List.getElem?_cons_zero] at z0 z1 z2 z3 z4 x0 x1 x2 x3 x4 r0 r1 r2 r3 r4
          have hRl := RE.out.lt
          have hRl0 : w.heap.size < w2.heap.size := by omega
          have hRl1 : w.heap.size + 1 < w2.heap.size := by omega
          go_wp2_with fail
          refine bodyPost_ret (results_cell_row3 (h := rfl) (g := w.heap.size) (t := 27) (cs := ([.int .u8 0, .int .i64 0, .string ⟨#[]⟩, .slice none 0 0, .int .i64 0] : List Value).toArray) (fr := (0, 0)) (hp := rfl) (hg := RE.out.ret _ _ _ _ _) (hu := Try.underlying27) (hd := rfl) (hi := by kernel_rfl) _ _) rfl ?_
          exact evGets_err (by rw [HEQ.out]; unfold rdEvK; rw [hI.out, hN.out, hV.out, hF.out, ← HT.out]; simp only [opt_no, opt_yes, HH0.out, HH1.out, HH2.out]) (RE.out.retB _ _ _ _ _)
        · have ht2 : t2 ≤ l.length - t1 := by have := rdValue_le hr2; rwa [List.length_drop] at this
          obtain ⟨sz, hvi⟩ := rdValue_inv hr2
          have HVO := Lib.hid (show ValOk n2 ∧ ∀ y ∈ n2, I64 y.int from ⟨hvi.valOk, fun y hy => (hvi.ok y hy).2.1⟩)
          clear hvi
          have HH2 : Hid (shft t1 (rdValue (l.drop t1)) = .ok (n2, t1 + t2)) := Lib.hid (by rw [hr2]; rfl)
          have HR2 := Lib.hid hr2
          clear hr2
          obtain ⟨q, hq⟩ : ∃ q, q = t1 + t2 := ⟨_, rfl⟩
          have hq2 : (t1 : Int) + (t2 : Int) = (q : Int) := by omega
          rw [← hq] at HH2
          have hq3 : q ≤ l.length := by omega
          have hq4 : (q : Int) ≤ 1000000 := by omega
          clear hq ht2
          refine HC2.out.mono ?_
          rintro e w2 ⟨he, B2⟩
          rw [HR2.out] at he
          obtain ⟨v2, rfl, ho2⟩ := he
          obtain ⟨A2, c2, rfl⟩ := own_slice ho2
          have RE := Lib.hid (R2.out.bel B2)
          have hO2 := ho2.mono (base' := W2.heap.size) (Nat.le_refl _)
          have hWl := R2.out.lt
          have HOa := Lib.hid (World.ownsRow.mono (base' := w.heap.size + 1 + 1 + 1) ho2 (by omega))
          clear B2 HC2 ho2 hO2 hWl
          have z0 := RE.out.kN.cell 0
          have x0 := RE.out.kX.cell 0
          have fr0 := RE.out.kR.fz 0
          have fx0 := RE.out.kX.fz 0
          have r0 := RE.out.kR.cell 0
          have z1 := RE.out.kN.cell 1
          have x1 := RE.out.kX.cell 1
          have fr1 := RE.out.kR.fz 1
          have fx1 := RE.out.kX.fz 1
          have r1 := RE.out.kR.cell 1
          have z2 := RE.out.kN.cell 2
          have x2 := RE.out.kX.cell 2
          have fr2 := RE.out.kR.fz 2
          have fx2 := RE.out.kX.fz 2
          have r2 := RE.out.kR.cell 2
          have z3 := RE.out.kN.cell 3
          have x3 := RE.out.kX.cell 3
          have fr3 := RE.out.kR.fz 3
          have fx3 := RE.out.kX.fz 3
          have r3 := RE.out.kR.cell 3
          have z4 := RE.out.kN.cell 4
          have x4 := RE.out.kX.cell 4
          have fr4 := RE.out.kR.fz 4
          have fx4 := RE.out.kX.fz 4
          have r4 := RE.out.kR.cell 4
          simp only [List.getElem?_cons_succ, List.getElem?_cons_zero] at z0 z1 z2 z3 z4 x0 x1 x2 x3 x4 r0 r1 r2 r3 r4
          have hRl := RE.out.lt
          have hRl0 : w.heap.size < w2.heap.size := by omega
          have hRl1 : w.heap.size + 1 < w2.heap.size := by omega
          have hR := RE.out.set 3 (.slice A2 n2.length c2)
          simp only [List.set_cons_succ, List.set_cons_zero] at hR
          have R3 := Lib.hid hR
          have IIR3 := Lib.hid (hR.inn II.out)
          clear hR
          go_wp2_with (first | (go_at_call 20; refine (rhId k HK.out _).mono ?_; rintro e wn ⟨rfl, rfl⟩; rw [hI.out]) | (go_at_call 22; refine (rhName k HK.out _).mono ?_; rintro e wn ⟨rfl, rfl⟩; rw [hN.out]) | (go_at_call 24; refine (rhValue k HK.out _).mono ?_; rintro e wn ⟨rfl, rfl⟩; rw [hV.out]) | (go_at_call 26; refine (rhInt k HK.out _).mono ?_; rintro e wn ⟨rfl, rfl⟩; rw [hF.out]))
          clear r0 r1 r2 r3 r4 z0 z1 z2 z3 z4 x0 x1 x2 x3 x4 fr0 fr1 fr2 fr3 fr4 fx0 fx1 fx2 fx3 fx4 hRl hRl0 hRl1
          have HO2 := Lib.hid (own_set (b := w.heap.size + 1 + 1) (j := 3) (u := .slice A2 n2.length c2) HOa.out (by omega))
          clear HOa
          generalize w2.setCell ⟨w.heap.size + 1 + 1, 3, none⟩ (.slice A2 n2.length c2) = W3 at *
          clear RE R2 IIR2
          have hraw : EvRaw ⟨k, n0, n1, n2, 0⟩ := ⟨HK.out, (fun h => by rw [hI.out] at h; cases h), (by simp only; omega), (fun h => by rw [hN.out] at h; cases h), (by simp only [List.length_nil]; omega), (fun h => by rfl), (show I64 0 from ⟨by decide, by decide⟩), (fun h => by rw [hV.out] at h; cases h), (fun h => HVO.out)⟩
          have HRT := Lib.hid (right17_any ⟨k, n0, n1, n2, 0⟩ hraw A2 n2.length c2 W3 (vin_own HO2.out))
          clear hraw
          rcases hok : evOk ⟨k, n0, n1, n2, 0⟩ with _ | _
          · have HOK := Lib.hid hok
            clear hok
            refine HRT.out.mono ?_
            rintro e w9 ⟨rfl, B9⟩
            rw [HOK.out]
            have RE := Lib.hid (R3.out.bel B9)
            clear B9 HRT
            have z0 := RE.out.kN.cell 0
            have x0 := RE.out.kX.cell 0
            have fr0 := RE.out.kR.fz 0
            have fx0 := RE.out.kX.fz 0
            have r0 := RE.out.kR.cell 0
            have z1 := RE.out.kN.cell 1
            have x1 := RE.out.kX.cell 1
            have fr1 := RE.out.kR.fz 1
            have fx1 := RE.out.kX.fz 1
            have r1 := RE.out.kR.cell 1
            have z2 := RE.out.kN.cell 2
            have x2 := RE.out.kX.cell 2
            have fr2 := RE.out.kR.fz 2
            have fx2 := RE.out.kX.fz 2
            have r2 := RE.out.kR.cell 2
            have z3 := RE.out.kN.cell 3
            have x3 := RE.out.kX.cell 3
            have fr3 := RE.out.kR.fz 3
            have fx3 := RE.out.kX.fz 3
            have r3 := RE.out.kR.cell 3
            have z4 := RE.out.kN.cell 4
            have x4 := RE.out.kX.cell 4
            have fr4 := RE.out.kR.fz 4
            have fx4 := RE.out.kX.fz 4
            have r4 := RE.out.kR.cell 4
            simp only [List.getElem?_cons_succ, List.getElem?_cons_zero] at z0 z1 z2 z3 z4 x0 x1 x2 x3 x4 r0 r1 r2 r3 r4
            have hRl := RE.out.lt
            have hRl0 : w.heap.size < w9.heap.size := by omega
            have hRl1 : w.heap.size + 1 < w9.heap.size := by omega
            go_wp2_with fail
            refine bodyPost_ret (results_cell_row3 (h := rfl) (g := w.heap.size) (t := 27) (cs := ([.int .u8 0, .int .i64 0, .string ⟨#[]⟩, .slice none 0 0, .int .i64 0] : List Value).toArray) (fr := (0, 0)) (hp := rfl) (hg := RE.out.ret _ _ _ _ _) (hu := Try.underlying27) (hd := rfl) (hi := by kernel_rfl) _ _) rfl ?_
            exact evGets_err (by rw [HEQ.out]; unfold rdEvK; rw [hI.out, hN.out, hV.out, hF.out, ← HT.out]; simp only [opt_no, opt_yes, HH0.out, HH1.out, HH2.out, HM.out, HOK.out]; rfl) (RE.out.retB _ _ _ _ _)
          · have HOK := Lib.hid hok
            clear hok
            refine HRT.out.mono ?_
            rintro e w9 ⟨rfl, B9⟩
            rw [HOK.out]
            have RE := Lib.hid (R3.out.bel B9)
            have HO9 := Lib.hid (own_below HO2.out B9)
            clear B9 HRT
            have z0 := RE.out.kN.cell 0
            have x0 := RE.out.kX.cell 0
            have fr0 := RE.out.kR.fz 0
            have fx0 := RE.out.kX.fz 0
            have r0 := RE.out.kR.cell 0
            have z1 := RE.out.kN.cell 1
            have x1 := RE.out.kX.cell 1
            have fr1 := RE.out.kR.fz 1
            have fx1 := RE.out.kX.fz 1
            have r1 := RE.out.kR.cell 1
            have z2 := RE.out.kN.cell 2
            have x2 := RE.out.kX.cell 2
            have fr2 := RE.out.kR.fz 2
            have fx2 := RE.out.kX.fz 2
            have r2 := RE.out.kR.cell 2
            have z3 := RE.out.kN.cell 3
            have x3 := RE.out.kX.cell 3
            have fr3 := RE.out.kR.fz 3
            have fx3 := RE.out.kX.fz 3
            have r3 := RE.out.kR.cell 3
            have z4 := RE.out.kN.cell 4
            have x4 := RE.out.kX.cell 4
            have fr4 := RE.out.kR.fz 4
            have fx4 := RE.out.kX.fz 4
            have r4 := RE.out.kR.cell 4
            simp only [List.getElem?_cons_succ, List.getElem?_cons_zero] at z0 z1 z2 z3 z4 x0 x1 x2 x3 x4 r0 r1 r2 r3 r4
            have hRl := RE.out.lt
            have hRl0 : w.heap.size < w9.heap.size := by omega
            have hRl1 : w.heap.size + 1 < w9.heap.size := by omega
            go_wp2_with fail
            have hres : rdEv l a = .ok (⟨k, n0, n1, n2, 0⟩, q) := by rw [HEQ.out]; unfold rdEvK; rw [hI.out, hN.out, hV.out, hF.out, ← HT.out]; simp only [opt_no, opt_yes, HH0.out, HH1.out, HH2.out, HM.out, HOK.out]; rfl
            rw [hres]
            refine bodyPost_ret (results_cell_row3 (h := rfl) (g := w.heap.size) (t := 27) (cs := ([.int .u8 (k : Int), .int .i64 (n0 : Int), .string ⟨n1.toArray⟩, .slice A2 n2.length c2, .int .i64 0] : List Value).toArray) (fr := (0, 0)) (hp := rfl) (hg := RE.out.ret _ _ _ _ _) (hu := Try.underlying27) (hd := rfl) (hi := by kernel_rfl) _ _) rfl ?_
            exact ⟨⟨A2, c2, rfl, World.ownsRow.mono (base := w.heap.size + 1 + 1 + 1) (own_set5 HO9.out (by omega) _ _ _ _ _) (by omega)⟩, RE.out.retB _ _ _ _ _⟩

set_option maxRecDepth 20000 in
set_option maxHeartbeats 8000000 in
theorem rvRead_IF (w : World) (A : Option Addr) (len cap : Nat) (l : List UInt8) (a k : Nat) (h : In w A len cap l) (hsz : l.length ≤ 1000000) (ha : a < l.length) (hkl : l[a].toNat = k) (hk : 1 ≤ k ∧ k ≤ 12) (hi : hasId k = true) (hn : hasName k = false) (hv : hasValue k = false) (hf : hasInt k = true) :
    Calls Try.prog 8 #[.slice A len cap, .int .i64 (a : Int)] w (EvGets w (rdEv l a)) := by
  have HEQ := Lib.hid (rdEv_kind ha hkl hk)
  obtain rfl := h.bs.len
  obtain ⟨ad, rfl, hlt, hc⟩ := h.bs.cell a ha
  rw [hkl] at hc
  have hc2 : ∀ o1 o2 : Obj, ((w.alloc o1).alloc o2).cell? (ad.add a) = some (.int .u8 (k : Int)) := fun o1 o2 =>
    (World.cell?_of_block (w := w) ((((Below.refl w.heap.size w).alloc (Nat.le_refl _) o1).alloc (by simp) o2).block _ (World.block_lt_of_cell? w _ hc))).trans hc
  have II := Lib.hid h
  have hl1 : ¬ ((l.length : Int) ≤ (a : Int)) := by omega
  have hl2 : ¬ (l.length ≤ a) := by omega
  have hl3 : (l.length : Int) ≤ 1000000 := by omega
  have hl4 : (a : Int) < (l.length : Int) := by omega
  have hl5 : (l.length : Int) ≤ (cap : Int) := by have := h.cap_le; omega
  have hk1 : ¬ ((k : Int) < 1) := by omega
  have hk2 : ¬ ((12 : Int) < (k : Int)) := by omega
  have hk3 : ¬ (k < 1) := by omega
  have hk4 : ¬ (12 < k) := by omega
  have HK := Lib.hid hk
  have hI := Lib.hid hi
  have hN := Lib.hid hn
  have hV := Lib.hid hv
  have hF := Lib.hid hf
  have HM0 : Hid (min 0 500 = 0) := Lib.hid rfl
  obtain ⟨t0s, ht0s⟩ : ∃ t, t = a + 1 := ⟨_, rfl⟩
  have hadd : (a : Int) + 1 = (t0s : Int) := by omega
  have hts : t0s ≤ l.length := by omega
  rw [show rdEvK l a k = rdEvK l a k from rfl] at HEQ
  have HT := Lib.hid ht0s
  clear hk hi hn hv hf ht0s
  have hR0 : RV w (((w.alloc (.cells #[.int .u8 0, .int .i64 0, .string ⟨#[]⟩, .slice none 0 0, .int .i64 0] 27)).alloc (.cells #[.int .u8 0, .int .i64 0, .string ⟨#[]⟩, .slice none 0 0, .int .i64 0] 27)).alloc (.cells #[.int .u8 (k : Int), .int .i64 0, .string ⟨#[]⟩, .slice none 0 0, .int .i64 0] 27)) [.int .u8 (k : Int), .int .i64 0, .string ⟨#[]⟩, .slice none 0 0, .int .i64 0] :=
    ⟨(Blk.alloc (Blk.new w 27 [.int .u8 0, .int .i64 0, .string ⟨#[]⟩, .slice none 0 0, .int .i64 0]) _).alloc _, by have := Blk.alloc (Blk.new (w.alloc (.cells #[.int .u8 0, .int .i64 0, .string ⟨#[]⟩, .slice none 0 0, .int .i64 0] 27)) 27 [.int .u8 0, .int .i64 0, .string ⟨#[]⟩, .slice none 0 0, .int .i64 0]) (.cells #[.int .u8 (k : Int), .int .i64 0, .string ⟨#[]⟩, .slice none 0 0, .int .i64 0] 27); rwa [World.size_alloc] at this,
      by have := Blk.new ((w.alloc (.cells #[.int .u8 0, .int .i64 0, .string ⟨#[]⟩, .slice none 0 0, .int .i64 0] 27)).alloc (.cells #[.int .u8 0, .int .i64 0, .string ⟨#[]⟩, .slice none 0 0, .int .i64 0] 27)) 27 [.int .u8 (k : Int), .int .i64 0, .string ⟨#[]⟩, .slice none 0 0, .int .i64 0]; rwa [World.size_alloc, World.size_alloc] at this,
      (((Below.refl w.heap.size w).alloc (Nat.le_refl _) _).alloc (by simp) _).alloc (by simp; omega) _⟩
  have R0 := Lib.hid hR0
  clear h hc hkl hR0
  go_enter Try.func8, Try.ntmps8
  go_wp2_with (first | (go_at_call 20; refine (rhId k HK.out _).mono ?_; rintro e wn ⟨rfl, rfl⟩; rw [hI.out]) | (go_at_call 22; refine (rhName k HK.out _).mono ?_; rintro e wn ⟨rfl, rfl⟩; rw [hN.out]) | (go_at_call 24; refine (rhValue k HK.out _).mono ?_; rintro e wn ⟨rfl, rfl⟩; rw [hV.out]) | (go_at_call 26; refine (rhInt k HK.out _).mono ?_; rintro e wn ⟨rfl, rfl⟩; rw [hF.out]))
  generalize ((w.alloc (.cells #[.int .u8 0, .int .i64 0, .string ⟨#[]⟩, .slice none 0 0, .int .i64 0] 27)).alloc (.cells #[.int .u8 0, .int .i64 0, .string ⟨#[]⟩, .slice none 0 0, .int .i64 0] 27)).alloc (.cells #[.int .u8 (k : Int), .int .i64 0, .string ⟨#[]⟩, .slice none 0 0, .int .i64 0] 27) = W0 at *
  clear hc2
  have IIR0 := Lib.hid (R0.out.inn II.out)
  have HC0 := Lib.hid (refUint_any W0 (some ad) l.length cap l t0s IIR0.out.bs (by omega) hsz)
  rcases hr0 : Cd.rdUint l t0s with ⟨p, en⟩ | ⟨n0, t0⟩
  · have HS0 := Lib.hid hr0
    have hen : ((en : Int) != 0) = true := by rw [bne_iff_ne]; have := rdUint_errno' hr0; omega
    have HH0 : Hid (shft t0s (Cd.rdUint (l.drop t0s) 0) = .error (p, en)) := Lib.hid (by rw [rdUint_shft (by omega)]; exact hr0)
    clear hr0
    refine HC0.out.mono ?_
    rintro e w' ⟨hs, rfl⟩
    obtain rfl := hs.of_error HS0.out
    have z0 := R0.out.kN.cell 0
    have x0 := R0.out.kX.cell 0
    have fr0 := R0.out.kR.fz 0
    have fx0 := R0.out.kX.fz 0
    have r0 := R0.out.kR.cell 0
    have z1 := R0.out.kN.cell 1
    have x1 := R0.out.kX.cell 1
    have fr1 := R0.out.kR.fz 1
    have fx1 := R0.out.kX.fz 1
    have r1 := R0.out.kR.cell 1
    have z2 := R0.out.kN.cell 2
    have x2 := R0.out.kX.cell 2
    have fr2 := R0.out.kR.fz 2
    have fx2 := R0.out.kX.fz 2
    have r2 := R0.out.kR.cell 2
    have z3 := R0.out.kN.cell 3
    have x3 := R0.out.kX.cell 3
    have fr3 := R0.out.kR.fz 3
    have fx3 := R0.out.kX.fz 3
    have r3 := R0.out.kR.cell 3
    have z4 := R0.out.kN.cell 4
    have x4 := R0.out.kX.cell 4
    have fr4 := R0.out.kR.fz 4
    have fx4 := R0.out.kX.fz 4
    have r4 := R0.out.kR.cell 4
    simp only [List.getElem?_cons_succ, List.getElem?_cons_zero] at z0 z1 z2 z3 z4 x0 x1 x2 x3 x4 r0 r1 r2 r3 r4
    have hRl := R0.out.lt
    have hRl0 : w.heap.size < W0.heap.size := by omega
    have hRl1 : w.heap.size + 1 < W0.heap.size := by omega
    go_wp2_with fail
    refine bodyPost_ret (results_cell_row3 (h := rfl) (g := w.heap.size) (t := 27) (cs := ([.int .u8 0, .int .i64 0, .string ⟨#[]⟩, .slice none 0 0, .int .i64 0] : List Value).toArray) (fr := (0, 0)) (hp := rfl) (hg := R0.out.ret _ _ _ _ _) (hu := Try.underlying27) (hd := rfl) (hi := by kernel_rfl) _ _) rfl ?_
    exact evGets_err (by rw [HEQ.out]; unfold rdEvK; rw [hI.out, hN.out, hV.out, hF.out, ← HT.out]; simp only [opt_no, opt_yes, HH0.out]) (R0.out.retB _ _ _ _ _)
  · have HS0 := Lib.hid hr0
    have ht0 : t0 ≤ l.length := (Cd.rdUint_lt hr0).2.2
    have hb0 : n0 < 18446744073709551616 := (Cd.rdUint_lt hr0).1
    have HH0 : Hid (shft t0s (Cd.rdUint (l.drop t0s) 0) = .ok (n0, t0)) := Lib.hid (by rw [rdUint_shft (by omega)]; exact hr0)
    clear hr0
    refine HC0.out.mono ?_
    rintro e w' ⟨hs, rfl⟩
    obtain rfl := hs.of_ok HS0.out
    clear hs HC0
    unfold u64V
    have z0 := R0.out.kN.cell 0
    have x0 := R0.out.kX.cell 0
    have fr0 := R0.out.kR.fz 0
    have fx0 := R0.out.kX.fz 0
    have r0 := R0.out.kR.cell 0
    have z1 := R0.out.kN.cell 1
    have x1 := R0.out.kX.cell 1
    have fr1 := R0.out.kR.fz 1
    have fx1 := R0.out.kX.fz 1
    have r1 := R0.out.kR.cell 1
    have z2 := R0.out.kN.cell 2
    have x2 := R0.out.kX.cell 2
    have fr2 := R0.out.kR.fz 2
    have fx2 := R0.out.kX.fz 2
    have r2 := R0.out.kR.cell 2
    have z3 := R0.out.kN.cell 3
    have x3 := R0.out.kX.cell 3
    have fr3 := R0.out.kR.fz 3
    have fx3 := R0.out.kX.fz 3
    have r3 := R0.out.kR.cell 3
    have z4 := R0.out.kN.cell 4
    have x4 := R0.out.kX.cell 4
    have fr4 := R0.out.kR.fz 4
    have fx4 := R0.out.kX.fz 4
    have r4 := R0.out.kR.cell 4
    simp only [List.getElem?_cons_succ, List.getElem?_cons_zero] at z0 z1 z2 z3 z4 x0 x1 x2 x3 x4 r0 r1 r2 r3 r4
    have hRl := R0.out.lt
    have hRl0 : w.heap.size < W0.heap.size := by omega
    have hRl1 : w.heap.size + 1 < W0.heap.size := by omega
    rcases Nat.lt_or_ge 500 n0 with hm | hm
    · have hm' : (500 : Int) < (n0 : Int) := by omega
      have HM : Hid (min n0 500 = 500) := Lib.hid (by omega)
      clear hm
      have hR := R0.out.set 1 (.int .i64 500)
      simp only [List.set_cons_succ, List.set_cons_zero] at hR
      have R1 := Lib.hid hR
      have IIR1 := Lib.hid (hR.inn II.out)
      clear hR
      go_wp2_with (first | (go_at_call 20; refine (rhId k HK.out _).mono ?_; rintro e wn ⟨rfl, rfl⟩; rw [hI.out]) | (go_at_call 22; refine (rhName k HK.out _).mono ?_; rintro e wn ⟨rfl, rfl⟩; rw [hN.out]) | (go_at_call 24; refine (rhValue k HK.out _).mono ?_; rintro e wn ⟨rfl, rfl⟩; rw [hV.out]) | (go_at_call 26; refine (rhInt k HK.out _).mono ?_; rintro e wn ⟨rfl, rfl⟩; rw [hF.out]))
      clear r0 r1 r2 r3 r4 z0 z1 z2 z3 z4 x0 x1 x2 x3 x4 fr0 fr1 fr2 fr3 fr4 fx0 fx1 fx2 fx3 fx4 hRl hRl0 hRl1
      generalize W0.setCell ⟨w.heap.size + 1 + 1, 1, none⟩ (.int .i64 500) = W1 at *
      clear R0 IIR0
      have HC3 := Lib.hid (refInt_any W1 (some ad) l.length cap l t0 IIR1.out.bs (by omega) hsz)
      rcases hr3 : Cd.rdInt l t0 with ⟨p, en⟩ | ⟨n3, t3⟩
      · have HS3 := Lib.hid hr3
        have hen : ((en : Int) != 0) = true := by rw [bne_iff_ne]; have := rdInt_errno hr3; omega
        have HH3 : Hid (shft t0 (Cd.rdInt (l.drop t0) 0) = .error (p, en)) := Lib.hid (by rw [rdInt_shft (by omega)]; exact hr3)
        clear hr3
        refine HC3.out.mono ?_
        rintro e w' ⟨hs, rfl⟩
        obtain rfl := hs.of_error HS3.out
        have z0 := R1.out.kN.cell 0
        have x0 := R1.out.kX.cell 0
        have fr0 := R1.out.kR.fz 0
        have fx0 := R1.out.kX.fz 0
        have r0 := R1.out.kR.cell 0
        have z1 := R1.out.kN.cell 1
        have x1 := R1.out.kX.cell 1
        have fr1 := R1.out.kR.fz 1
        have fx1 := R1.out.kX.fz 1
        have r1 := R1.out.kR.cell 1
        have z2 := R1.out.kN.cell 2
        have x2 := R1.out.kX.cell 2
        have fr2 := R1.out.kR.fz 2
        have fx2 := R1.out.kX.fz 2
        have r2 := R1.out.kR.cell 2
        have z3 := R1.out.kN.cell 3
        have x3 := R1.out.kX.cell 3
        have fr3 := R1.out.kR.fz 3
        have fx3 := R1.out.kX.fz 3
        have r3 := R1.out.kR.cell 3
        have z4 := R1.out.kN.cell 4
        have x4 := R1.out.kX.cell 4
        have fr4 := R1.out.kR.fz 4
        have fx4 := R1.out.kX.fz 4
        have r4 := R1.out.kR.cell 4
        simp only [List.getElem?_cons_succ, List.getElem?_cons_zero] at z0 z1 z2 z3 z4 x0 x1 x2 x3 x4 r0 r1 r2 r3 r4
        have hRl := R1.out.lt
        have hRl0 : w.heap.size < W1.heap.size := by omega
        have hRl1 : w.heap.size + 1 < W1.heap.size := by omega
        go_wp2_with fail
        refine bodyPost_ret (results_cell_row3 (h := rfl) (g := w.heap.size) (t := 27) (cs := ([.int .u8 0, .int .i64 0, .string ⟨#[]⟩, .slice none 0 0, .int .i64 0] : List Value).toArray) (fr := (0, 0)) (hp := rfl) (hg := R1.out.ret _ _ _ _ _) (hu := Try.underlying27) (hd := rfl) (hi := by kernel_rfl) _ _) rfl ?_
        exact evGets_err (by rw [HEQ.out]; unfold rdEvK; rw [hI.out, hN.out, hV.out, hF.out, ← HT.out]; simp only [opt_no, opt_yes, HH0.out, HH3.out]) (R1.out.retB _ _ _ _ _)
      · have HS3 := Lib.hid hr3
        have ht3 : t3 ≤ l.length := rdInt_le hr3
        have HB3 := Lib.hid (rdInt_i64 hr3)
        have HH3 : Hid (shft t0 (Cd.rdInt (l.drop t0) 0) = .ok (n3, t3)) := Lib.hid (by rw [rdInt_shft (by omega)]; exact hr3)
        clear hr3
        refine HC3.out.mono ?_
        rintro e w' ⟨hs, rfl⟩
        obtain rfl := hs.of_ok HS3.out
        clear hs HC3
        unfold i64V
        have z0 := R1.out.kN.cell 0
        have x0 := R1.out.kX.cell 0
        have fr0 := R1.out.kR.fz 0
        have fx0 := R1.out.kX.fz 0
        have r0 := R1.out.kR.cell 0
        have z1 := R1.out.kN.cell 1
        have x1 := R1.out.kX.cell 1
        have fr1 := R1.out.kR.fz 1
        have fx1 := R1.out.kX.fz 1
        have r1 := R1.out.kR.cell 1
        have z2 := R1.out.kN.cell 2
        have x2 := R1.out.kX.cell 2
        have fr2 := R1.out.kR.fz 2
        have fx2 := R1.out.kX.fz 2
        have r2 := R1.out.kR.cell 2
        have z3 := R1.out.kN.cell 3
        have x3 := R1.out.kX.cell 3
        have fr3 := R1.out.kR.fz 3
        have fx3 := R1.out.kX.fz 3
        have r3 := R1.out.kR.cell 3
        have z4 := R1.out.kN.cell 4
        have x4 := R1.out.kX.cell 4
        have fr4 := R1.out.kR.fz 4
        have fx4 := R1.out.kX.fz 4
        have r4 := R1.out.kR.cell 4
        simp only [List.getElem?_cons_succ, List.getElem?_cons_zero] at z0 z1 z2 z3 z4 x0 x1 x2 x3 x4 r0 r1 r2 r3 r4
        have hRl := R1.out.lt
        have hRl0 : w.heap.size < W1.heap.size := by omega
        have hRl1 : w.heap.size + 1 < W1.heap.size := by omega
        have hR := R1.out.set 4 (.int .i64 n3)
        simp only [List.set_cons_succ, List.set_cons_zero] at hR
        have R4 := Lib.hid hR
        have IIR4 := Lib.hid (hR.inn II.out)
        clear hR
        go_wp2_with (first | (go_at_call 20; refine (rhId k HK.out _).mono ?_; rintro e wn ⟨rfl, rfl⟩; rw [hI.out]) | (go_at_call 22; refine (rhName k HK.out _).mono ?_; rintro e wn ⟨rfl, rfl⟩; rw [hN.out]) | (go_at_call 24; refine (rhValue k HK.out _).mono ?_; rintro e wn ⟨rfl, rfl⟩; rw [hV.out]) | (go_at_call 26; refine (rhInt k HK.out _).mono ?_; rintro e wn ⟨rfl, rfl⟩; rw [hF.out]))
        clear r0 r1 r2 r3 r4 z0 z1 z2 z3 z4 x0 x1 x2 x3 x4 fr0 fr1 fr2 fr3 fr4 fx0 fx1 fx2 fx3 fx4 hRl hRl0 hRl1
        generalize W1.setCell ⟨w.heap.size + 1 + 1, 4, none⟩ (.int .i64 n3) = W4 at *
        clear R1 IIR1
        have hraw : EvRaw ⟨k, 500, [], [], n3⟩ := ⟨HK.out, (fun h => by rw [hI.out] at h; cases h), (by simp only; omega), (fun h => by rfl), (by simp only [List.length_nil]; omega), (fun h => by rw [hF.out] at h; cases h), HB3.out, (fun h => by rfl), (fun h => (by rw [hV.out] at h; cases h))⟩
        have HRT := Lib.hid (right17_any ⟨k, 500, [], [], n3⟩ hraw none 0 0 W4 (.inl ⟨rfl, rfl⟩))
        clear hraw
        rcases hok : evOk ⟨k, 500, [], [], n3⟩ with _ | _
        · have HOK := Lib.hid hok
          clear hok
          refine HRT.out.mono ?_
          rintro e w9 ⟨rfl, B9⟩
          rw [HOK.out]
          have RE := Lib.hid (R4.out.bel B9)
          clear B9 HRT
          have z0 := RE.out.kN.cell 0
          have x0 := RE.out.kX.cell 0
          have fr0 := RE.out.kR.fz 0
          have fx0 := RE.out.kX.fz 0
          have r0 := RE.out.kR.cell 0
          have z1 := RE.out.kN.cell 1
          have x1 := RE.out.kX.cell 1
          have fr1 := RE.out.kR.fz 1
          have fx1 := RE.out.kX.fz 1
          have r1 := RE.out.kR.cell 1
          have z2 := RE.out.kN.cell 2
          have x2 := RE.out.kX.cell 2
          have fr2 := RE.out.kR.fz 2
          have fx2 := RE.out.kX.fz 2
          have r2 := RE.out.kR.cell 2
          have z3 := RE.out.kN.cell 3
          have x3 := RE.out.kX.cell 3
          have fr3 := RE.out.kR.fz 3
          have fx3 := RE.out.kX.fz 3
          have r3 := RE.out.kR.cell 3
          have z4 := RE.out.kN.cell 4
          have x4 := RE.out.kX.cell 4
          have fr4 := RE.out.kR.fz 4
          have fx4 := RE.out.kX.fz 4
          have r4 := RE.out.kR.cell 4
          simp only [List.getElem?_cons_succ, List.getElem?_cons_zero] at z0 z1 z2 z3 z4 x0 x1 x2 x3 x4 r0 r1 r2 r3 r4
          have hRl := RE.out.lt
          have hRl0 : w.heap.size < w9.heap.size := by omega
          have hRl1 : w.heap.size + 1 < w9.heap.size := by omega
          go_wp2_with fail
          refine bodyPost_ret (results_cell_row3 (h := rfl) (g := w.heap.size) (t := 27) (cs := ([.int .u8 0, .int .i64 0, .string ⟨#[]⟩, .slice none 0 0, .int .i64 0] : List Value).toArray) (fr := (0, 0)) (hp := rfl) (hg := RE.out.ret _ _ _ _ _) (hu := Try.underlying27) (hd := rfl) (hi := by kernel_rfl) _ _) rfl ?_
          exact evGets_err (by rw [HEQ.out]; unfold rdEvK; rw [hI.out, hN.out, hV.out, hF.out, ← HT.out]; simp only [opt_no, opt_yes, HH0.out, HH3.out, HM.out, HOK.out]; rfl) (RE.out.retB _ _ _ _ _)
        · have HOK := Lib.hid hok
          clear hok
          refine HRT.out.mono ?_
          rintro e w9 ⟨rfl, B9⟩
          rw [HOK.out]
          have RE := Lib.hid (R4.out.bel B9)
          clear B9 HRT
          have z0 := RE.out.kN.cell 0
          have x0 := RE.out.kX.cell 0
          have fr0 := RE.out.kR.fz 0
          have fx0 := RE.out.kX.fz 0
          have r0 := RE.out.kR.cell 0
          have z1 := RE.out.kN.cell 1
          have x1 := RE.out.kX.cell 1
          have fr1 := RE.out.kR.fz 1
          have fx1 := RE.out.kX.fz 1
          have r1 := RE.out.kR.cell 1
          have z2 := RE.out.kN.cell 2
          have x2 := RE.out.kX.cell 2
          have fr2 := RE.out.kR.fz 2
          have fx2 := RE.out.kX.fz 2
          have r2 := RE.out.kR.cell 2
          have z3 := RE.out.kN.cell 3
          have x3 := RE.out.kX.cell 3
          have fr3 := RE.out.kR.fz 3
          have fx3 := RE.out.kX.fz 3
          have r3 := RE.out.kR.cell 3
          have z4 := RE.out.kN.cell 4
          have x4 := RE.out.kX.cell 4
          have fr4 := RE.out.kR.fz 4
          have fx4 := RE.out.kX.fz 4
          have r4 := RE.out.kR.cell 4
          simp only [List.getElem?_cons_succ, List.getElem?_cons_zero] at z0 z1 z2 z3 z4 x0 x1 x2 x3 x4 r0 r1 r2 r3 r4
          have hRl := RE.out.lt
          have hRl0 : w.heap.size < w9.heap.size := by omega
          have hRl1 : w.heap.size + 1 < w9.heap.size := by omega
          go_wp2_with fail
          have hres : rdEv l a = .ok (⟨k, 500, [], [], n3⟩, t3) := by rw [HEQ.out]; unfold rdEvK; rw [hI.out, hN.out, hV.out, hF.out, ← HT.out]; simp only [opt_no, opt_yes, HH0.out, HH3.out, HM.out, HOK.out]; rfl
          rw [hres]
          refine bodyPost_ret (results_cell_row3 (h := rfl) (g := w.heap.size) (t := 27) (cs := ([.int .u8 (k : Int), .int .i64 500, .string ⟨#[]⟩, .slice none 0 0, .int .i64 n3] : List Value).toArray) (fr := (0, 0)) (hp := rfl) (hg := RE.out.ret _ _ _ _ _) (hu := Try.underlying27) (hd := rfl) (hi := by kernel_rfl) _ _) rfl ?_
          exact ⟨⟨none, 0, rfl, World.ownsRow_nil _ _ _ _⟩, RE.out.retB _ _ _ _ _⟩
    · have hm' : (n0 : Int) ≤ 500 := by omega
      have HM : Hid (min n0 500 = n0) := Lib.hid (by omega)
      clear hm
      have hR := R0.out.set 1 (.int .i64 (n0 : Int))
      simp only [List.set_cons_succ, List.set_cons_zero] at hR
      have R1 := Lib.hid hR
      have IIR1 := Lib.hid (hR.inn II.out)
      clear hR
      go_wp2_with (first | (go_at_call 20; refine (rhId k HK.out _).mono ?_; rintro e wn ⟨rfl, rfl⟩; rw [hI.out]) | (go_at_call 22; refine (rhName k HK.out _).mono ?_; rintro e wn ⟨rfl, rfl⟩; rw [hN.out]) | (go_at_call 24; refine (rhValue k HK.out _).mono ?_; rintro e wn ⟨rfl, rfl⟩; rw [hV.out]) | (go_at_call 26; refine (rhInt k HK.out _).mono ?_; rintro e wn ⟨rfl, rfl⟩; rw [hF.out]))
      clear r0 r1 r2 r3 r4 z0 z1 z2 z3 z4 x0 x1 x2 x3 x4 fr0 fr1 fr2 fr3 fr4 fx0 fx1 fx2 fx3 fx4 hRl hRl0 hRl1
      generalize W0.setCell ⟨w.heap.size + 1 + 1, 1, none⟩ (.int .i64 (n0 : Int)) = W1 at *
      clear R0 IIR0
      have HC3 := Lib.hid (refInt_any W1 (some ad) l.length cap l t0 IIR1.out.bs (by omega) hsz)
      rcases hr3 : Cd.rdInt l t0 with ⟨p, en⟩ | ⟨n3, t3⟩
      · have HS3 := Lib.hid hr3
        have hen : ((en : Int) != 0) = true := by rw [bne_iff_ne]; have := rdInt_errno hr3; omega
        have HH3 : Hid (shft t0 (Cd.rdInt (l.drop t0) 0) = .error (p, en)) := Lib.hid (by rw [rdInt_shft (by omega)]; exact hr3)
        clear hr3
        refine HC3.out.mono ?_
        rintro e w' ⟨hs, rfl⟩
        obtain rfl := hs.of_error HS3.out
        have z0 := R1.out.kN.cell 0
        have x0 := R1.out.kX.cell 0
        have fr0 := R1.out.kR.fz 0
        have fx0 := R1.out.kX.fz 0
        have r0 := R1.out.kR.cell 0
        have z1 := R1.out.kN.cell 1
        have x1 := R1.out.kX.cell 1
        have fr1 := R1.out.kR.fz 1
        have fx1 := R1.out.kX.fz 1
        have r1 := R1.out.kR.cell 1
        have z2 := R1.out.kN.cell 2
        have x2 := R1.out.kX.cell 2
        have fr2 := R1.out.kR.fz 2
        have fx2 := R1.out.kX.fz 2
        have r2 := R1.out.kR.cell 2
        have z3 := R1.out.kN.cell 3
        have x3 := R1.out.kX.cell 3
        have fr3 := R1.out.kR.fz 3
        have fx3 := R1.out.kX.fz 3
        have r3 := R1.out.kR.cell 3
        have z4 := R1.out.kN.cell 4
        have x4 := R1.out.kX.cell 4
        have fr4 := R1.out.kR.fz 4
        have fx4 := R1.out.kX.fz 4
        have r4 := R1.out.kR.cell 4
        simp only [List.getElem?_cons_succ, List.getElem?_cons_zero] at z0 z1 z2 z3 z4 x0 x1 x2 x3 x4 r0 r1 r2 r3 r4
        have hRl := R1.out.lt
        have hRl0 : w.heap.size < W1.heap.size := by omega
        have hRl1 : w.heap.size + 1 < W1.heap.size := by omega
        go_wp2_with fail
        refine bodyPost_ret (results_cell_row3 (h := rfl) (g := w.heap.size) (t := 27) (cs := ([.int .u8 0, .int .i64 0, .string ⟨#[]⟩, .slice none 0 0, .int .i64 0] : List Value).toArray) (fr := (0, 0)) (hp := rfl) (hg := R1.out.ret _ _ _ _ _) (hu := Try.underlying27) (hd := rfl) (hi := by kernel_rfl) _ _) rfl ?_
        exact evGets_err (by rw [HEQ.out]; unfold rdEvK; rw [hI.out, hN.out, hV.out, hF.out, ← HT.out]; simp only [opt_no, opt_yes, HH0.out, HH3.out]) (R1.out.retB _ _ _ _ _)
      · have HS3 := Lib.hid hr3
        have ht3 : t3 ≤ l.length := rdInt_le hr3
        have HB3 := Lib.hid (rdInt_i64 hr3)
        have HH3 : Hid (shft t0 (Cd.rdInt (l.drop t0) 0) = .ok (n3, t3)) := Lib.hid (by rw [rdInt_shft (by omega)]; exact hr3)
        clear hr3
        refine HC3.out.mono ?_
        rintro e w' ⟨hs, rfl⟩
        obtain rfl := hs.of_ok HS3.out
        clear hs HC3
        unfold i64V
        have z0 := R1.out.kN.cell 0
        have x0 := R1.out.kX.cell 0
        have fr0 := R1.out.kR.fz 0
        have fx0 := R1.out.kX.fz 0
        have r0 := R1.out.kR.cell 0
        have z1 := R1.out.kN.cell 1
        have x1 := R1.out.kX.cell 1
        have fr1 := R1.out.kR.fz 1
        have fx1 := R1.out.kX.fz 1
        have r1 := R1.out.kR.cell 1
        have z2 := R1.out.kN.cell 2
        have x2 := R1.out.kX.cell 2
        have fr2 := R1.out.kR.fz 2
        have fx2 := R1.out.kX.fz 2
        have r2 := R1.out.kR.cell 2
        have z3 := R1.out.kN.cell 3
        have x3 := R1.out.kX.cell 3
        have fr3 := R1.out.kR.fz 3
        have fx3 := R1.out.kX.fz 3
        have r3 := R1.out.kR.cell 3
        have z4 := R1.out.kN.cell 4
        have x4 := R1.out.kX.cell 4
        have fr4 := R1.out.kR.fz 4
        have fx4 := R1.out.kX.fz 4
        have r4 := R1.out.kR.cell 4
        simp only [List.getElem?_cons_succ, List.getElem?_cons_zero] at z0 z1 z2 z3 z4 x0 x1 x2 x3 x4 r0 r1 r2 r3 r4
        have hRl := R1.out.lt
        have hRl0 : w.heap.size < W1.heap.size := by omega
        have hRl1 : w.heap.size + 1 < W1.heap.size := by omega
        have hR := R1.out.set 4 (.int .i64 n3)
        simp only [List.set_cons_succ, List.set_cons_zero] at hR
        have R4 := Lib.hid hR
        have IIR4 := Lib.hid (hR.inn II.out)
        clear hR
        go_wp2_with (first | (go_at_call 20; refine (rhId k HK.out _).mono ?_; rintro e wn ⟨rfl, rfl⟩; rw [hI.out]) | (go_at_call 22; refine (rhName k HK.out _).mono ?_; rintro e wn ⟨rfl, rfl⟩; rw [hN.out]) | (go_at_call 24; refine (rhValue k HK.out _).mono ?_; rintro e wn ⟨rfl, rfl⟩; rw [hV.out]) | (go_at_call 26; refine (rhInt k HK.out _).mono ?_; rintro e wn ⟨rfl, rfl⟩; rw [hF.out]))
        clear r0 r1 r2 r3 r4 z0 z1 z2 z3 z4 x0 x1 x2 x3 x4 fr0 fr1 fr2 fr3 fr4 fx0 fx1 fx2 fx3 fx4 hRl hRl0 hRl1
        generalize W1.setCell ⟨w.heap.size + 1 + 1, 4, none⟩ (.int .i64 n3) = W4 at *
        clear R1 IIR1
        have hraw : EvRaw ⟨k, n0, [], [], n3⟩ := ⟨HK.out, (fun h => by rw [hI.out] at h; cases h), (by simp only; omega), (fun h => by rfl), (by simp only [List.length_nil]; omega), (fun h => by rw [hF.out] at h; cases h), HB3.out, (fun h => by rfl), (fun h => (by rw [hV.out] at h; cases h))⟩
        have HRT := Lib.hid (right17_any ⟨k, n0, [], [], n3⟩ hraw none 0 0 W4 (.inl ⟨rfl, rfl⟩))
        clear hraw
        rcases hok : evOk ⟨k, n0, [], [], n3⟩ with _ | _
        · have HOK := Lib.hid hok
          clear hok
          refine HRT.out.mono ?_
          rintro e w9 ⟨rfl, B9⟩
          rw [HOK.out]
          have RE := Lib.hid (R4.out.bel B9)
          clear B9 HRT
          have z0 := RE.out.kN.cell 0
          have x0 := RE.out.kX.cell 0
          have fr0 := RE.out.kR.fz 0
          have fx0 := RE.out.kX.fz 0
          have r0 := RE.out.kR.cell 0
          have z1 := RE.out.kN.cell 1
          have x1 := RE.out.kX.cell 1
          have fr1 := RE.out.kR.fz 1
          have fx1 := RE.out.kX.fz 1
          have r1 := RE.out.kR.cell 1
          have z2 := RE.out.kN.cell 2
          have x2 := RE.out.kX.cell 2
          have fr2 := RE.out.kR.fz 2
          have fx2 := RE.out.kX.fz 2
          have r2 := RE.out.kR.cell 2
          have z3 := RE.out.kN.cell 3
          have x3 := RE.out.kX.cell 3
          have fr3 := RE.out.kR.fz 3
          have fx3 := RE.out.kX.fz 3
          have r3 := RE.out.kR.cell 3
          have z4 := RE.out.kN.cell 4
          have x4 := RE.out.kX.cell 4
          have fr4 := RE.out.kR.fz 4
          have fx4 := RE.out.kX.fz 4
          have r4 := RE.out.kR.cell 4
          simp only [List.getElem?_cons_succ, List.getElem?_cons_zero] at z0 z1 z2 z3 z4 x0 x1 x2 x3 x4 r0 r1 r2 r3 r4
          have hRl := RE.out.lt
          have hRl0 : w.heap.size < w9.heap.size := by omega
          have hRl1 : w.heap.size + 1 < w9.heap.size := by omega
          go_wp2_with fail
          refine bodyPost_ret (results_cell_row3 (h := rfl) (g := w.heap.size) (t := 27) (cs := ([.int .u8 0, .int .i64 0, .string ⟨#[]⟩, .slice none 0 0, .int .i64 0] : List Value).toArray) (fr := (0, 0)) (hp := rfl) (hg := RE.out.ret _ _ _ _ _) (hu := Try.underlying27) (hd := rfl) (hi := by kernel_rfl) _ _) rfl ?_
          exact evGets_err (by rw [HEQ.out]; unfold rdEvK; rw [hI.out, hN.out, hV.out, hF.out, ← HT.out]; simp only [opt_no, opt_yes, HH0.out, HH3.out, HM.out, HOK.out]; rfl) (RE.out.retB _ _ _ _ _)
        · have HOK := Lib.hid hok
          clear hok
          refine HRT.out.mono ?_
          rintro e w9 ⟨rfl, B9⟩
          rw [HOK.out]
          have RE := Lib.hid (R4.out.bel B9)
          clear B9 HRT
          have z0 := RE.out.kN.cell 0
          have x0 := RE.out.kX.cell 0
          have fr0 := RE.out.kR.fz 0
          have fx0 := RE.out.kX.fz 0
          have r0 := RE.out.kR.cell 0
          have z1 := RE.out.kN.cell 1
          have x1 := RE.out.kX.cell 1
          have fr1 := RE.out.kR.fz 1
          have fx1 := RE.out.kX.fz 1
          have r1 := RE.out.kR.cell 1
          have z2 := RE.out.kN.cell 2
          have x2 := RE.out.kX.cell 2
          have fr2 := RE.out.kR.fz 2
          have fx2 := RE.out.kX.fz 2
          have r2 := RE.out.kR.cell 2
          have z3 := RE.out.kN.cell 3
          have x3 := RE.out.kX.cell 3
          have fr3 := RE.out.kR.fz 3
          have fx3 := RE.out.kX.fz 3
          have r3 := RE.out.kR.cell 3
          have z4 := RE.out.kN.cell 4
          have x4 := RE.out.kX.cell 4
          have fr4 := RE.out.kR.fz 4
          have fx4 := RE.out.kX.fz 4
          have r4 := RE.out.kR.cell 4
          simp only [List.getElem?_cons_succ, List.getElem?_cons_zero] at z0 z1 z2 z3 z4 x0 x1 x2 x3 x4 r0 r1 r2 r3 r4
          have hRl := RE.out.lt
          have hRl0 : w.heap.size < w9.heap.size := by omega
          have hRl1 : w.heap.size + 1 < w9.heap.size := by omega
          go_wp2_with fail
          have hres : rdEv l a = .ok (⟨k, n0, [], [], n3⟩, t3) := by rw [HEQ.out]; unfold rdEvK; rw [hI.out, hN.out, hV.out, hF.out, ← HT.out]; simp only [opt_no, opt_yes, HH0.out, HH3.out, HM.out, HOK.out]; rfl
          rw [hres]
          refine bodyPost_ret (results_cell_row3 (h := rfl) (g := w.heap.size) (t := 27) (cs := ([.int .u8 (k : Int), .int .i64 (n0 : Int), .string ⟨#[]⟩, .slice none 0 0, .int .i64 n3] : List Value).toArray) (fr := (0, 0)) (hp := rfl) (hg := RE.out.ret _ _ _ _ _) (hu := Try.underlying27) (hd := rfl) (hi := by kernel_rfl) _ _) rfl ?_
          exact ⟨⟨none, 0, rfl, World.ownsRow_nil _ _ _ _⟩, RE.out.retB _ _ _ _ _⟩

set_option maxRecDepth 20000 in
set_option maxHeartbeats 8000000 in
theorem rvRead_V (w : World) (A : Option Addr) (len cap : Nat) (l : List UInt8) (a k : Nat) (h : In w A len cap l) (hsz : l.length ≤ 1000000) (ha : a < l.length) (hkl : l[a].toNat = k) (hk : 1 ≤ k ∧ k ≤ 12) (hi : hasId k = false) (hn : hasName k = false) (hv : hasValue k = true) (hf : hasInt k = false) :
    Calls Try.prog 8 #[.slice A len cap, .int .i64 (a : Int)] w (EvGets w (rdEv l a)) := by
  have HEQ := Lib.hid (rdEv_kind ha hkl hk)
  obtain rfl := h.bs.len
  obtain ⟨ad, rfl, hlt, hc⟩ := h.bs.cell a ha
  rw [hkl] at hc
  have hc2 : ∀ o1 o2 : Obj, ((w.alloc o1).alloc o2).cell? (ad.add a) = some (.int .u8 (k : Int)) := fun o1 o2 =>
    (World.cell?_of_block (w := w) ((((Below.refl w.heap.size w).alloc (Nat.le_refl _) o1).alloc (by simp) o2).block _ (World.block_lt_of_cell? w _ hc))).trans hc
  have II := Lib.hid h
  have hl1 : ¬ ((l.length : Int) ≤ (a : Int)) := by omega
  have hl2 : ¬ (l.length ≤ a) := by omega
  have hl3 : (l.length : Int) ≤ 1000000 := by omega
  have hl4 : (a : Int) < (l.length : Int) := by omega
  have hl5 : (l.length : Int) ≤ (cap : Int) := by have := h.cap_le; omega
  have hk1 : ¬ ((k : Int) < 1) := by omega
  have hk2 : ¬ ((12 : Int) < (k : Int)) := by omega
  have hk3 : ¬ (k < 1) := by omega
  have hk4 : ¬ (12 < k) := by omega
  have HK := Lib.hid hk
  have hI := Lib.hid hi
  have hN := Lib.hid hn
  have hV := Lib.hid hv
  have hF := Lib.hid hf
  have HM0 : Hid (min 0 500 = 0) := Lib.hid rfl
  obtain ⟨t0s, ht0s⟩ : ∃ t, t = a + 1 := ⟨_, rfl⟩
  have hadd : (a : Int) + 1 = (t0s : Int) := by omega
  have hts : t0s ≤ l.length := by omega
  rw [show rdEvK l a k = rdEvK l a k from rfl] at HEQ
  have HT := Lib.hid ht0s
  clear hk hi hn hv hf ht0s
  have hR0 : RV w (((w.alloc (.cells #[.int .u8 0, .int .i64 0, .string ⟨#[]⟩, .slice none 0 0, .int .i64 0] 27)).alloc (.cells #[.int .u8 0, .int .i64 0, .string ⟨#[]⟩, .slice none 0 0, .int .i64 0] 27)).alloc (.cells #[.int .u8 (k : Int), .int .i64 0, .string ⟨#[]⟩, .slice none 0 0, .int .i64 0] 27)) [.int .u8 (k : Int), .int .i64 0, .string ⟨#[]⟩, .slice none 0 0, .int .i64 0] :=
    ⟨(Blk.alloc (Blk.new w 27 [.int .u8 0, .int .i64 0, .string ⟨#[]⟩, .slice none 0 0, .int .i64 0]) _).alloc _, by have := Blk.alloc (Blk.new (w.alloc (.cells #[.int .u8 0, .int .i64 0, .string ⟨#[]⟩, .slice none 0 0, .int .i64 0] 27)) 27 [.int .u8 0, .int .i64 0, .string ⟨#[]⟩, .slice none 0 0, .int .i64 0]) (.cells #[.int .u8 (k : Int), .int .i64 0, .string ⟨#[]⟩, .slice none 0 0, .int .i64 0] 27); rwa [World.size_alloc] at this,
      by have := Blk.new ((w.alloc (.cells #[.int .u8 0, .int .i64 0, .string ⟨#[]⟩, .slice none 0 0, .int .i64 0] 27)).alloc (.cells #[.int .u8 0, .int .i64 0, .string ⟨#[]⟩, .slice none 0 0, .int .i64 0] 27)) 27 [.int .u8 (k : Int), .int .i64 0, .string ⟨#[]⟩, .slice none 0 0, .int .i64 0]; rwa [World.size_alloc, World.size_alloc] at this,
      (((Below.refl w.heap.size w).alloc (Nat.le_refl _) _).alloc (by simp) _).alloc (by simp; omega) _⟩
  have R0 := Lib.hid hR0
  clear h hc hkl hR0
  go_enter Try.func8, Try.ntmps8
  obtain ⟨A', hA'⟩ : ∃ A', (if cap = t0s then some ad else some (ad.add t0s)) = A' := ⟨_, rfl⟩
  go_wp2_with (first | (go_at_call 20; refine (rhId k HK.out _).mono ?_; rintro e wn ⟨rfl, rfl⟩; rw [hI.out]) | (go_at_call 22; refine (rhName k HK.out _).mono ?_; rintro e wn ⟨rfl, rfl⟩; rw [hN.out]) | (go_at_call 24; refine (rhValue k HK.out _).mono ?_; rintro e wn ⟨rfl, rfl⟩; rw [hV.out]) | (go_at_call 26; refine (rhInt k HK.out _).mono ?_; rintro e wn ⟨rfl, rfl⟩; rw [hF.out]))
  generalize ((w.alloc (.cells #[.int .u8 0, .int .i64 0, .string ⟨#[]⟩, .slice none 0 0, .int .i64 0] 27)).alloc (.cells #[.int .u8 0, .int .i64 0, .string ⟨#[]⟩, .slice none 0 0, .int .i64 0] 27)).alloc (.cells #[.int .u8 (k : Int), .int .i64 0, .string ⟨#[]⟩, .slice none 0 0, .int .i64 0] 27) = W0 at *
  clear hc2
  have IIR0 := Lib.hid (R0.out.inn II.out)
  have hid2 : In W0 A' (l.length - t0s) (cap - t0s) (l.drop t0s) := by rw [← hA']; exact in_drop IIR0.out (by omega)
  clear hA'
  have HC2 := Lib.hid (refValue_any W0 _ _ _ (l.drop t0s) hid2 (by simp; omega))
  clear hid2
  rcases hr2 : rdValue (l.drop t0s) with ⟨p, en⟩ | ⟨n2, t2⟩
  · have hen : ((en : Int) != 0) = true := by rw [bne_iff_ne]; have := rdValue_errno hr2; omega
    have hpl := (rdValue_er hr2).1
    rw [List.length_drop] at hpl
    have HH2 : Hid (shft t0s (rdValue (l.drop t0s)) = .error (t0s + p, en)) := Lib.hid (by rw [hr2]; rfl)
    have HR2 := Lib.hid hr2
    clear hr2
    obtain ⟨q, hq⟩ : ∃ q, q = t0s + p := ⟨_, rfl⟩
    have hq2 : (t0s : Int) + (p : Int) = (q : Int) := by omega
    rw [← hq] at HH2
    have hq3 : (q : Int) ≤ 1000000 := by omega
    clear hq hpl
    refine HC2.out.mono ?_
    rintro e w2 ⟨he, B2⟩
    rw [HR2.out] at he
    obtain rfl := he
    have RE := Lib.hid (R0.out.bel B2)
    clear B2 HC2
    have z0 := RE.out.kN.cell 0
    have x0 := RE.out.kX.cell 0
    have fr0 := RE.out.kR.fz 0
    have fx0 := RE.out.kX.fz 0
    have r0 := RE.out.kR.cell 0
    have z1 := RE.out.kN.cell 1
    have x1 := RE.out.kX.cell 1
    have fr1 := RE.out.kR.fz 1
    have fx1 := RE.out.kX.fz 1
    have r1 := RE.out.kR.cell 1
    have z2 := RE.out.kN.cell 2
    have x2 := RE.out.kX.cell 2
    have fr2 := RE.out.kR.fz 2
    have fx2 := RE.out.kX.fz 2
    have r2 := RE.out.kR.cell 2
    have z3 := RE.out.kN.cell 3
    have x3 := RE.out.kX.cell 3
    have fr3 := RE.out.kR.fz 3
    have fx3 := RE.out.kX.fz 3
    have r3 := RE.out.kR.cell 3
    have z4 := RE.out.kN.cell 4
    have x4 := RE.out.kX.cell 4
    have fr4 := RE.out.kR.fz 4
    have fx4 := RE.out.kX.fz 4
    have r4 := RE.out.kR.cell 4
    simp only [List.getElem?_cons_succ, List.getElem?_cons_zero] at z0 z1 z2 z3 z4 x0 x1 x2 x3 x4 r0 r1 r2 r3 r4
    have hRl := RE.out.lt
    have hRl0 : w.heap.size < w2.heap.size := by omega
    have hRl1 : w.heap.size + 1 < w2.heap.size := by omega
    go_wp2_with fail
    refine bodyPost_ret (results_cell_row3 (h := rfl) (g := w.heap.size) (t := 27) (cs := ([.int .u8 0, .int .i64 0, .string ⟨#[]⟩, .slice none 0 0, .int .i64 0] : List Value).toArray) (fr := (0, 0)) (hp := rfl) (hg := RE.out.ret _ _ _ _ _) (hu := Try.underlying27) (hd := rfl) (hi := by kernel_rfl) _ _) rfl ?_
    exact evGets_err (by rw [HEQ.out]; unfold rdEvK; rw [hI.out, hN.out, hV.out, hF.out, ← HT.out]; simp only [opt_no, opt_yes, HH2.out]) (RE.out.retB _ _ _ _ _)
  · have ht2 : t2 ≤ l.length - t0s := by have := rdValue_le hr2; rwa [List.length_drop] at this
    obtain ⟨sz, hvi⟩ := rdValue_inv hr2
    have HVO := Lib.hid (show ValOk n2 ∧ ∀ y ∈ n2, I64 y.int from ⟨hvi.valOk, fun y hy => (hvi.ok y hy).2.1⟩)
    clear hvi
    have HH2 : Hid (shft t0s (rdValue (l.drop t0s)) = .ok (n2, t0s + t2)) := Lib.hid (by rw [hr2]; rfl)
    have HR2 := Lib.hid hr2
    clear hr2
    obtain ⟨q, hq⟩ : ∃ q, q = t0s + t2 := ⟨_, rfl⟩
    have hq2 : (t0s : Int) + (t2 : Int) = (q : Int) := by omega
    rw [← hq] at HH2
    have hq3 : q ≤ l.length := by omega
    have hq4 : (q : Int) ≤ 1000000 := by omega
    clear hq ht2
    refine HC2.out.mono ?_
    rintro e w2 ⟨he, B2⟩
    rw [HR2.out] at he
    obtain ⟨v2, rfl, ho2⟩ := he
    obtain ⟨A2, c2, rfl⟩ := own_slice ho2
    have RE := Lib.hid (R0.out.bel B2)
    have hO2 := ho2.mono (base' := W0.heap.size) (Nat.le_refl _)
    have hWl := R0.out.lt
    have HOa := Lib.hid (World.ownsRow.mono (base' := w.heap.size + 1 + 1 + 1) ho2 (by omega))
    clear B2 HC2 ho2 hO2 hWl
    have z0 := RE.out.kN.cell 0
    have x0 := RE.out.kX.cell 0
    have fr0 := RE.out.kR.fz 0
    have fx0 := RE.out.kX.fz 0
    have r0 := RE.out.kR.cell 0
    have z1 := RE.out.kN.cell 1
    have x1 := RE.out.kX.cell 1
    have fr1 := RE.out.kR.fz 1
    have fx1 := RE.out.kX.fz 1
    have r1 := RE.out.kR.cell 1
    have z2 := RE.out.kN.cell 2
    have x2 := RE.out.kX.cell 2
    have fr2 := RE.out.kR.fz 2
    have fx2 := RE.out.kX.fz 2
    have r2 := RE.out.kR.cell 2
    have z3 := RE.out.kN.cell 3
    have x3 := RE.out.kX.cell 3
    have fr3 := RE.out.kR.fz 3
    have fx3 := RE.out.kX.fz 3
    have r3 := RE.out.kR.cell 3
    have z4 := RE.out.kN.cell 4
    have x4 := RE.out.kX.cell 4
    have fr4 := RE.out.kR.fz 4
    have fx4 := RE.out.kX.fz 4
    have r4 := RE.out.kR.cell 4
    simp only [List.getElem?_cons_succ, List.getElem?_cons_zero] at z0 z1 z2 z3 z4 x0 x1 x2 x3 x4 r0 r1 r2 r3 r4
    have hRl := RE.out.lt
    have hRl0 : w.heap.size < w2.heap.size := by omega
    have hRl1 : w.heap.size + 1 < w2.heap.size := by omega
    have hR := RE.out.set 3 (.slice A2 n2.length c2)
    simp only [List.set_cons_succ, List.set_cons_zero] at hR
    have R3 := Lib.hid hR
    have IIR3 := Lib.hid (hR.inn II.out)
    clear hR
    go_wp2_with (first | (go_at_call 20; refine (rhId k HK.out _).mono ?_; rintro e wn ⟨rfl, rfl⟩; rw [hI.out]) | (go_at_call 22; refine (rhName k HK.out _).mono ?_; rintro e wn ⟨rfl, rfl⟩; rw [hN.out]) | (go_at_call 24; refine (rhValue k HK.out _).mono ?_; rintro e wn ⟨rfl, rfl⟩; rw [hV.out]) | (go_at_call 26; refine (rhInt k HK.out _).mono ?_; rintro e wn ⟨rfl, rfl⟩; rw [hF.out]))
    clear r0 r1 r2 r3 r4 z0 z1 z2 z3 z4 x0 x1 x2 x3 x4 fr0 fr1 fr2 fr3 fr4 fx0 fx1 fx2 fx3 fx4 hRl hRl0 hRl1
    have HO2 := Lib.hid (own_set (b := w.heap.size + 1 + 1) (j := 3) (u := .slice A2 n2.length c2) HOa.out (by omega))
    clear HOa
    generalize w2.setCell ⟨w.heap.size + 1 + 1, 3, none⟩ (.slice A2 n2.length c2) = W3 at *
    clear RE R0 IIR0
    have hraw : EvRaw ⟨k, 0, [], n2, 0⟩ := ⟨HK.out, (fun h => by rfl), (by simp only; omega), (fun h => by rfl), (by simp only [List.length_nil]; omega), (fun h => by rfl), (show I64 0 from ⟨by decide, by decide⟩), (fun h => by rw [hV.out] at h; cases h), (fun h => HVO.out)⟩
    have HRT := Lib.hid (right17_any ⟨k, 0, [], n2, 0⟩ hraw A2 n2.length c2 W3 (vin_own HO2.out))
    clear hraw
    rcases hok : evOk ⟨k, 0, [], n2, 0⟩ with _ | _
    · have HOK := Lib.hid hok
      clear hok
      refine HRT.out.mono ?_
      rintro e w9 ⟨rfl, B9⟩
      rw [HOK.out]
      have RE := Lib.hid (R3.out.bel B9)
      clear B9 HRT
      have z0 := RE.out.kN.cell 0
      have x0 := RE.out.kX.cell 0
      have fr0 := RE.out.kR.fz 0
      have fx0 := RE.out.kX.fz 0
      have r0 := RE.out.kR.cell 0
      have z1 := RE.out.kN.cell 1
      have x1 := RE.out.kX.cell 1
      have fr1 := RE.out.kR.fz 1
      have fx1 := RE.out.kX.fz 1
      have r1 := RE.out.kR.cell 1
      have z2 := RE.out.kN.cell 2
      have x2 := RE.out.kX.cell 2
      have fr2 := RE.out.kR.fz 2
      have fx2 := RE.out.kX.fz 2
      have r2 := RE.out.kR.cell 2
      have z3 := RE.out.kN.cell 3
      have x3 := RE.out.kX.cell 3
      have fr3 := RE.out.kR.fz 3
      have fx3 := RE.out.kX.fz 3
      have r3 := RE.out.kR.cell 3
      have z4 := RE.out.kN.cell 4
      have x4 := RE.out.kX.cell 4
      have fr4 := RE.out.kR.fz 4
      have fx4 := RE.out.kX.fz 4
      have r4 := RE.out.kR.cell 4
      simp only [List.getElem?_cons_succ, List.getElem?_cons_zero] at z0 z1 z2 z3 z4 x0 x1 x2 x3 x4 r0 r1 r2 r3 r4
      have hRl := RE.out.lt
      have hRl0 : w.heap.size < w9.heap.size := by omega
      have hRl1 : w.heap.size + 1 < w9.heap.size := by omega
      go_wp2_with fail
      refine bodyPost_ret (results_cell_row3 (h := rfl) (g := w.heap.size) (t := 27) (cs := ([.int .u8 0, .int .i64 0, .string ⟨#[]⟩, .slice none 0 0, .int .i64 0] : List Value).toArray) (fr := (0, 0)) (hp := rfl) (hg := RE.out.ret _ _ _ _ _) (hu := Try.underlying27) (hd := rfl) (hi := by kernel_rfl) _ _) rfl ?_
      exact evGets_err (by rw [HEQ.out]; unfold rdEvK; rw [hI.out, hN.out, hV.out, hF.out, ← HT.out]; simp only [opt_no, opt_yes, HH2.out, HM0.out, HOK.out]; rfl) (RE.out.retB _ _ _ _ _)
    · have HOK := Lib.hid hok
      clear hok
      refine HRT.out.mono ?_
      rintro e w9 ⟨rfl, B9⟩
      rw [HOK.out]
      have RE := Lib.hid (R3.out.bel B9)
      have HO9 := Lib.hid (own_below HO2.out B9)
      clear B9 HRT
      have z0 := RE.out.kN.cell 0
      have x0 := RE.out.kX.cell 0
      have fr0 := RE.out.kR.fz 0
      have fx0 := RE.out.kX.fz 0
      have r0 := RE.out.kR.cell 0
      have z1 := RE.out.kN.cell 1
      have x1 := RE.out.kX.cell 1
      have fr1 := RE.out.kR.fz 1
      have fx1 := RE.out.kX.fz 1
      have r1 := RE.out.kR.cell 1
      have z2 := RE.out.kN.cell 2
      have x2 := RE.out.kX.cell 2
      have fr2 := RE.out.kR.fz 2
      have fx2 := RE.out.kX.fz 2
      have r2 := RE.out.kR.cell 2
      have z3 := RE.out.kN.cell 3
      have x3 := RE.out.kX.cell 3
      have fr3 := RE.out.kR.fz 3
      have fx3 := RE.out.kX.fz 3
      have r3 := RE.out.kR.cell 3
      have z4 := RE.out.kN.cell 4
      have x4 := RE.out.kX.cell 4
      have fr4 := RE.out.kR.fz 4
      have fx4 := RE.out.kX.fz 4
      have r4 := RE.out.kR.cell 4
      simp only [List.getElem?_cons_succ, List.getElem?_cons_zero] at z0 z1 z2 z3 z4 x0 x1 x2 x3 x4 r0 r1 r2 r3 r4
      have hRl := RE.out.lt
      have hRl0 : w.heap.size < w9.heap.size := by omega
      have hRl1 : w.heap.size + 1 < w9.heap.size := by omega
      go_wp2_with fail
      have hres : rdEv l a = .ok (⟨k, 0, [], n2, 0⟩, q) := by rw [HEQ.out]; unfold rdEvK; rw [hI.out, hN.out, hV.out, hF.out, ← HT.out]; simp only [opt_no, opt_yes, HH2.out, HM0.out, HOK.out]; rfl
      rw [hres]
      refine bodyPost_ret (results_cell_row3 (h := rfl) (g := w.heap.size) (t := 27) (cs := ([.int .u8 (k : Int), .int .i64 0, .string ⟨#[]⟩, .slice A2 n2.length c2, .int .i64 0] : List Value).toArray) (fr := (0, 0)) (hp := rfl) (hg := RE.out.ret _ _ _ _ _) (hu := Try.underlying27) (hd := rfl) (hi := by kernel_rfl) _ _) rfl ?_
      exact ⟨⟨A2, c2, rfl, World.ownsRow.mono (base := w.heap.size + 1 + 1 + 1) (own_set5 HO9.out (by omega) _ _ _ _ _) (by omega)⟩, RE.out.retB _ _ _ _ _⟩

set_option maxRecDepth 20000 in
set_option maxHeartbeats 8000000 in
theorem rvRead_IV (w : World) (A : Option Addr) (len cap : Nat) (l : List UInt8) (a k : Nat) (h : In w A len cap l) (hsz : l.length ≤ 1000000) (ha : a < l.length) (hkl : l[a].toNat = k) (hk : 1 ≤ k ∧ k ≤ 12) (hi : hasId k = true) (hn : hasName k = false) (hv : hasValue k = true) (hf : hasInt k = false) :
    Calls Try.prog 8 #[.slice A len cap, .int .i64 (a : Int)] w (EvGets w (rdEv l a)) := by
  have HEQ := Lib.hid (rdEv_kind ha hkl hk)
  obtain rfl := h.bs.len
  obtain ⟨ad, rfl, hlt, hc⟩ := h.bs.cell a ha
  rw [hkl] at hc
  have hc2 : ∀ o1 o2 : Obj, ((w.alloc o1).alloc o2).cell? (ad.add a) = some (.int .u8 (k : Int)) := fun o1 o2 =>
    (World.cell?_of_block (w := w) ((((Below.refl w.heap.size w).alloc (Nat.le_refl _) o1).alloc (by simp) o2).block _ (World.block_lt_of_cell? w _ hc))).trans hc
  have II := Lib.hid h
  have hl1 : ¬ ((l.length : Int) ≤ (a : Int)) := by omega
  have hl2 : ¬ (l.length ≤ a) := by omega
  have hl3 : (l.length : Int) ≤ 1000000 := by omega
  have hl4 : (a : Int) < (l.length : Int) := by omega
  have hl5 : (l.length : Int) ≤ (cap : Int) := by have := h.cap_le; omega
  have hk1 : ¬ ((k : Int) < 1) := by omega
  have hk2 : ¬ ((12 : Int) < (k : Int)) := by omega
  have hk3 : ¬ (k < 1) := by omega
  have hk4 : ¬ (12 < k) := by omega
  have HK := Lib.hid hk
  have hI := Lib.hid hi
  have hN := Lib.hid hn
  have hV := Lib.hid hv
  have hF := Lib.hid hf
  have HM0 : Hid (min 0 500 = 0) := Lib.hid rfl
  obtain ⟨t0s, ht0s⟩ : ∃ t, t = a + 1 := ⟨_, rfl⟩
  have hadd : (a : Int) + 1 = (t0s : Int) := by omega
  have hts : t0s ≤ l.length := by omega
  rw [show rdEvK l a k = rdEvK l a k from rfl] at HEQ
  have HT := Lib.hid ht0s
  clear hk hi hn hv hf ht0s
  have hR0 : RV w (((w.alloc (.cells #[.int .u8 0, .int .i64 0, .string ⟨#[]⟩, .slice none 0 0, .int .i64 0] 27)).alloc (.cells #[.int .u8 0, .int .i64 0, .string ⟨#[]⟩, .slice none 0 0, .int .i64 0] 27)).alloc (.cells #[.int .u8 (k : Int), .int .i64 0, .string ⟨#[]⟩, .slice none 0 0, .int .i64 0] 27)) [.int .u8 (k : Int), .int .i64 0, .string ⟨#[]⟩, .slice none 0 0, .int .i64 0] :=
    ⟨(Blk.alloc (Blk.new w 27 [.int .u8 0, .int .i64 0, .string ⟨#[]⟩, .slice none 0 0, .int .i64 0]) _).alloc _, by have := Blk.alloc (Blk.new (w.alloc (.cells #[.int .u8 0, .int .i64 0, .string ⟨#[]⟩, .slice none 0 0, .int .i64 0] 27)) 27 [.int .u8 0, .int .i64 0, .string ⟨#[]⟩, .slice none 0 0, .int .i64 0]) (.cells #[.int .u8 (k : Int), .int .i64 0, .string ⟨#[]⟩, .slice none 0 0, .int .i64 0] 27); rwa [World.size_alloc] at this,
      by have := Blk.new ((w.alloc (.cells #[.int .u8 0, .int .i64 0, .string ⟨#[]⟩, .slice none 0 0, .int .i64 0] 27)).alloc (.cells #[.int .u8 0, .int .i64 0, .string ⟨#[]⟩, .slice none 0 0, .int .i64 0] 27)) 27 [.int .u8 (k : Int), .int .i64 0, .string ⟨#[]⟩, .slice none 0 0, .int .i64 0]; rwa [World.size_alloc, World.size_alloc] at this,
      (((Below.refl w.heap.size w).alloc (Nat.le_refl _) _).alloc (by simp) _).alloc (by simp; omega) _⟩
  have R0 := Lib.hid hR0
  clear h hc hkl hR0
  go_enter Try.func8, Try.ntmps8
  go_wp2_with (first | (go_at_call 20; refine (rhId k HK.out _).mono ?_; rintro e wn ⟨rfl, rfl⟩; rw [hI.out]) | (go_at_call 22; refine (rhName k HK.out _).mono ?_; rintro e wn ⟨rfl, rfl⟩; rw [hN.out]) | (go_at_call 24; refine (rhValue k HK.out _).mono ?_; rintro e wn ⟨rfl, rfl⟩; rw [hV.out]) | (go_at_call 26; refine (rhInt k HK.out _).mono ?_; rintro e wn ⟨rfl, rfl⟩; rw [hF.out]))
  generalize ((w.alloc (.cells #[.int .u8 0, .int .i64 0, .string ⟨#[]⟩, .slice none 0 0, .int .i64 0] 27)).alloc (.cells #[.int .u8 0, .int .i64 0, .string ⟨#[]⟩, .slice none 0 0, .int .i64 0] 27)).alloc (.cells #[.int .u8 (k : Int), .int .i64 0, .string ⟨#[]⟩, .slice none 0 0, .int .i64 0] 27) = W0 at *
  clear hc2
  have IIR0 := Lib.hid (R0.out.inn II.out)
  have HC0 := Lib.hid (refUint_any W0 (some ad) l.length cap l t0s IIR0.out.bs (by omega) hsz)
  rcases hr0 : Cd.rdUint l t0s with ⟨p, en⟩ | ⟨n0, t0⟩
  · have HS0 := Lib.hid hr0
    have hen : ((en : Int) != 0) = true := by rw [bne_iff_ne]; have := rdUint_errno' hr0; omega
    have HH0 : Hid (shft t0s (Cd.rdUint (l.drop t0s) 0) = .error (p, en)) := Lib.hid (by rw [rdUint_shft (by omega)]; exact hr0)
    clear hr0
    refine HC0.out.mono ?_
    rintro e w' ⟨hs, rfl⟩
    obtain rfl := hs.of_error HS0.out
    have z0 := R0.out.kN.cell 0
    have x0 := R0.out.kX.cell 0
    have fr0 := R0.out.kR.fz 0
    have fx0 := R0.out.kX.fz 0
    have r0 := R0.out.kR.cell 0
    have z1 := R0.out.kN.cell 1
    have x1 := R0.out.kX.cell 1
    have fr1 := R0.out.kR.fz 1
    have fx1 := R0.out.kX.fz 1
    have r1 := R0.out.kR.cell 1
    have z2 := R0.out.kN.cell 2
    have x2 := R0.out.kX.cell 2
    have fr2 := R0.out.kR.fz 2
    have fx2 := R0.out.kX.fz 2
    have r2 := R0.out.kR.cell 2
    have z3 := R0.out.kN.cell 3
    have x3 := R0.out.kX.cell 3
    have fr3 := R0.out.kR.fz 3
    have fx3 := R0.out.kX.fz 3
    have r3 := R0.out.kR.cell 3
    have z4 := R0.out.kN.cell 4
    have x4 := R0.out.kX.cell 4
    have fr4 := R0.out.kR.fz 4
    have fx4 := R0.out.kX.fz 4
    have r4 := R0.out.kR.cell 4
    simp only [List.getElem?_cons_succ, List.getElem?_cons_zero] at z0 z1 z2 z3 z4 x0 x1 x2 x3 x4 r0 r1 r2 r3 r4
    have hRl := R0.out.lt
    have hRl0 : w.heap.size < W0.heap.size := by omega
    have hRl1 : w.heap.size + 1 < W0.heap.size := by omega
    go_wp2_with fail
    refine bodyPost_ret (results_cell_row3 (h := rfl) (g := w.heap.size) (t := 27) (cs := ([.int .u8 0, .int .i64 0, .string ⟨#[]⟩, .slice none 0 0, .int .i64 0] : List Value).toArray) (fr := (0, 0)) (hp := rfl) (hg := R0.out.ret _ _ _ _ _) (hu := Try.underlying27) (hd := rfl) (hi := by kernel_rfl) _ _) rfl ?_
    exact evGets_err (by rw [HEQ.out]; unfold rdEvK; rw [hI.out, hN.out, hV.out, hF.out, ← HT.out]; simp only [opt_no, opt_yes, HH0.out]) (R0.out.retB _ _ _ _ _)
  · have HS0 := Lib.hid hr0
    have ht0 : t0 ≤ l.length := (Cd.rdUint_lt hr0).2.2
    have hb0 : n0 < 18446744073709551616 := (Cd.rdUint_lt hr0).1
    have HH0 : Hid (shft t0s (Cd.rdUint (l.drop t0s) 0) = .ok (n0, t0)) := Lib.hid (by rw [rdUint_shft (by omega)]; exact hr0)
    clear hr0
    refine HC0.out.mono ?_
    rintro e w' ⟨hs, rfl⟩
    obtain rfl := hs.of_ok HS0.out
    clear hs HC0
    unfold u64V
    have z0 := R0.out.kN.cell 0
    have x0 := R0.out.kX.cell 0
    have fr0 := R0.out.kR.fz 0
    have fx0 := R0.out.kX.fz 0
    have r0 := R0.out.kR.cell 0
    have z1 := R0.out.kN.cell 1
    have x1 := R0.out.kX.cell 1
    have fr1 := R0.out.kR.fz 1
    have fx1 := R0.out.kX.fz 1
    have r1 := R0.out.kR.cell 1
    have z2 := R0.out.kN.cell 2
    have x2 := R0.out.kX.cell 2
    have fr2 := R0.out.kR.fz 2
    have fx2 := R0.out.kX.fz 2
    have r2 := R0.out.kR.cell 2
    have z3 := R0.out.kN.cell 3
    have x3 := R0.out.kX.cell 3
    have fr3 := R0.out.kR.fz 3
    have fx3 := R0.out.kX.fz 3
    have r3 := R0.out.kR.cell 3
    have z4 := R0.out.kN.cell 4
    have x4 := R0.out.kX.cell 4
    have fr4 := R0.out.kR.fz 4
    have fx4 := R0.out.kX.fz 4
    have r4 := R0.out.kR.cell 4
    simp only [List.getElem?_cons_succ, List.getElem?_cons_zero] at z0 z1 z2 z3 z4 x0 x1 x2 x3 x4 r0 r1 r2 r3 r4
    have hRl := R0.out.lt
    have hRl0 : w.heap.size < W0.heap.size := by omega
    have hRl1 : w.heap.size + 1 < W0.heap.size := by omega
    rcases Nat.lt_or_ge 500 n0 with hm | hm
    · have hm' : (500 : Int) < (n0 : Int) := by omega
      have HM : Hid (min n0 500 = 500) := Lib.hid (by omega)
      clear hm
      have hR := R0.out.set 1 (.int .i64 500)
      simp only [List.set_cons_succ, List.set_cons_zero] at hR
      have R1 := Lib.hid hR
      have IIR1 := Lib.hid (hR.inn II.out)
      clear hR
      obtain ⟨A', hA'⟩ : ∃ A', (if cap = t0 then some ad else some (ad.add t0)) = A' := ⟨_, rfl⟩
      go_wp2_with (first | (go_at_call 20; refine (rhId k HK.out _).mono ?_; rintro e wn ⟨rfl, rfl⟩; rw [hI.out]) | (go_at_call 22; refine (rhName k HK.out _).mono ?_; rintro e wn ⟨rfl, rfl⟩; rw [hN.out]) | (go_at_call 24; refine (rhValue k HK.out _).mono ?_; rintro e wn ⟨rfl, rfl⟩; rw [hV.out]) | (go_at_call 26; refine (rhInt k HK.out _).mono ?_; rintro e wn ⟨rfl, rfl⟩; rw [hF.out]))
      clear r0 r1 r2 r3 r4 z0 z1 z2 z3 z4 x0 x1 x2 x3 x4 fr0 fr1 fr2 fr3 fr4 fx0 fx1 fx2 fx3 fx4 hRl hRl0 hRl1
      generalize W0.setCell ⟨w.heap.size + 1 + 1, 1, none⟩ (.int .i64 500) = W1 at *
      clear R0 IIR0
      have hid2 : In W1 A' (l.length - t0) (cap - t0) (l.drop t0) := by rw [← hA']; exact in_drop IIR1.out (by omega)
      clear hA'
      have HC2 := Lib.hid (refValue_any W1 _ _ _ (l.drop t0) hid2 (by simp; omega))
      clear hid2
      rcases hr2 : rdValue (l.drop t0) with ⟨p, en⟩ | ⟨n2, t2⟩
      · have hen : ((en : Int) != 0) = true := by rw [bne_iff_ne]; have := rdValue_errno hr2; omega
        have hpl := (rdValue_er hr2).1
        rw [List.length_drop] at hpl
        have HH2 : Hid (shft t0 (rdValue (l.drop t0)) = .error (t0 + p, en)) := Lib.hid (by rw [hr2]; rfl)
        have HR2 := Lib.hid hr2
        clear hr2
        obtain ⟨q, hq⟩ : ∃ q, q = t0 + p := ⟨_, rfl⟩
        have hq2 : (t0 : Int) + (p : Int) = (q : Int) := by omega
        rw [← hq] at HH2
        have hq3 : (q : Int) ≤ 1000000 := by omega
        clear hq hpl
        refine HC2.out.mono ?_
        rintro e w2 ⟨he, B2⟩
        rw [HR2.out] at he
        obtain rfl := he
        have RE := Lib.hid (R1.out.bel B2)
        clear B2 HC2
        have z0 := RE.out.kN.cell 0
        have x0 := RE.out.kX.cell 0
        have fr0 := RE.out.kR.fz 0
        have fx0 := RE.out.kX.fz 0
        have r0 := RE.out.kR.cell 0
        have z1 := RE.out.kN.cell 1
        have x1 := RE.out.kX.cell 1
        have fr1 := RE.out.kR.fz 1
        have fx1 := RE.out.kX.fz 1
        have r1 := RE.out.kR.cell 1
        have z2 := RE.out.kN.cell 2
        have x2 := RE.out.kX.cell 2
        have fr2 := RE.out.kR.fz 2
        have fx2 := RE.out.kX.fz 2
        have r2 := RE.out.kR.cell 2
        have z3 := RE.out.kN.cell 3
        have x3 := RE.out.kX.cell 3
        have fr3 := RE.out.kR.fz 3
        have fx3 := RE.out.kX.fz 3
        have r3 := RE.out.kR.cell 3
        have z4 := RE.out.kN.cell 4
        have x4 := RE.out.kX.cell 4
        have fr4 := RE.out.kR.fz 4
        have fx4 := RE.out.kX.fz 4
        have r4 := RE.out.kR.cell 4
        simp only [List.getElem?_cons_succ, List.getElem?_cons_zero] at z0 z1 z2 z3 z4 x0 x1 x2 x3 x4 r0 r1 r2 r3 r4
        have hRl := RE.out.lt
        have hRl0 : w.heap.size < w2.heap.size := by omega
        have hRl1 : w.heap.size + 1 < w2.heap.size := by omega
        go_wp2_with fail
        refine bodyPost_ret (results_cell_row3 (h := rfl) (g := w.heap.size) (t := 27) (cs := ([.int .u8 0, .int .i64 0, .string ⟨#[]⟩, .slice none 0 0, .int .i64 0] : List Value).toArray) (fr := (0, 0)) (hp := rfl) (hg := RE.out.ret _ _ _ _ _) (hu := Try.underlying27) (hd := rfl) (hi := by kernel_rfl) _ _) rfl ?_
        exact evGets_err (by rw [HEQ.out]; unfold rdEvK; rw [hI.out, hN.out, hV.out, hF.out, ← HT.out]; simp only [opt_no, opt_yes, HH0.out, HH2.out]) (RE.out.retB _ _ _ _ _)
      · have ht2 : t2 ≤ l.length - t0 := by have := rdValue_le hr2; rwa [List.length_drop] at this
        obtain ⟨sz, hvi⟩ := rdValue_inv hr2
        have HVO := Lib.hid (show ValOk n2 ∧ ∀ y ∈ n2, I64 y.int from ⟨hvi.valOk, fun y hy => (hvi.ok y hy).2.1⟩)
        clear hvi
        have HH2 : Hid (shft t0 (rdValue (l.drop t0)) = .ok (n2, t0 + t2)) := Lib.hid (by rw [hr2]; rfl)
        have HR2 := Lib.hid hr2
        clear hr2
        obtain ⟨q, hq⟩ : ∃ q, q = t0 + t2 := ⟨_, rfl⟩
        have hq2 : (t0 : Int) + (t2 : Int) = (q : Int) := by omega
        rw [← hq] at HH2
        have hq3 : q ≤ l.length := by omega
        have hq4 : (q : Int) ≤ 1000000 := by omega
        clear hq ht2
        refine HC2.out.mono ?_
        rintro e w2 ⟨he, B2⟩
        rw [HR2.out] at he
        obtain ⟨v2, rfl, ho2⟩ := he
        obtain ⟨A2, c2, rfl⟩ := own_slice ho2
        have RE := Lib.hid (R1.out.bel B2)
        have hO2 := ho2.mono (base' := W1.heap.size) (Nat.le_refl _)
        have hWl := R1.out.lt
        have HOa := Lib.hid (World.ownsRow.mono (base' := w.heap.size + 1 + 1 + 1) ho2 (by omega))
        clear B2 HC2 ho2 hO2 hWl
        have z0 := RE.out.kN.cell 0
        have x0 := RE.out.kX.cell 0
        have fr0 := RE.out.kR.fz 0
        have fx0 := RE.out.kX.fz 0
        have r0 := RE.out.kR.cell 0
        have z1 := RE.out.kN.cell 1
        have x1 := RE.out.kX.cell 1
        have fr1 := RE.out.kR.fz 1
        have fx1 := RE.out.kX.fz 1
        have r1 := RE.out.kR.cell 1
        have z2 := RE.out.kN.cell 2
        have x2 := RE.out.kX.cell 2
        have fr2 := RE.out.kR.fz 2
        have fx2 := RE.out.kX.fz 2
        have r2 := RE.out.kR.cell 2
        have z3 := RE.out.kN.cell 3
        have x3 := RE.out.kX.cell 3
        have fr3 := RE.out.kR.fz 3
        have fx3 := RE.out.kX.fz 3
        have r3 := RE.out.kR.cell 3
        have z4 := RE.out.kN.cell 4
        have x4 := RE.out.kX.cell 4
        have fr4 := RE.out.kR.fz 4
        have fx4 := RE.out.kX.fz 4
        have r4 := RE.out.kR.cell 4
        simp only [List.getElem?_cons_succ, List.getElem?_cons_zero] at z0 z1 z2 z3 z4 x0 x1 x2 x3 x4 r0 r1 r2 r3 r4
        have hRl := RE.out.lt
        have hRl0 : w.heap.size < w2.heap.size := by omega
        have hRl1 : w.heap.size + 1 < w2.heap.size := by omega
        have hR := RE.out.set 3 (.slice A2 n2.length c2)
        simp only [List.set_cons_succ, List.set_cons_zero] at hR
        have R3 := Lib.hid hR
        have IIR3 := Lib.hid (hR.inn II.out)
        clear hR
        go_wp2_with (first | (go_at_call 20; refine (rhId k HK.out _).mono ?_; rintro e wn ⟨rfl, rfl⟩; rw [hI.out]) | (go_at_call 22; refine (rhName k HK.out _).mono ?_; rintro e wn ⟨rfl, rfl⟩; rw [hN.out]) | (go_at_call 24; refine (rhValue k HK.out _).mono ?_; rintro e wn ⟨rfl, rfl⟩; rw [hV.out]) | (go_at_call 26; refine (rhInt k HK.out _).mono ?_; rintro e wn ⟨rfl, rfl⟩; rw [hF.out]))
        clear r0 r1 r2 r3 r4 z0 z1 z2 z3 z4 x0 x1 x2 x3 x4 fr0 fr1 fr2 fr3 fr4 fx0 fx1 fx2 fx3 fx4 hRl hRl0 hRl1
        have HO2 := Lib.hid (own_set (b := w.heap.size + 1 + 1) (j := 3) (u := .slice A2 n2.length c2) HOa.out (by omega))
        clear HOa
        generalize w2.setCell ⟨w.heap.size + 1 + 1, 3, none⟩ (.slice A2 n2.length c2) = W3 at *
        clear RE R1 IIR1
        have hraw : EvRaw ⟨k, 500, [], n2, 0⟩ := ⟨HK.out, (fun h => by rw [hI.out] at h; cases h), (by simp only; omega), (fun h => by rfl), (by simp only [List.length_nil]; omega), (fun h => by rfl), (show I64 0 from ⟨by decide, by decide⟩), (fun h => by rw [hV.out] at h; cases h), (fun h => HVO.out)⟩
        have HRT := Lib.hid (right17_any ⟨k, 500, [], n2, 0⟩ hraw A2 n2.length c2 W3 (vin_own HO2.out))
        clear hraw
        rcases hok : evOk ⟨k, 500, [], n2, 0⟩ with _ | _
        · have HOK := Lib.hid hok
          clear hok
          refine HRT.out.mono ?_
          rintro e w9 ⟨rfl, B9⟩
          rw [HOK.out]
          have RE := Lib.hid (R3.out.bel B9)
          clear B9 HRT
          have z0 := RE.out.kN.cell 0
          have x0 := RE.out.kX.cell 0
          have fr0 := RE.out.kR.fz 0
          have fx0 := RE.out.kX.fz 0
          have r0 := RE.out.kR.cell 0
          have z1 := RE.out.kN.cell 1
          have x1 := RE.out.kX.cell 1
          have fr1 := RE.out.kR.fz 1
          have fx1 := RE.out.kX.fz 1
          have r1 := RE.out.kR.cell 1
          have z2 := RE.out.kN.cell 2
          have x2 := RE.out.kX.cell 2
          have fr2 := RE.out.kR.fz 2
          have fx2 := RE.out.kX.fz 2
          have r2 := RE.out.kR.cell 2
          have z3 := RE.out.kN.cell 3
          have x3 := RE.out.kX.cell 3
          have fr3 := RE.out.kR.fz 3
          have fx3 := RE.out.kX.fz 3
          have r3 := RE.out.kR.cell 3
          have z4 := RE.out.kN.cell 4
          have x4 := RE.out.kX.cell 4
          have fr4 := RE.out.kR.fz 4
          have fx4 := RE.out.kX.fz 4
          have r4 := RE.out.kR.cell 4
          simp only [List.getElem?_cons_succ, List.getElem?_cons_zero] at z0 z1 z2 z3 z4 x0 x1 x2 x3 x4 r0 r1 r2 r3 r4
          have hRl := RE.out.lt
          have hRl0 : w.heap.size < w9.heap.size := by omega
          have hRl1 : w.heap.size + 1 < w9.heap.size := by omega
          go_wp2_with fail
          refine bodyPost_ret (results_cell_row3 (h := rfl) (g := w.heap.size) (t := 27) (cs := ([.int .u8 0, .int .i64 0, .string ⟨#[]⟩, .slice none 0 0, .int .i64 0] : List Value).toArray) (fr := (0, 0)) (hp := rfl) (hg := RE.out.ret _ _ _ _ _) (hu := Try.underlying27) (hd := rfl) (hi := by kernel_rfl) _ _) rfl ?_
          exact evGets_err (by rw [HEQ.out]; unfold rdEvK; rw [hI.out, hN.out, hV.out, hF.out, ← HT.out]; simp only [opt_no, opt_yes, HH0.out, HH2.out, HM.out, HOK.out]; rfl) (RE.out.retB _ _ _ _ _)
        · have HOK := Lib.hid hok
          clear hok
          refine HRT.out.mono ?_
          rintro e w9 ⟨rfl, B9⟩
          rw [HOK.out]
          have RE := Lib.hid (R3.out.bel B9)
          have HO9 := Lib.hid (own_below HO2.out B9)
          clear B9 HRT
          have z0 := RE.out.kN.cell 0
          have x0 := RE.out.kX.cell 0
          have fr0 := RE.out.kR.fz 0
          have fx0 := RE.out.kX.fz 0
          have r0 := RE.out.kR.cell 0
          have z1 := RE.out.kN.cell 1
          have x1 := RE.out.kX.cell 1
          have fr1 := RE.out.kR.fz 1
          have fx1 := RE.out.kX.fz 1
          have r1 := RE.out.kR.cell 1
          have z2 := RE.out.kN.cell 2
          have x2 := RE.out.kX.cell 2
          have fr2 := RE.out.kR.fz 2
          have fx2 := RE.out.kX.fz 2
          have r2 := RE.out.kR.cell 2
          have z3 := RE.out.kN.cell 3
          have x3 := RE.out.kX.cell 3
          have fr3 := RE.out.kR.fz 3
          have fx3 := RE.out.kX.fz 3
          have r3 := RE.out.kR.cell 3
          have z4 := RE.out.kN.cell 4
          have x4 := RE.out.kX.cell 4
          have fr4 := RE.out.kR.fz 4
          have fx4 := RE.out.kX.fz 4
          have r4 := RE.out.kR.cell 4
          simp only [List.getElem?_cons_succ, List.getElem?_cons_zero] at z0 z1 z2 z3 z4 x0 x1 x2 x3 x4 r0 r1 r2 r3 r4
          have hRl := RE.out.lt
          have hRl0 : w.heap.size < w9.heap.size := by omega
          have hRl1 : w.heap.size + 1 < w9.heap.size := by omega
          go_wp2_with fail
          have hres : rdEv l a = .ok (⟨k, 500, [], n2, 0⟩, q) := by rw [HEQ.out]; unfold rdEvK; rw [hI.out, hN.out, hV.out, hF.out, ← HT.out]; simp only [opt_no, opt_yes, HH0.out, HH2.out, HM.out, HOK.out]; rfl
          rw [hres]
          refine bodyPost_ret (results_cell_row3 (h := rfl) (g := w.heap.size) (t := 27) (cs := ([.int .u8 (k : Int), .int .i64 500, .string ⟨#[]⟩, .slice A2 n2.length c2, .int .i64 0] : List Value).toArray) (fr := (0, 0)) (hp := rfl) (hg := RE.out.ret _ _ _ _ _) (hu := Try.underlying27) (hd := rfl) (hi := by kernel_rfl) _ _) rfl ?_
          exact ⟨⟨A2, c2, rfl, World.ownsRow.mono (base := w.heap.size + 1 + 1 + 1) (own_set5 HO9.out (by omega) _ _ _ _ _) (by omega)⟩, RE.out.retB _ _ _ _ _⟩
    · have hm' : (n0 : Int) ≤ 500 := by omega
      have HM : Hid (min n0 500 = n0) := Lib.hid (by omega)
      clear hm
      have hR := R0.out.set 1 (.int .i64 (n0 : Int))
      simp only [List.set_cons_succ, List.set_cons_zero] at hR
      have R1 := Lib.hid hR
      have IIR1 := Lib.hid (hR.inn II.out)
      clear hR
      obtain ⟨A', hA'⟩ : ∃ A', (if cap = t0 then some ad else some (ad.add t0)) = A' := ⟨_, rfl⟩
      go_wp2_with (first | (go_at_call 20; refine (rhId k HK.out _).mono ?_; rintro e wn ⟨rfl, rfl⟩; rw [hI.out]) | (go_at_call 22; refine (rhName k HK.out _).mono ?_; rintro e wn ⟨rfl, rfl⟩; rw [hN.out]) | (go_at_call 24; refine (rhValue k HK.out _).mono ?_; rintro e wn ⟨rfl, rfl⟩; rw [hV.out]) | (go_at_call 26; refine (rhInt k HK.out _).mono ?_; rintro e wn ⟨rfl, rfl⟩; rw [hF.out]))
      clear r0 r1 r2 r3 r4 z0 z1 z2 z3 z4 x0 x1 x2 x3 x4 fr0 fr1 fr2 fr3 fr4 fx0 fx1 fx2 fx3 fx4 hRl hRl0 hRl1
      generalize W0.setCell ⟨w.heap.size + 1 + 1, 1, none⟩ (.int .i64 (n0 : Int)) = W1 at *
      clear R0 IIR0
      have hid2 : In W1 A' (l.length - t0) (cap - t0) (l.drop t0) := by rw [← hA']; exact in_drop IIR1.out (by omega)
      clear hA'
      have HC2 := Lib.hid (refValue_any W1 _ _ _ (l.drop t0) hid2 (by simp; omega))
      clear hid2
      rcases hr2 : rdValue (l.drop t0) with ⟨p, en⟩ | ⟨n2, t2⟩
      · have hen : ((en : Int) != 0) = true := by rw [bne_iff_ne]; have := rdValue_errno hr2; omega
        have hpl := (rdValue_er hr2).1
        rw [List.length_drop] at hpl
        have HH2 : Hid (shft t0 (rdValue (l.drop t0)) = .error (t0 + p, en)) := Lib.hid (by rw [hr2]; rfl)
        have HR2 := Lib.hid hr2
        clear hr2
        obtain ⟨q, hq⟩ : ∃ q, q = t0 + p := ⟨_, rfl⟩
        have hq2 : (t0 : Int) + (p : Int) = (q : Int) := by omega
        rw [← hq] at HH2
        have hq3 : (q : Int) ≤ 1000000 := by omega
        clear hq hpl
        refine HC2.out.mono ?_
        rintro e w2 ⟨he, B2⟩
        rw [HR2.out] at he
        obtain rfl := he
        have RE := Lib.hid (R1.out.bel B2)
        clear B2 HC2
        have z0 := RE.out.kN.cell 0
        have x0 := RE.out.kX.cell 0
        have fr0 := RE.out.kR.fz 0
        have fx0 := RE.out.kX.fz 0
        have r0 := RE.out.kR.cell 0
        have z1 := RE.out.kN.cell 1
        have x1 := RE.out.kX.cell 1
        have fr1 := RE.out.kR.fz 1
        have fx1 := RE.out.kX.fz 1
        have r1 := RE.out.kR.cell 1
        have z2 := RE.out.kN.cell 2
        have x2 := RE.out.kX.cell 2
        have fr2 := RE.out.kR.fz 2
        have fx2 := RE.out.kX.fz 2
        have r2 := RE.out.kR.cell 2
        have z3 := RE.out.kN.cell 3
        have x3 := RE.out.kX.cell 3
        have fr3 := RE.out.kR.fz 3
        have fx3 := RE.out.kX.fz 3
        have r3 := RE.out.kR.cell 3
        have z4 := RE.out.kN.cell 4
        have x4 := RE.out.kX.cell 4
        have fr4 := RE.out.kR.fz 4
        have fx4 := RE.out.kX.fz 4
        have r4 := RE.out.kR.cell 4
        simp only [List.getElem?_cons_succ, List.getElem?_cons_zero] at z0 z1 z2 z3 z4 x0 x1 x2 x3 x4 r0 r1 r2 r3 r4
        have hRl := RE.out.lt
        have hRl0 : w.heap.size < w2.heap.size := by omega
        have hRl1 : w.heap.size + 1 < w2.heap.size := by omega
        go_wp2_with fail
        refine bodyPost_ret (results_cell_row3 (h := rfl) (g := w.heap.size) (t := 27) (cs := ([.int .u8 0, .int .i64 0, .string ⟨#[]⟩, .slice none 0 0, .int .i64 0] : List Value).toArray) (fr := (0, 0)) (hp := rfl) (hg := RE.out.ret _ _ _ _ _) (hu := Try.underlying27) (hd := rfl) (hi := by kernel_rfl) _ _) rfl ?_
        exact evGets_err (by rw [HEQ.out]; unfold rdEvK; rw [hI.out, hN.out, hV.out, hF.out, ← HT.out]; simp only [opt_no, opt_yes, HH0.out, HH2.out]) (RE.out.retB _ _ _ _ _)
      · have ht2 : t2 ≤ l.length - t0 := by have := rdValue_le hr2; rwa [List.length_drop] at this
        obtain ⟨sz, hvi⟩ := rdValue_inv hr2
        have HVO := Lib.hid (show ValOk n2 ∧ ∀ y ∈ n2, I64 y.int from ⟨hvi.valOk, fun y hy => (hvi.ok y hy).2.1⟩)
        clear hvi
        have HH2 : Hid (shft t0 (rdValue (l.drop t0)) = .ok (n2, t0 + t2)) := Lib.hid (by rw [hr2]; rfl)
        have HR2 := Lib.hid hr2
        clear hr2
        obtain ⟨q, hq⟩ : ∃ q, q = t0 + t2 := ⟨_, rfl⟩
        have hq2 : (t0 : Int) + (t2 : Int) = (q : Int) := by omega
        rw [← hq] at HH2
        have hq3 : q ≤ l.length := by omega
        have hq4 : (q : Int) ≤ 1000000 := by omega
        clear hq ht2
        refine HC2.out.mono ?_
        rintro e w2 ⟨he, B2⟩
        rw [HR2.out] at he
        obtain ⟨v2, rfl, ho2⟩ := he
        obtain ⟨A2, c2, rfl⟩ := own_slice ho2
        have RE := Lib.hid (R1.out.bel B2)
        have hO2 := ho2.mono (base' := W1.heap.size) (Nat.le_refl _)
        have hWl := R1.out.lt
        have HOa := Lib.hid (World.ownsRow.mono (base' := w.heap.size + 1 + 1 + 1) ho2 (by omega))
        clear B2 HC2 ho2 hO2 hWl
        have z0 := RE.out.kN.cell 0
        have x0 := RE.out.kX.cell 0
        have fr0 := RE.out.kR.fz 0
        have fx0 := RE.out.kX.fz 0
        have r0 := RE.out.kR.cell 0
        have z1 := RE.out.kN.cell 1
        have x1 := RE.out.kX.cell 1
        have fr1 := RE.out.kR.fz 1
        have fx1 := RE.out.kX.fz 1
        have r1 := RE.out.kR.cell 1
        have z2 := RE.out.kN.cell 2
        have x2 := RE.out.kX.cell 2
        have fr2 := RE.out.kR.fz 2
        have fx2 := RE.out.kX.fz 2
        have r2 := RE.out.kR.cell 2
        have z3 := RE.out.kN.cell 3
        have x3 := RE.out.kX.cell 3
        have fr3 := RE.out.kR.fz 3
        have fx3 := RE.out.kX.fz 3
        have r3 := RE.out.kR.cell 3
        have z4 := RE.out.kN.cell 4
        have x4 := RE.out.kX.cell 4
        have fr4 := RE.out.kR.fz 4
        have fx4 := RE.out.kX.fz 4
        have r4 := RE.out.kR.cell 4
        simp only [List.getElem?_cons_succ, List.getElem?_cons_zero] at z0 z1 z2 z3 z4 x0 x1 x2 x3 x4 r0 r1 r2 r3 r4
        have hRl := RE.out.lt
        have hRl0 : w.heap.size < w2.heap.size := by omega
        have hRl1 : w.heap.size + 1 < w2.heap.size := by omega
        have hR := RE.out.set 3 (.slice A2 n2.length c2)
        simp only [List.set_cons_succ, List.set_cons_zero] at hR
        have R3 := Lib.hid hR
        have IIR3 := Lib.hid (hR.inn II.out)
        clear hR
        go_wp2_with (first | (go_at_call 20; refine (rhId k HK.out _).mono ?_; rintro e wn ⟨rfl, rfl⟩; rw [hI.out]) | (go_at_call 22; refine (rhName k HK.out _).mono ?_; rintro e wn ⟨rfl, rfl⟩; rw [hN.out]) | (go_at_call 24; refine (rhValue k HK.out _).mono ?_; rintro e wn ⟨rfl, rfl⟩; rw [hV.out]) | (go_at_call 26; refine (rhInt k HK.out _).mono ?_; rintro e wn ⟨rfl, rfl⟩; rw [hF.out]))
        clear r0 r1 r2 r3 r4 z0 z1 z2 z3 z4 x0 x1 x2 x3 x4 fr0 fr1 fr2 fr3 fr4 fx0 fx1 fx2 fx3 fx4 hRl hRl0 hRl1
        have HO2 := Lib.hid (own_set (b := w.heap.size + 1 + 1) (j := 3) (u := .slice A2 n2.length c2) HOa.out (by omega))
        clear HOa
        generalize w2.setCell ⟨w.heap.size + 1 + 1, 3, none⟩ (.slice A2 n2.length c2) = W3 at *
        clear RE R1 IIR1
        have hraw : EvRaw ⟨k, n0, [], n2, 0⟩ := ⟨HK.out, (fun h => by rw [hI.out] at h; cases h), (by simp only; omega), (fun h => by rfl), (by simp only [List.length_nil]; omega), (fun h => by rfl), (show I64 0 from ⟨by decide, by decide⟩), (fun h => by rw [hV.out] at h; cases h), (fun h => HVO.out)⟩
        have HRT := Lib.hid (right17_any ⟨k, n0, [], n2, 0⟩ hraw A2 n2.length c2 W3 (vin_own HO2.out))
        clear hraw
        rcases hok : evOk ⟨k, n0, [], n2, 0⟩ with _ | _
        · have HOK := Lib.hid hok
          clear hok
          refine HRT.out.mono ?_
          rintro e w9 ⟨rfl, B9⟩
          rw [HOK.out]
          have RE := Lib.hid (R3.out.bel B9)
          clear B9 HRT
          have z0 := RE.out.kN.cell 0
          have x0 := RE.out.kX.cell 0
          have fr0 := RE.out.kR.fz 0
          have fx0 := RE.out.kX.fz 0
          have r0 := RE.out.kR.cell 0
          have z1 := RE.out.kN.cell 1
          have x1 := RE.out.kX.cell 1
          have fr1 := RE.out.kR.fz 1
          have fx1 := RE.out.kX.fz 1
          have r1 := RE.out.kR.cell 1
          have z2 := RE.out.kN.cell 2
          have x2 := RE.out.kX.cell 2
          have fr2 := RE.out.kR.fz 2
          have fx2 := RE.out.kX.fz 2
          have r2 := RE.out.kR.cell 2
          have z3 := RE.out.kN.cell 3
          have x3 := RE.out.kX.cell 3
          have fr3 := RE.out.kR.fz 3
          have fx3 := RE.out.kX.fz 3
          have r3 := RE.out.kR.cell 3
          have z4 := RE.out.kN.cell 4
          have x4 := RE.out.kX.cell 4
          have fr4 := RE.out.kR.fz 4
          have fx4 := RE.out.kX.fz 4
          have r4 := RE.out.kR.cell 4
          simp only [List.getElem?_cons_succ, List.getElem?_cons_zero] at z0 z1 z2 z3 z4 x0 x1 x2 x3 x4 r0 r1 r2 r3 r4
          have hRl := RE.out.lt
          have hRl0 : w.heap.size < w9.heap.size := by omega
          have hRl1 : w.heap.size + 1 < w9.heap.size := by omega
          go_wp2_with fail
          refine bodyPost_ret (results_cell_row3 (h := rfl) (g := w.heap.size) (t := 27) (cs := ([.int .u8 0, .int .i64 0, .string ⟨#[]⟩, .slice none 0 0, .int .i64 0] : List Value).toArray) (fr := (0, 0)) (hp := rfl) (hg := RE.out.ret _ _ _ _ _) (hu := Try.underlying27) (hd := rfl) (hi := by kernel_rfl) _ _) rfl ?_
          exact evGets_err (by rw [HEQ.out]; unfold rdEvK; rw [hI.out, hN.out, hV.out, hF.out, ← HT.out]; simp only [opt_no, opt_yes, HH0.out, HH2.out, HM.out, HOK.out]; rfl) (RE.out.retB _ _ _ _ _)
        · have HOK := Lib.hid hok
          clear hok
          refine HRT.out.mono ?_
          rintro e w9 ⟨rfl, B9⟩
          rw [HOK.out]
          have RE := Lib.hid (R3.out.bel B9)
          have HO9 := Lib.hid (own_below HO2.out B9)
          clear B9 HRT
          have z0 := RE.out.kN.cell 0
          have x0 := RE.out.kX.cell 0
          have fr0 := RE.out.kR.fz 0
          have fx0 := RE.out.kX.fz 0
          have r0 := RE.out.kR.cell 0
          have z1 := RE.out.kN.cell 1
          have x1 := RE.out.kX.cell 1
          have fr1 := RE.out.kR.fz 1
          have fx1 := RE.out.kX.fz 1
          have r1 := RE.out.kR.cell 1
          have z2 := RE.out.kN.cell 2
          have x2 := RE.out.kX.cell 2
          have fr2 := RE.out.kR.fz 2
          have fx2 := RE.out.kX.fz 2
          have r2 := RE.out.kR.cell 2
          have z3 := RE.out.kN.cell 3
          have x3 := RE.out.kX.cell 3
          have fr3 := RE.out.kR.fz 3
          have fx3 := RE.out.kX.fz 3
          have r3 := RE.out.kR.cell 3
          have z4 := RE.out.kN.cell 4
          have x4 := RE.out.kX.cell 4
          have fr4 := RE.out.kR.fz 4
          have fx4 := RE.out.kX.fz 4
          have r4 := RE.out.kR.cell 4
          simp only [List.getElem?_cons_succ, List.getElem?_cons_zero] at z0 z1 z2 z3 z4 x0 x1 x2 x3 x4 r0 r1 r2 r3 r4
          have hRl := RE.out.lt
          have hRl0 : w.heap.size < w9.heap.size := by omega
          have hRl1 : w.heap.size + 1 < w9.heap.size := by omega
          go_wp2_with fail
          have hres : rdEv l a = .ok (⟨k, n0, [], n2, 0⟩, q) := by rw [HEQ.out]; unfold rdEvK; rw [hI.out, hN.out, hV.out, hF.out, ← HT.out]; simp only [opt_no, opt_yes, HH0.out, HH2.out, HM.out, HOK.out]; rfl
          rw [hres]
          refine bodyPost_ret (results_cell_row3 (h := rfl) (g := w.heap.size) (t := 27) (cs := ([.int .u8 (k : Int), .int .i64 (n0 : Int), .string ⟨#[]⟩, .slice A2 n2.length c2, .int .i64 0] : List Value).toArray) (fr := (0, 0)) (hp := rfl) (hg := RE.out.ret _ _ _ _ _) (hu := Try.underlying27) (hd := rfl) (hi := by kernel_rfl) _ _) rfl ?_
          exact ⟨⟨A2, c2, rfl, World.ownsRow.mono (base := w.heap.size + 1 + 1 + 1) (own_set5 HO9.out (by omega) _ _ _ _ _) (by omega)⟩, RE.out.retB _ _ _ _ _⟩

set_option maxRecDepth 20000 in
set_option maxHeartbeats 8000000 in
theorem rvRead_I (w : World) (A : Option Addr) (len cap : Nat) (l : List UInt8) (a k : Nat) (h : In w A len cap l) (hsz : l.length ≤ 1000000) (ha : a < l.length) (hkl : l[a].toNat = k) (hk : 1 ≤ k ∧ k ≤ 12) (hi : hasId k = true) (hn : hasName k = false) (hv : hasValue k = false) (hf : hasInt k = false) :
    Calls Try.prog 8 #[.slice A len cap, .int .i64 (a : Int)] w (EvGets w (rdEv l a)) := by
  have HEQ := Lib.hid (rdEv_kind ha hkl hk)
  obtain rfl := h.bs.len
  obtain ⟨ad, rfl, hlt, hc⟩ := h.bs.cell a ha
  rw [hkl] at hc
  have hc2 : ∀ o1 o2 : Obj, ((w.alloc o1).alloc o2).cell? (ad.add a) = some (.int .u8 (k : Int)) := fun o1 o2 =>
    (World.cell?_of_block (w := w) ((((Below.refl w.heap.size w).alloc (Nat.le_refl _) o1).alloc (by simp) o2).block _ (World.block_lt_of_cell? w _ hc))).trans hc
  have II := Lib.hid h
  have hl1 : ¬ ((l.length : Int) ≤ (a : Int)) := by omega
  have hl2 : ¬ (l.length ≤ a) := by omega
  have hl3 : (l.length : Int) ≤ 1000000 := by omega
  have hl4 : (a : Int) < (l.length : Int) := by omega
  have hl5 : (l.length : Int) ≤ (cap : Int) := by have := h.cap_le; omega
  have hk1 : ¬ ((k : Int) < 1) := by omega
  have hk2 : ¬ ((12 : Int) < (k : Int)) := by omega
  have hk3 : ¬ (k < 1) := by omega
  have hk4 : ¬ (12 < k) := by omega
  have HK := Lib.hid hk
  have hI := Lib.hid hi
  have hN := Lib.hid hn
  have hV := Lib.hid hv
  have hF := Lib.hid hf
  have HM0 : Hid (min 0 500 = 0) := Lib.hid rfl
  obtain ⟨t0s, ht0s⟩ : ∃ t, t = a + 1 := ⟨_, rfl⟩
  have hadd : (a : Int) + 1 = (t0s : Int) := by omega
  have hts : t0s ≤ l.length := by omega
  rw [show rdEvK l a k = rdEvK l a k from rfl] at HEQ
  have HT := Lib.hid ht0s
  clear hk hi hn hv hf ht0s
  have hR0 : RV w (((w.alloc (.cells #[.int .u8 0, .int .i64 0, .string ⟨#[]⟩, .slice none 0 0, .int .i64 0] 27)).alloc (.cells #[.int .u8 0, .int .i64 0, .string ⟨#[]⟩, .slice none 0 0, .int .i64 0] 27)).alloc (.cells #[.int .u8 (k : Int), .int .i64 0, .string ⟨#[]⟩, .slice none 0 0, .int .i64 0] 27)) [.int .u8 (k : Int), .int .i64 0, .string ⟨#[]⟩, .slice none 0 0, .int .i64 0] :=
    ⟨(Blk.alloc (Blk.new w 27 [.int .u8 0, .int .i64 0, .string ⟨#[]⟩, .slice none 0 0, .int .i64 0]) _).alloc _, by have := Blk.alloc (Blk.new (w.alloc (.cells #[.int .u8 0, .int .i64 0, .string ⟨#[]⟩, .slice none 0 0, .int .i64 0] 27)) 27 [.int .u8 0, .int .i64 0, .string ⟨#[]⟩, .slice none 0 0, .int .i64 0]) (.cells #[.int .u8 (k : Int), .int .i64 0, .string ⟨#[]⟩, .slice none 0 0, .int .i64 0] 27); rwa [World.size_alloc] at this,
      by have := Blk.new ((w.alloc (.cells #[.int .u8 0, .int .i64 0, .string ⟨#[]⟩, .slice none 0 0, .int .i64 0] 27)).alloc (.cells #[.int .u8 0, .int .i64 0, .string ⟨#[]⟩, .slice none 0 0, .int .i64 0] 27)) 27 [.int .u8 (k : Int), .int .i64 0, .string ⟨#[]⟩, .slice none 0 0, .int .i64 0]; rwa [World.size_alloc, World.size_alloc] at this,
      (((Below.refl w.heap.size w).alloc (Nat.le_refl _) _).alloc (by simp) _).alloc (by simp; omega) _⟩
  have R0 := Lib.hid hR0
  clear h hc hkl hR0
  go_enter Try.func8, Try.ntmps8
  go_wp2_with (first | (go_at_call 20; refine (rhId k HK.out _).mono ?_; rintro e wn ⟨rfl, rfl⟩; rw [hI.out]) | (go_at_call 22; refine (rhName k HK.out _).mono ?_; rintro e wn ⟨rfl, rfl⟩; rw [hN.out]) | (go_at_call 24; refine (rhValue k HK.out _).mono ?_; rintro e wn ⟨rfl, rfl⟩; rw [hV.out]) | (go_at_call 26; refine (rhInt k HK.out _).mono ?_; rintro e wn ⟨rfl, rfl⟩; rw [hF.out]))
  generalize ((w.alloc (.cells #[.int .u8 0, .int .i64 0, .string ⟨#[]⟩, .slice none 0 0, .int .i64 0] 27)).alloc (.cells #[.int .u8 0, .int .i64 0, .string ⟨#[]⟩, .slice none 0 0, .int .i64 0] 27)).alloc (.cells #[.int .u8 (k : Int), .int .i64 0, .string ⟨#[]⟩, .slice none 0 0, .int .i64 0] 27) = W0 at *
  clear hc2
  have IIR0 := Lib.hid (R0.out.inn II.out)
  have HC0 := Lib.hid (refUint_any W0 (some ad) l.length cap l t0s IIR0.out.bs (by omega) hsz)
  rcases hr0 : Cd.rdUint l t0s with ⟨p, en⟩ | ⟨n0, t0⟩
  · have HS0 := Lib.hid hr0
    have hen : ((en : Int) != 0) = true := by rw [bne_iff_ne]; have := rdUint_errno' hr0; omega
    have HH0 : Hid (shft t0s (Cd.rdUint (l.drop t0s) 0) = .error (p, en)) := Lib.hid (by rw [rdUint_shft (by omega)]; exact hr0)
    clear hr0
    refine HC0.out.mono ?_
    rintro e w' ⟨hs, rfl⟩
    obtain rfl := hs.of_error HS0.out
    have z0 := R0.out.kN.cell 0
    have x0 := R0.out.kX.cell 0
    have fr0 := R0.out.kR.fz 0
    have fx0 := R0.out.kX.fz 0
    have r0 := R0.out.kR.cell 0
    have z1 := R0.out.kN.cell 1
    have x1 := R0.out.kX.cell 1
    have fr1 := R0.out.kR.fz 1
    have fx1 := R0.out.kX.fz 1
    have r1 := R0.out.kR.cell 1
    have z2 := R0.out.kN.cell 2
    have x2 := R0.out.kX.cell 2
    have fr2 := R0.out.kR.fz 2
    have fx2 := R0.out.kX.fz 2
    have r2 := R0.out.kR.cell 2
    have z3 := R0.out.kN.cell 3
    have x3 := R0.out.kX.cell 3
    have fr3 := R0.out.kR.fz 3
    have fx3 := R0.out.kX.fz 3
    have r3 := R0.out.kR.cell 3
    have z4 := R0.out.kN.cell 4
    have x4 := R0.out.kX.cell 4
    have fr4 := R0.out.kR.fz 4
    have fx4 := R0.out.kX.fz 4
    have r4 := R0.out.kR.cell 4
    simp only [List.getElem?_cons_succ, List.getElem?_cons_zero] at z0 z1 z2 z3 z4 x0 x1 x2 x3 x4 r0 r1 r2 r3 r4
    have hRl := R0.out.lt
    have hRl0 : w.heap.size < W0.heap.size := by omega
    have hRl1 : w.heap.size + 1 < W0.heap.size := by omega
    go_wp2_with fail
    refine bodyPost_ret (results_cell_row3 (h := rfl) (g := w.heap.size) (t := 27) (cs := ([.int .u8 0, .int .i64 0, .string ⟨#[]⟩, .slice none 0 0, .int .i64 0] : List Value).toArray) (fr := (0, 0)) (hp := rfl) (hg := R0.out.ret _ _ _ _ _) (hu := Try.underlying27) (hd := rfl) (hi := by kernel_rfl) _ _) rfl ?_
    exact evGets_err (by rw [HEQ.out]; unfold rdEvK; rw [hI.out, hN.out, hV.out, hF.out, ← HT.out]; simp only [opt_no, opt_yes, HH0.out]) (R0.out.retB _ _ _ _ _)
  · have HS0 := Lib.hid hr0
    have ht0 : t0 ≤ l.length := (Cd.rdUint_lt hr0).2.2
    have hb0 : n0 < 18446744073709551616 := (Cd.rdUint_lt hr0).1
    have HH0 : Hid (shft t0s (Cd.rdUint (l.drop t0s) 0) = .ok (n0, t0)) := Lib.hid (by rw [rdUint_shft (by omega)]; exact hr0)
    clear hr0
    refine HC0.out.mono ?_
    rintro e w' ⟨hs, rfl⟩
    obtain rfl := hs.of_ok HS0.out
    clear hs HC0
    unfold u64V
    have z0 := R0.out.kN.cell 0
    have x0 := R0.out.kX.cell 0
    have fr0 := R0.out.kR.fz 0
    have fx0 := R0.out.kX.fz 0
    have r0 := R0.out.kR.cell 0
    have z1 := R0.out.kN.cell 1
    have x1 := R0.out.kX.cell 1
    have fr1 := R0.out.kR.fz 1
    have fx1 := R0.out.kX.fz 1
    have r1 := R0.out.kR.cell 1
    have z2 := R0.out.kN.cell 2
    have x2 := R0.out.kX.cell 2
    have fr2 := R0.out.kR.fz 2
    have fx2 := R0.out.kX.fz 2
    have r2 := R0.out.kR.cell 2
    have z3 := R0.out.kN.cell 3
    have x3 := R0.out.kX.cell 3
    have fr3 := R0.out.kR.fz 3
    have fx3 := R0.out.kX.fz 3
    have r3 := R0.out.kR.cell 3
    have z4 := R0.out.kN.cell 4
    have x4 := R0.out.kX.cell 4
    have fr4 := R0.out.kR.fz 4
    have fx4 := R0.out.kX.fz 4
    have r4 := R0.out.kR.cell 4
    simp only [List.getElem?_cons_succ, List.getElem?_cons_zero] at z0 z1 z2 z3 z4 x0 x1 x2 x3 x4 r0 r1 r2 r3 r4
    have hRl := R0.out.lt
    have hRl0 : w.heap.size < W0.heap.size := by omega
    have hRl1 : w.heap.size + 1 < W0.heap.size := by omega
    rcases Nat.lt_or_ge 500 n0 with hm | hm
    · have hm' : (500 : Int) < (n0 : Int) := by omega
      have HM : Hid (min n0 500 = 500) := Lib.hid (by omega)
      clear hm
      have hR := R0.out.set 1 (.int .i64 500)
      simp only [List.set_cons_succ, List.set_cons_zero] at hR
      have R1 := Lib.hid hR
      have IIR1 := Lib.hid (hR.inn II.out)
      clear hR
      go_wp2_with (first | (go_at_call 20; refine (rhId k HK.out _).mono ?_; rintro e wn ⟨rfl, rfl⟩; rw [hI.out]) | (go_at_call 22; refine (rhName k HK.out _).mono ?_; rintro e wn ⟨rfl, rfl⟩; rw [hN.out]) | (go_at_call 24; refine (rhValue k HK.out _).mono ?_; rintro e wn ⟨rfl, rfl⟩; rw [hV.out]) | (go_at_call 26; refine (rhInt k HK.out _).mono ?_; rintro e wn ⟨rfl, rfl⟩; rw [hF.out]))
      clear r0 r1 r2 r3 r4 z0 z1 z2 z3 z4 x0 x1 x2 x3 x4 fr0 fr1 fr2 fr3 fr4 fx0 fx1 fx2 fx3 fx4 hRl hRl0 hRl1
      generalize W0.setCell ⟨w.heap.size + 1 + 1, 1, none⟩ (.int .i64 500) = W1 at *
      clear R0 IIR0
      have hraw : EvRaw ⟨k, 500, [], [], 0⟩ := ⟨HK.out, (fun h => by rw [hI.out] at h; cases h), (by simp only; omega), (fun h => by rfl), (by simp only [List.length_nil]; omega), (fun h => by rfl), (show I64 0 from ⟨by decide, by decide⟩), (fun h => by rfl), (fun h => (by rw [hV.out] at h; cases h))⟩
      have HRT := Lib.hid (right17_any ⟨k, 500, [], [], 0⟩ hraw none 0 0 W1 (.inl ⟨rfl, rfl⟩))
      clear hraw
      rcases hok : evOk ⟨k, 500, [], [], 0⟩ with _ | _
      · have HOK := Lib.hid hok
        clear hok
        refine HRT.out.mono ?_
        rintro e w9 ⟨rfl, B9⟩
        rw [HOK.out]
        have RE := Lib.hid (R1.out.bel B9)
        clear B9 HRT
        have z0 := RE.out.kN.cell 0
        have x0 := RE.out.kX.cell 0
        have fr0 := RE.out.kR.fz 0
        have fx0 := RE.out.kX.fz 0
        have r0 := RE.out.kR.cell 0
        have z1 := RE.out.kN.cell 1
        have x1 := RE.out.kX.cell 1
        have fr1 := RE.out.kR.fz 1
        have fx1 := RE.out.kX.fz 1
        have r1 := RE.out.kR.cell 1
        have z2 := RE.out.kN.cell 2
        have x2 := RE.out.kX.cell 2
        have fr2 := RE.out.kR.fz 2
        have fx2 := RE.out.kX.fz 2
        have r2 := RE.out.kR.cell 2
        have z3 := RE.out.kN.cell 3
        have x3 := RE.out.kX.cell 3
        have fr3 := RE.out.kR.fz 3
        have fx3 := RE.out.kX.fz 3
        have r3 := RE.out.kR.cell 3
        have z4 := RE.out.kN.cell 4
        have x4 := RE.out.kX.cell 4
        have fr4 := RE.out.kR.fz 4
        have fx4 := RE.out.kX.fz 4
        have r4 := RE.out.kR.cell 4
        simp only [List.getElem?_cons_succ, List.getElem?_cons_zero] at z0 z1 z2 z3 z4 x0 x1 x2 x3 x4 r0 r1 r2 r3 r4
        have hRl := RE.out.lt
        have hRl0 : w.heap.size < w9.heap.size := by omega
        have hRl1 : w.heap.size + 1 < w9.heap.size := by omega
        go_wp2_with fail
        refine bodyPost_ret (results_cell_row3 (h := rfl) (g := w.heap.size) (t := 27) (cs := ([.int .u8 0, .int .i64 0, .string ⟨#[]⟩, .slice none 0 0, .int .i64 0] : List Value).toArray) (fr := (0, 0)) (hp := rfl) (hg := RE.out.ret _ _ _ _ _) (hu := Try.underlying27) (hd := rfl) (hi := by kernel_rfl) _ _) rfl ?_
        exact evGets_err (by rw [HEQ.out]; unfold rdEvK; rw [hI.out, hN.out, hV.out, hF.out, ← HT.out]; simp only [opt_no, opt_yes, HH0.out, HM.out, HOK.out]; rfl) (RE.out.retB _ _ _ _ _)
      · have HOK := Lib.hid hok
        clear hok
        refine HRT.out.mono ?_
        rintro e w9 ⟨rfl, B9⟩
        rw [HOK.out]
        have RE := Lib.hid (R1.out.bel B9)
        clear B9 HRT
        have z0 := RE.out.kN.cell 0
        have x0 := RE.out.kX.cell 0
        have fr0 := RE.out.kR.fz 0
        have fx0 := RE.out.kX.fz 0
        have r0 := RE.out.kR.cell 0
        have z1 := RE.out.kN.cell 1
        have x1 := RE.out.kX.cell 1
        have fr1 := RE.out.kR.fz 1
        have fx1 := RE.out.kX.fz 1
        have r1 := RE.out.kR.cell 1
        have z2 := RE.out.kN.cell 2
        have x2 := RE.out.kX.cell 2
        have fr2 := RE.out.kR.fz 2
        have fx2 := RE.out.kX.fz 2
        have r2 := RE.out.kR.cell 2
        have z3 := RE.out.kN.cell 3
        have x3 := RE.out.kX.cell 3
        have fr3 := RE.out.kR.fz 3
        have fx3 := RE.out.kX.fz 3
        have r3 := RE.out.kR.cell 3
        have z4 := RE.out.kN.cell 4
        have x4 := RE.out.kX.cell 4
        have fr4 := RE.out.kR.fz 4
        have fx4 := RE.out.kX.fz 4
        have r4 := RE.out.kR.cell 4
        simp only [List.getElem?_cons_succ, List.getElem?_cons_zero] at z0 z1 z2 z3 z4 x0 x1 x2 x3 x4 r0 r1 r2 r3 r4
        have hRl := RE.out.lt
        have hRl0 : w.heap.size < w9.heap.size := by omega
        have hRl1 : w.heap.size + 1 < w9.heap.size := by omega
        go_wp2_with fail
        have hres : rdEv l a = .ok (⟨k, 500, [], [], 0⟩, t0) := by rw [HEQ.out]; unfold rdEvK; rw [hI.out, hN.out, hV.out, hF.out, ← HT.out]; simp only [opt_no, opt_yes, HH0.out, HM.out, HOK.out]; rfl
        rw [hres]
        refine bodyPost_ret (results_cell_row3 (h := rfl) (g := w.heap.size) (t := 27) (cs := ([.int .u8 (k : Int), .int .i64 500, .string ⟨#[]⟩, .slice none 0 0, .int .i64 0] : List Value).toArray) (fr := (0, 0)) (hp := rfl) (hg := RE.out.ret _ _ _ _ _) (hu := Try.underlying27) (hd := rfl) (hi := by kernel_rfl) _ _) rfl ?_
        exact ⟨⟨none, 0, rfl, World.ownsRow_nil _ _ _ _⟩, RE.out.retB _ _ _ _ _⟩
    · have hm' : (n0 : Int) ≤ 500 := by omega
      have HM : Hid (min n0 500 = n0) := Lib.hid (by omega)
      clear hm
      have hR := R0.out.set 1 (.int .i64 (n0 : Int))
      simp only [List.set_cons_succ, List.set_cons_zero] at hR
      have R1 := Lib.hid hR
      have IIR1 := Lib.hid (hR.inn II.out)
      clear hR
      go_wp2_with (first | (go_at_call 20; refine (rhId k HK.out _).mono ?_; rintro e wn ⟨rfl, rfl⟩; rw [hI.out]) | (go_at_call 22; refine (rhName k HK.out _).mono ?_; rintro e wn ⟨rfl, rfl⟩; rw [hN.out]) | (go_at_call 24; refine (rhValue k HK.out _).mono ?_; rintro e wn ⟨rfl, rfl⟩; rw [hV.out]) | (go_at_call 26; refine (rhInt k HK.out _).mono ?_; rintro e wn ⟨rfl, rfl⟩; rw [hF.out]))
      clear r0 r1 r2 r3 r4 z0 z1 z2 z3 z4 x0 x1 x2 x3 x4 fr0 fr1 fr2 fr3 fr4 fx0 fx1 fx2 fx3 fx4 hRl hRl0 hRl1
      generalize W0.setCell ⟨w.heap.size + 1 + 1, 1, none⟩ (.int .i64 (n0 : Int)) = W1 at *
      clear R0 IIR0
      have hraw : EvRaw ⟨k, n0, [], [], 0⟩ := ⟨HK.out, (fun h => by rw [hI.out] at h; cases h), (by simp only; omega), (fun h => by rfl), (by simp only [List.length_nil]; omega), (fun h => by rfl), (show I64 0 from ⟨by decide, by decide⟩), (fun h => by rfl), (fun h => (by rw [hV.out] at h; cases h))⟩
      have HRT := Lib.hid (right17_any ⟨k, n0, [], [], 0⟩ hraw none 0 0 W1 (.inl ⟨rfl, rfl⟩))
      clear hraw
      rcases hok : evOk ⟨k, n0, [], [], 0⟩ with _ | _
      · have HOK := Lib.hid hok
        clear hok
        refine HRT.out.mono ?_
        rintro e w9 ⟨rfl, B9⟩
        rw [HOK.out]
        have RE := Lib.hid (R1.out.bel B9)
        clear B9 HRT
        have z0 := RE.out.kN.cell 0
        have x0 := RE.out.kX.cell 0
        have fr0 := RE.out.kR.fz 0
        have fx0 := RE.out.kX.fz 0
        have r0 := RE.out.kR.cell 0
        have z1 := RE.out.kN.cell 1
        have x1 := RE.out.kX.cell 1
        have fr1 := RE.out.kR.fz 1
        have fx1 := RE.out.kX.fz 1
        have r1 := RE.out.kR.cell 1
        have z2 := RE.out.kN.cell 2
        have x2 := RE.out.kX.cell 2
        have fr2 := RE.out.kR.fz 2
        have fx2 := RE.out.kX.fz 2
        have r2 := RE.out.kR.cell 2
        have z3 := RE.out.kN.cell 3
        have x3 := RE.out.kX.cell 3
        have fr3 := RE.out.kR.fz 3
        have fx3 := RE.out.kX.fz 3
        have r3 := RE.out.kR.cell 3
        have z4 := RE.out.kN.cell 4
        have x4 := RE.out.kX.cell 4
        have fr4 := RE.out.kR.fz 4
        have fx4 := RE.out.kX.fz 4
        have r4 := RE.out.kR.cell 4
        simp only [List.getElem?_cons_succ, List.getElem?_cons_zero] at z0 z1 z2 z3 z4 x0 x1 x2 x3 x4 r0 r1 r2 r3 r4
        have hRl := RE.out.lt
        have hRl0 : w.heap.size < w9.heap.size := by omega
        have hRl1 : w.heap.size + 1 < w9.heap.size := by omega
        go_wp2_with fail
        refine bodyPost_ret (results_cell_row3 (h := rfl) (g := w.heap.size) (t := 27) (cs := ([.int .u8 0, .int .i64 0, .string ⟨#[]⟩, .slice none 0 0, .int .i64 0] : List Value).toArray) (fr := (0, 0)) (hp := rfl) (hg := RE.out.ret _ _ _ _ _) (hu := Try.underlying27) (hd := rfl) (hi := by kernel_rfl) _ _) rfl ?_
        exact evGets_err (by rw [HEQ.out]; unfold rdEvK; rw [hI.out, hN.out, hV.out, hF.out, ← HT.out]; simp only [opt_no, opt_yes, HH0.out, HM.out, HOK.out]; rfl) (RE.out.retB _ _ _ _ _)
      · have HOK := Lib.hid hok
        clear hok
        refine HRT.out.mono ?_
        rintro e w9 ⟨rfl, B9⟩
        rw [HOK.out]
        have RE := Lib.hid (R1.out.bel B9)
        clear B9 HRT
        have z0 := RE.out.kN.cell 0
        have x0 := RE.out.kX.cell 0
        have fr0 := RE.out.kR.fz 0
        have fx0 := RE.out.kX.fz 0
        have r0 := RE.out.kR.cell 0
        have z1 := RE.out.kN.cell 1
        have x1 := RE.out.kX.cell 1
        have fr1 := RE.out.kR.fz 1
        have fx1 := RE.out.kX.fz 1
        have r1 := RE.out.kR.cell 1
        have z2 := RE.out.kN.cell 2
        have x2 := RE.out.kX.cell 2
        have fr2 := RE.out.kR.fz 2
        have fx2 := RE.out.kX.fz 2
        have r2 := RE.out.kR.cell 2
        have z3 := RE.out.kN.cell 3
        have x3 := RE.out.kX.cell 3
        have fr3 := RE.out.kR.fz 3
        have fx3 := RE.out.kX.fz 3
        have r3 := RE.out.kR.cell 3
        have z4 := RE.out.kN.cell 4
        have x4 := RE.out.kX.cell 4
        have fr4 := RE.out.kR.fz 4
        have fx4 := RE.out.kX.fz 4
        have r4 := RE.out.kR.cell 4
        simp only [List.getElem?_cons_succ, List.getElem?_cons_zero] at z0 z1 z2 z3 z4 x0 x1 x2 x3 x4 r0 r1 r2 r3 r4
        have hRl := RE.out.lt
        have hRl0 : w.heap.size < w9.heap.size := by omega
        have hRl1 : w.heap.size + 1 < w9.heap.size := by omega
        go_wp2_with fail
        have hres : rdEv l a = .ok (⟨k, n0, [], [], 0⟩, t0) := by rw [HEQ.out]; unfold rdEvK; rw [hI.out, hN.out, hV.out, hF.out, ← HT.out]; simp only [opt_no, opt_yes, HH0.out, HM.out, HOK.out]; rfl
        rw [hres]
        refine bodyPost_ret (results_cell_row3 (h := rfl) (g := w.heap.size) (t := 27) (cs := ([.int .u8 (k : Int), .int .i64 (n0 : Int), .string ⟨#[]⟩, .slice none 0 0, .int .i64 0] : List Value).toArray) (fr := (0, 0)) (hp := rfl) (hg := RE.out.ret _ _ _ _ _) (hu := Try.underlying27) (hd := rfl) (hi := by kernel_rfl) _ _) rfl ?_
        exact ⟨⟨none, 0, rfl, World.ownsRow_nil _ _ _ _⟩, RE.out.retB _ _ _ _ _⟩

set_option maxRecDepth 20000 in
set_option maxHeartbeats 8000000 in
theorem rvRead_NV (w : World) (A : Option Addr) (len cap : Nat) (l : List UInt8) (a k : Nat) (h : In w A len cap l) (hsz : l.length ≤ 1000000) (ha : a < l.length) (hkl : l[a].toNat = k) (hk : 1 ≤ k ∧ k ≤ 12) (hi : hasId k = false) (hn : hasName k = true) (hv : hasValue k = true) (hf : hasInt k = false) :
    Calls Try.prog 8 #[.slice A len cap, .int .i64 (a : Int)] w (EvGets w (rdEv l a)) := by
  have HEQ := Lib.hid (rdEv_kind ha hkl hk)
  obtain rfl := h.bs.len
  obtain ⟨ad, rfl, hlt, hc⟩ := h.bs.cell a ha
  rw [hkl] at hc
  have hc2 : ∀ o1 o2 : Obj, ((w.alloc o1).alloc o2).cell? (ad.add a) = some (.int .u8 (k : Int)) := fun o1 o2 =>
    (World.cell?_of_block (w := w) ((((Below.refl w.heap.size w).alloc (Nat.le_refl _) o1).alloc (by simp) o2).block _ (World.block_lt_of_cell? w _ hc))).trans hc
  have II := Lib.hid h
  have hl1 : ¬ ((l.length : Int) ≤ (a : Int)) := by omega
  have hl2 : ¬ (l.length ≤ a) := by omega
  have hl3 : (l.length : Int) ≤ 1000000 := by omega
  have hl4 : (a : Int) < (l.length : Int) := by omega
  have hl5 : (l.length : Int) ≤ (cap : Int) := by have := h.cap_le; omega
  have hk1 : ¬ ((k : Int) < 1) := by omega
  have hk2 : ¬ ((12 : Int) < (k : Int)) := by omega
  have hk3 : ¬ (k < 1) := by omega
  have hk4 : ¬ (12 < k) := by omega
  have HK := Lib.hid hk
  have hI := Lib.hid hi
  have hN := Lib.hid hn
  have hV := Lib.hid hv
  have hF := Lib.hid hf
  have HM0 : Hid (min 0 500 = 0) := Lib.hid rfl
  obtain ⟨t0s, ht0s⟩ : ∃ t, t = a + 1 := ⟨_, rfl⟩
  have hadd : (a : Int) + 1 = (t0s : Int) := by omega
  have hts : t0s ≤ l.length := by omega
  rw [show rdEvK l a k = rdEvK l a k from rfl] at HEQ
  have HT := Lib.hid ht0s
  clear hk hi hn hv hf ht0s
  have hR0 : RV w (((w.alloc (.cells #[.int .u8 0, .int .i64 0, .string ⟨#[]⟩, .slice none 0 0, .int .i64 0] 27)).alloc (.cells #[.int .u8 0, .int .i64 0, .string ⟨#[]⟩, .slice none 0 0, .int .i64 0] 27)).alloc (.cells #[.int .u8 (k : Int), .int .i64 0, .string ⟨#[]⟩, .slice none 0 0, .int .i64 0] 27)) [.int .u8 (k : Int), .int .i64 0, .string ⟨#[]⟩, .slice none 0 0, .int .i64 0] :=
    ⟨(Blk.alloc (Blk.new w 27 [.int .u8 0, .int .i64 0, .string ⟨#[]⟩, .slice none 0 0, .int .i64 0]) _).alloc _, by have := Blk.alloc (Blk.new (w.alloc (.cells #[.int .u8 0, .int .i64 0, .string ⟨#[]⟩, .slice none 0 0, .int .i64 0] 27)) 27 [.int .u8 0, .int .i64 0, .string ⟨#[]⟩, .slice none 0 0, .int .i64 0]) (.cells #[.int .u8 (k : Int), .int .i64 0, .string ⟨#[]⟩, .slice none 0 0, .int .i64 0] 27); rwa [World.size_alloc] at this,
      by have := Blk.new ((w.alloc (.cells #[.int .u8 0, .int .i64 0, .string ⟨#[]⟩, .slice none 0 0, .int .i64 0] 27)).alloc (.cells #[.int .u8 0, .int .i64 0, .string ⟨#[]⟩, .slice none 0 0, .int .i64 0] 27)) 27 [.int .u8 (k : Int), .int .i64 0, .string ⟨#[]⟩, .slice none 0 0, .int .i64 0]; rwa [World.size_alloc, World.size_alloc] at this,
      (((Below.refl w.heap.size w).alloc (Nat.le_refl _) _).alloc (by simp) _).alloc (by simp; omega) _⟩
  have R0 := Lib.hid hR0
  clear h hc hkl hR0
  go_enter Try.func8, Try.ntmps8
  go_wp2_with (first | (go_at_call 20; refine (rhId k HK.out _).mono ?_; rintro e wn ⟨rfl, rfl⟩; rw [hI.out]) | (go_at_call 22; refine (rhName k HK.out _).mono ?_; rintro e wn ⟨rfl, rfl⟩; rw [hN.out]) | (go_at_call 24; refine (rhValue k HK.out _).mono ?_; rintro e wn ⟨rfl, rfl⟩; rw [hV.out]) | (go_at_call 26; refine (rhInt k HK.out _).mono ?_; rintro e wn ⟨rfl, rfl⟩; rw [hF.out]))
  generalize ((w.alloc (.cells #[.int .u8 0, .int .i64 0, .string ⟨#[]⟩, .slice none 0 0, .int .i64 0] 27)).alloc (.cells #[.int .u8 0, .int .i64 0, .string ⟨#[]⟩, .slice none 0 0, .int .i64 0] 27)).alloc (.cells #[.int .u8 (k : Int), .int .i64 0, .string ⟨#[]⟩, .slice none 0 0, .int .i64 0] 27) = W0 at *
  clear hc2
  have IIR0 := Lib.hid (R0.out.inn II.out)
  have HC1 := Lib.hid (refText_any W0 (some ad) l.length cap l t0s IIR0.out.bs IIR0.out.cap_le.1 (by omega) hsz)
  rcases hr1 : Cd.rdText l t0s with ⟨p, en⟩ | ⟨n1, t1⟩
  · have HS1 := Lib.hid hr1
    have hen : ((en : Int) != 0) = true := by rw [bne_iff_ne]; have := rdText_errno hr1; omega
    have HH1 : Hid (shft t0s (Cd.rdText (l.drop t0s) 0) = .error (p, en)) := Lib.hid (by rw [rdText_shft (by omega)]; exact hr1)
    clear hr1
    refine HC1.out.mono ?_
    rintro e w' ⟨hs, rfl⟩
    obtain rfl := hs.of_error HS1.out
    have z0 := R0.out.kN.cell 0
    have x0 := R0.out.kX.cell 0
    have fr0 := R0.out.kR.fz 0
    have fx0 := R0.out.kX.fz 0
    have r0 := R0.out.kR.cell 0
    have z1 := R0.out.kN.cell 1
    have x1 := R0.out.kX.cell 1
    have fr1 := R0.out.kR.fz 1
    have fx1 := R0.out.kX.fz 1
    have r1 := R0.out.kR.cell 1
    have z2 := R0.out.kN.cell 2
    have x2 := R0.out.kX.cell 2
    have fr2 := R0.out.kR.fz 2
    have fx2 := R0.out.kX.fz 2
    have r2 := R0.out.kR.cell 2
    have z3 := R0.out.kN.cell 3
    have x3 := R0.out.kX.cell 3
    have fr3 := R0.out.kR.fz 3
    have fx3 := R0.out.kX.fz 3
    have r3 := R0.out.kR.cell 3
    have z4 := R0.out.kN.cell 4
    have x4 := R0.out.kX.cell 4
    have fr4 := R0.out.kR.fz 4
    have fx4 := R0.out.kX.fz 4
    have r4 := R0.out.kR.cell 4
    simp only [List.getElem?_cons_succ, List.getElem?_cons_zero] at z0 z1 z2 z3 z4 x0 x1 x2 x3 x4 r0 r1 r2 r3 r4
    have hRl := R0.out.lt
    have hRl0 : w.heap.size < W0.heap.size := by omega
    have hRl1 : w.heap.size + 1 < W0.heap.size := by omega
    go_wp2_with fail
    refine bodyPost_ret (results_cell_row3 (h := rfl) (g := w.heap.size) (t := 27) (cs := ([.int .u8 0, .int .i64 0, .string ⟨#[]⟩, .slice none 0 0, .int .i64 0] : List Value).toArray) (fr := (0, 0)) (hp := rfl) (hg := R0.out.ret _ _ _ _ _) (hu := Try.underlying27) (hd := rfl) (hi := by kernel_rfl) _ _) rfl ?_
    exact evGets_err (by rw [HEQ.out]; unfold rdEvK; rw [hI.out, hN.out, hV.out, hF.out, ← HT.out]; simp only [opt_no, opt_yes, HH1.out]) (R0.out.retB _ _ _ _ _)
  · have HS1 := Lib.hid hr1
    have ht1 : t1 ≤ l.length := rdText_le hr1
    have hb1 : n1.length ≤ l.length := rdText_len hr1
    have HH1 : Hid (shft t0s (Cd.rdText (l.drop t0s) 0) = .ok (n1, t1)) := Lib.hid (by rw [rdText_shft (by omega)]; exact hr1)
    clear hr1
    refine HC1.out.mono ?_
    rintro e w' ⟨hs, rfl⟩
    obtain rfl := hs.of_ok HS1.out
    clear hs HC1
    unfold strV
    have z0 := R0.out.kN.cell 0
    have x0 := R0.out.kX.cell 0
    have fr0 := R0.out.kR.fz 0
    have fx0 := R0.out.kX.fz 0
    have r0 := R0.out.kR.cell 0
    have z1 := R0.out.kN.cell 1
    have x1 := R0.out.kX.cell 1
    have fr1 := R0.out.kR.fz 1
    have fx1 := R0.out.kX.fz 1
    have r1 := R0.out.kR.cell 1
    have z2 := R0.out.kN.cell 2
    have x2 := R0.out.kX.cell 2
    have fr2 := R0.out.kR.fz 2
    have fx2 := R0.out.kX.fz 2
    have r2 := R0.out.kR.cell 2
    have z3 := R0.out.kN.cell 3
    have x3 := R0.out.kX.cell 3
    have fr3 := R0.out.kR.fz 3
    have fx3 := R0.out.kX.fz 3
    have r3 := R0.out.kR.cell 3
    have z4 := R0.out.kN.cell 4
    have x4 := R0.out.kX.cell 4
    have fr4 := R0.out.kR.fz 4
    have fx4 := R0.out.kX.fz 4
    have r4 := R0.out.kR.cell 4
    simp only [List.getElem?_cons_succ, List.getElem?_cons_zero] at z0 z1 z2 z3 z4 x0 x1 x2 x3 x4 r0 r1 r2 r3 r4
    have hRl := R0.out.lt
    have hRl0 : w.heap.size < W0.heap.size := by omega
    have hRl1 : w.heap.size + 1 < W0.heap.size := by omega
    have hR := R0.out.set 2 (.string ⟨n1.toArray⟩)
    simp only [List.set_cons_succ, List.set_cons_zero] at hR
    have R2 := Lib.hid hR
    have IIR2 := Lib.hid (hR.inn II.out)
    clear hR
    obtain ⟨A', hA'⟩ : ∃ A', (if cap = t1 then some ad else some (ad.add t1)) = A' := ⟨_, rfl⟩
    go_wp2_with (first | (go_at_call 20; refine (rhId k HK.out _).mono ?_; rintro e wn ⟨rfl, rfl⟩; rw [hI.out]) | (go_at_call 22; refine (rhName k HK.out _).mono ?_; rintro e wn ⟨rfl, rfl⟩; rw [hN.out]) | (go_at_call 24; refine (rhValue k HK.out _).mono ?_; rintro e wn ⟨rfl, rfl⟩; rw [hV.out]) | (go_at_call 26; refine (rhInt k HK.out _).mono ?_; rintro e wn ⟨rfl, rfl⟩; rw [hF.out]))
    clear r0 r1 r2 r3 r4 z0 z1 z2 z3 z4 x0 x1 x2 x3 x4 fr0 fr1 fr2 fr3 fr4 fx0 fx1 fx2 fx3 fx4 hRl hRl0 hRl1
    generalize W0.setCell ⟨w.heap.size + 1 + 1, 2, none⟩ (.string ⟨n1.toArray⟩) = W2 at *
    clear R0 IIR0
    have hid2 : In W2 A' (l.length - t1) (cap - t1) (l.drop t1) := by rw [← hA']; exact in_drop IIR2.out (by omega)
    clear hA'
    have HC2 := Lib.hid (refValue_any W2 _ _ _ (l.drop t1) hid2 (by simp; omega))
    clear hid2
    rcases hr2 : rdValue (l.drop t1) with ⟨p, en⟩ | ⟨n2, t2⟩
    · have hen : ((en : Int) != 0) = true := by rw [bne_iff_ne]; have := rdValue_errno hr2; omega
      have hpl := (rdValue_er hr2).1
      rw [List.length_drop] at hpl
      have HH2 : Hid (shft t1 (rdValue (l.drop t1)) = .error (t1 + p, en)) := Lib.hid (by rw [hr2]; rfl)
      have HR2 := Lib.hid hr2
      clear hr2
      obtain ⟨q, hq⟩ : ∃ q, q = t1 + p := ⟨_, rfl⟩
      have hq2 : (t1 : Int) + (p : Int) = (q : Int) := by omega
      rw [← hq] at HH2
      have hq3 : (q : Int) ≤ 1000000 := by omega
      clear hq hpl
      refine HC2.out.mono ?_
      rintro e w2 ⟨he, B2⟩
      rw [HR2.out] at he
      obtain rfl := he
      have RE := Lib.hid (R2.out.bel B2)
      clear B2 HC2
      have z0 := RE.out.kN.cell 0
      have x0 := RE.out.kX.cell 0
      have fr0 := RE.out.kR.fz 0
      have fx0 := RE.out.kX.fz 0
      have r0 := RE.out.kR.cell 0
      have z1 := RE.out.kN.cell 1
      have x1 := RE.out.kX.cell 1
      have fr1 := RE.out.kR.fz 1
      have fx1 := RE.out.kX.fz 1
      have r1 := RE.out.kR.cell 1
      have z2 := RE.out.kN.cell 2
      have x2 := RE.out.kX.cell 2
      have fr2 := RE.out.kR.fz 2
      have fx2 := RE.out.kX.fz 2
      have r2 := RE.out.kR.cell 2
      have z3 := RE.out.kN.cell 3
      have x3 := RE.out.kX.cell 3
      have fr3 := RE.out.kR.fz 3
      have fx3 := RE.out.kX.fz 3
      have r3 := RE.out.kR.cell 3
      have z4 := RE.out.kN.cell 4
      have x4 := RE.out.kX.cell 4
      have fr4 := RE.out.kR.fz 4
      have fx4 := RE.out.kX.fz 4
      have r4 := RE.out.kR.cell 4
      simp only [List.getElem?_cons_succ, List.getElem?_cons_zero] at z0 z1 z2 z3 z4 x0 x1 x2 x3 x4 r0 r1 r2 r3 r4
      have hRl := RE.out.lt
      have hRl0 : w.heap.size < w2.heap.size := by omega
      have hRl1 : w.heap.size + 1 < w2.heap.size := by omega
      go_wp2_with fail
      refine bodyPost_ret (results_cell_row3 (h := rfl) (g := w.heap.size) (t := 27) (cs := ([.int .u8 0, .int .i64 0, .string ⟨#[]⟩, .slice none 0 0, .int .i64 0] : List Value).toArray) (fr := (0, 0)) (hp := rfl) (hg := RE.out.ret _ _ _ _ _) (hu := Try.underlying27) (hd := rfl) (hi := by kernel_rfl) _ _) rfl ?_
      exact evGets_err (by rw [HEQ.out]; unfold rdEvK; rw [hI.out, hN.out, hV.out, hF.out, ← HT.out]; simp only [opt_no, opt_yes, HH1.out, HH2.out]) (RE.out.retB _ _ _ _ _)
    · have ht2 : t2 ≤ l.length - t1 := by have := rdValue_le hr2; rwa [List.length_drop] at this
      obtain ⟨sz, hvi⟩ := rdValue_inv hr2
      have HVO := Lib.hid (show ValOk n2 ∧ ∀ y ∈ n2, I64 y.int from ⟨hvi.valOk, fun y hy => (hvi.ok y hy).2.1⟩)
      clear hvi
      have HH2 : Hid (shft t1 (rdValue (l.drop t1)) = .ok (n2, t1 + t2)) := Lib.hid (by rw [hr2]; rfl)
      have HR2 := Lib.hid hr2
      clear hr2
      obtain ⟨q, hq⟩ : ∃ q, q = t1 + t2 := ⟨_, rfl⟩
      have hq2 : (t1 : Int) + (t2 : Int) = (q : Int) := by omega
      rw [← hq] at HH2
      have hq3 : q ≤ l.length := by omega
      have hq4 : (q : Int) ≤ 1000000 := by omega
      clear hq ht2
      refine HC2.out.mono ?_
      rintro e w2 ⟨he, B2⟩
      rw [HR2.out] at he
      obtain ⟨v2, rfl, ho2⟩ := he
      obtain ⟨A2, c2, rfl⟩ := own_slice ho2
      have RE := Lib.hid (R2.out.bel B2)
      have hO2 := ho2.mono (base' := W2.heap.size) (Nat.le_refl _)
      have hWl := R2.out.lt
      have HOa := Lib.hid (World.ownsRow.mono (base' := w.heap.size + 1 + 1 + 1) ho2 (by omega))
      clear B2 HC2 ho2 hO2 hWl
      have z0 := RE.out.kN.cell 0
      have x0 := RE.out.kX.cell 0
      have fr0 := RE.out.kR.fz 0
      have fx0 := RE.out.kX.fz 0
      have r0 := RE.out.kR.cell 0
      have z1 := RE.out.kN.cell 1
      have x1 := RE.out.kX.cell 1
      have fr1 := RE.out.kR.fz 1
      have fx1 := RE.out.kX.fz 1
      have r1 := RE.out.kR.cell 1
      have z2 := RE.out.kN.cell 2
      have x2 := RE.out.kX.cell 2
      have fr2 := RE.out.kR.fz 2
      have fx2 := RE.out.kX.fz 2
      have r2 := RE.out.kR.cell 2
      have z3 := RE.out.kN.cell 3
      have x3 := RE.out.kX.cell 3
      have fr3 := RE.out.kR.fz 3
      have fx3 := RE.out.kX.fz 3
      have r3 := RE.out.kR.cell 3
      have z4 := RE.out.kN.cell 4
      have x4 := RE.out.kX.cell 4
      have fr4 := RE.out.kR.fz 4
      have fx4 := RE.out.kX.fz 4
      have r4 := RE.out.kR.cell 4
      simp only [List.getElem?_cons_succ, List.getElem?_cons_zero] at z0 z1 z2 z3 z4 x0 x1 x2 x3 x4 r0 r1 r2 r3 r4
      have hRl := RE.out.lt
      have hRl0 : w.heap.size < w2.heap.size := by omega
      have hRl1 : w.heap.size + 1 < w2.heap.size := by omega
      have hR := RE.out.set 3 (.slice A2 n2.length c2)
      simp only [List.set_cons_succ, List.set_cons_zero] at hR
      have R3 := Lib.hid hR
      have IIR3 := Lib.hid (hR.inn II.out)
      clear hR
      go_wp2_with (first | (go_at_call 20; refine (rhId k HK.out _).mono ?_; rintro e wn ⟨rfl, rfl⟩; rw [hI.out]) | (go_at_call 22; refine (rhName k HK.out _).mono ?_; rintro e wn ⟨rfl, rfl⟩; rw [hN.out]) | (go_at_call 24; refine (rhValue k HK.out _).mono ?_; rintro e wn ⟨rfl, rfl⟩; rw [hV.out]) | (go_at_call 26; refine (rhInt k HK.out _).mono ?_; rintro e wn ⟨rfl, rfl⟩; rw [hF.out]))
      clear r0 r1 r2 r3 r4 z0 z1 z2 z3 z4 x0 x1 x2 x3 x4 fr0 fr1 fr2 fr3 fr4 fx0 fx1 fx2 fx3 fx4 hRl hRl0 hRl1
      have HO2 := Lib.hid (own_set (b := w.heap.size + 1 + 1) (j := 3) (u := .slice A2 n2.length c2) HOa.out (by omega))
      clear HOa
      generalize w2.setCell ⟨w.heap.size + 1 + 1, 3, none⟩ (.slice A2 n2.length c2) = W3 at *
      clear RE R2 IIR2
      have hraw : EvRaw ⟨k, 0, n1, n2, 0⟩ := ⟨HK.out, (fun h => by rfl), (by simp only; omega), (fun h => by rw [hN.out] at h; cases h), (by simp only [List.length_nil]; omega), (fun h => by rfl), (show I64 0 from ⟨by decide, by decide⟩), (fun h => by rw [hV.out] at h; cases h), (fun h => HVO.out)⟩
      have HRT := Lib.hid (right17_any ⟨k, 0, n1, n2, 0⟩ hraw A2 n2.length c2 W3 (vin_own HO2.out))
      clear hraw
      rcases hok : evOk ⟨k, 0, n1, n2, 0⟩ with _ | _
      · have HOK := Lib.hid hok
        clear hok
        refine HRT.out.mono ?_
        rintro e w9 ⟨rfl, B9⟩
        rw [HOK.out]
        have RE := Lib.hid (R3.out.bel B9)
        clear B9 HRT
        have z0 := RE.out.kN.cell 0
        have x0 := RE.out.kX.cell 0
        have fr0 := RE.out.kR.fz 0
        have fx0 := RE.out.kX.fz 0
        have r0 := RE.out.kR.cell 0
        have z1 := RE.out.kN.cell 1
        have x1 := RE.out.kX.cell 1
        have fr1 := RE.out.kR.fz 1
        have fx1 := RE.out.kX.fz 1
        have r1 := RE.out.kR.cell 1
        have z2 := RE.out.kN.cell 2
        have x2 := RE.out.kX.cell 2
        have fr2 := RE.out.kR.fz 2
        have fx2 := RE.out.kX.fz 2
        have r2 := RE.out.kR.cell 2
        have z3 := RE.out.kN.cell 3
        have x3 := RE.out.kX.cell 3
        have fr3 := RE.out.kR.fz 3
        have fx3 := RE.out.kX.fz 3
        have r3 := RE.out.kR.cell 3
        have z4 := RE.out.kN.cell 4
        have x4 := RE.out.kX.cell 4
        have fr4 := RE.out.kR.fz 4
        have fx4 := RE.out.kX.fz 4
        have r4 := RE.out.kR.cell 4
        simp only [List.getElem?_cons_succ, List.getElem?_cons_zero] at z0 z1 z2 z3 z4 x0 x1 x2 x3 x4 r0 r1 r2 r3 r4
        have hRl := RE.out.lt
        have hRl0 : w.heap.size < w9.heap.size := by omega
        have hRl1 : w.heap.size + 1 < w9.heap.size := by omega
        go_wp2_with fail
        refine bodyPost_ret (results_cell_row3 (h := rfl) (g := w.heap.size) (t := 27) (cs := ([.int .u8 0, .int .i64 0, .string ⟨#[]⟩, .slice none 0 0, .int .i64 0] : List Value).toArray) (fr := (0, 0)) (hp := rfl) (hg := RE.out.ret _ _ _ _ _) (hu := Try.underlying27) (hd := rfl) (hi := by kernel_rfl) _ _) rfl ?_
        exact evGets_err (by rw [HEQ.out]; unfold rdEvK; rw [hI.out, hN.out, hV.out, hF.out, ← HT.out]; simp only [opt_no, opt_yes, HH1.out, HH2.out, HM0.out, HOK.out]; rfl) (RE.out.retB _ _ _ _ _)
      · have HOK := Lib.hid hok
        clear hok
        refine HRT.out.mono ?_
        rintro e w9 ⟨rfl, B9⟩
        rw [HOK.out]
        have RE := Lib.hid (R3.out.bel B9)
        have HO9 := Lib.hid (own_below HO2.out B9)
        clear B9 HRT
        have z0 := RE.out.kN.cell 0
        have x0 := RE.out.kX.cell 0
        have fr0 := RE.out.kR.fz 0
        have fx0 := RE.out.kX.fz 0
        have r0 := RE.out.kR.cell 0
        have z1 := RE.out.kN.cell 1
        have x1 := RE.out.kX.cell 1
        have fr1 := RE.out.kR.fz 1
        have fx1 := RE.out.kX.fz 1
        have r1 := RE.out.kR.cell 1
        have z2 := RE.out.kN.cell 2
        have x2 := RE.out.kX.cell 2
        have fr2 := RE.out.kR.fz 2
        have fx2 := RE.out.kX.fz 2
        have r2 := RE.out.kR.cell 2
        have z3 := RE.out.kN.cell 3
        have x3 := RE.out.kX.cell 3
        have fr3 := RE.out.kR.fz 3
        have fx3 := RE.out.kX.fz 3
        have r3 := RE.out.kR.cell 3
        have z4 := RE.out.kN.cell 4
        have x4 := RE.out.kX.cell 4
        have fr4 := RE.out.kR.fz 4
        have fx4 := RE.out.kX.fz 4
        have r4 := RE.out.kR.cell 4
        simp only [List.getElem?_cons_succ, List.getElem?_cons_zero] at z0 z1 z2 z3 z4 x0 x1 x2 x3 x4 r0 r1 r2 r3 r4
        have hRl := RE.out.lt
        have hRl0 : w.heap.size < w9.heap.size := by omega
        have hRl1 : w.heap.size + 1 < w9.heap.size := by omega
        go_wp2_with fail
        have hres : rdEv l a = .ok (⟨k, 0, n1, n2, 0⟩, q) := by rw [HEQ.out]; unfold rdEvK; rw [hI.out, hN.out, hV.out, hF.out, ← HT.out]; simp only [opt_no, opt_yes, HH1.out, HH2.out, HM0.out, HOK.out]; rfl
        rw [hres]
        refine bodyPost_ret (results_cell_row3 (h := rfl) (g := w.heap.size) (t := 27) (cs := ([.int .u8 (k : Int), .int .i64 0, .string ⟨n1.toArray⟩, .slice A2 n2.length c2, .int .i64 0] : List Value).toArray) (fr := (0, 0)) (hp := rfl) (hg := RE.out.ret _ _ _ _ _) (hu := Try.underlying27) (hd := rfl) (hi := by kernel_rfl) _ _) rfl ?_
        exact ⟨⟨A2, c2, rfl, World.ownsRow.mono (base := w.heap.size + 1 + 1 + 1) (own_set5 HO9.out (by omega) _ _ _ _ _) (by omega)⟩, RE.out.retB _ _ _ _ _⟩
end Go.Proofs.Yticipdjfkpakpaa
