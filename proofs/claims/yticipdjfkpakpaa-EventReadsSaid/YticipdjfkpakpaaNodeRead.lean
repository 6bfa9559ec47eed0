/- The reader's value: what it reads is what the plain words say. -/
import Derived.Test.YticipdjfkpakpaaNodeSpec
import Derived.Test.YticipdjfkpakpaaCodeAsk
import Derived.Lib.Hide
import Derived.Deep.CutBlock
namespace Go.Proofs.Yticipdjfkpakpaa
open Go.RowKit

theorem run_store_cx (P : Program) (w : World) (a : Addr) (m : Mode) (k : FloatKind) (x y : Nat) : (store a (.complex k x y) m).run P w = stored P w a (.complex k x y) m := run_store P w a _ m rfl
attribute [local go_sem] run_store_cx

theorem info_nd : (Try.prog.info? 40).map (fun i => (i.zero, i.size, i.bytes)) = some (some (.agg #[.int .u8 0, .int .i64 0, .int .i64 0, .string ⟨#[]⟩, .complex .f64 0 0]), 5, 56) := by kernel_rfl

theorem own_slice {w : World} {base : Nat} {e : TypeId} {size n : Nat} {v : Value} {xs : List Value} (h : w.ownsRow base e size v n xs) : ∃ A cap, v = .slice A n cap := by
  rcases h.2 with ⟨rfl, rfl⟩ | ⟨g, cap, cur, rfl, _⟩
  · exact ⟨none, 0, rfl⟩
  · exact ⟨_, cap, rfl⟩

theorem nd_one (x : Nd) : ∀ u ∈ ([.int .u8 x.kind, .int .i64 x.kids, .int .i64 x.int, strV x.text, .complex .f64 x.re x.im] : List Value), u.oneCell' = true := by
  simp [Value.oneCell', strV]
theorem new_block (w : World) (o : Obj) : (w.alloc o).heap[w.heap.size]? = some o := by
  show (w.heap.push _)[w.heap.size]? = _
  rw [Array.getElem?_push_size]

/-- the state of the reader's value at a round's head -/
structure VS (w wr : World) (r : Nat) (A : Option Addr) (len cap : Nat) (l : List UInt8) (at_ : Nat) (v : Value) (a size todo : Nat) (acc : List Nd) : Prop where
  rd : Rd wr r A len cap l a
  own : wr.ownsRow w.heap.size 40 5 v acc.length (ndsV acc)
  grown : w.grownBy wr (some r)
  eq : rdNds l 1025 at_ 0 1 [] = rdNds l (1025 - acc.length) a size todo acc
  few : acc.length ≤ 1024
  size_le : size ≤ 4096
  todo_le : todo ≤ 1 + 1024 * acc.length

def vlen : Value → Nat | .slice _ n _ => n | _ => 0
theorem vlen_own {w : World} {base : Nat} {e : TypeId} {size n : Nat} {v : Value} {xs : List Value} (h : w.ownsRow base e size v n xs) : vlen v = n := by
  obtain ⟨A, cap, rfl⟩ := own_slice h; rfl

/-- what reading a value does -/
def GivesV (w : World) (r : Nat) (A : Option Addr) (len cap : Nat) (l : List UInt8) (res : Except (Nat × Nat) (List Nd × Nat)) (e : Ending) (w' : World) : Prop :=
  match res with
  | .ok (xs, tn) => ∃ v, e = .returned v ∧ w'.ownsRow w.heap.size 40 5 v xs.length (ndsV xs) ∧ Rd w' r A len cap l tn ∧ w.grownBy w' (some r)
  | .error (p, en) => e = Falls p en ∧ w.grownBy w' (some r)
def rdNdsAt (l : List UInt8) (a : Nat) : Except (Nat × Nat) (List Nd × Nat) := rdNds l 1025 a 0 1 []

section
variable {w wr : World} {r : Nat} {A : Option Addr} {len cap : Nat} {l : List UInt8} {at_ : Nat} {v : Value} {a size todo : Nat} {acc : List Nd}
theorem VS.done (h : VS w wr r A len cap l at_ v a size 0 acc) : GivesV w r A len cap l (rdNdsAt l at_) (.returned v) wr := by
  rw [rdNdsAt, h.eq]
  have e : rdNds l (1025 - acc.length) a size 0 acc = .ok (acc, a) := by unfold rdNds; cases 1025 - acc.length <;> rfl
  rw [e]
  exact ⟨v, rfl, h.own, h.rd, h.grown⟩
theorem VS.short (h : VS w wr r A len cap l at_ v a size (todo + 1) acc) (ha : ¬ a < l.length) : rdNdsAt l at_ = .error (l.length, 4) := by
  rw [rdNdsAt, h.eq, show 1025 - acc.length = (1024 - acc.length) + 1 from by have := h.few; omega]
  simp [rdNds, ha]
theorem VS.long (h : VS w wr r A len cap l at_ v a size (todo + 1) acc) (ha : a < l.length) (hl : 1024 ≤ acc.length ∨ 4096 < size + 1) : rdNdsAt l at_ = .error (a, 2) := by
  rw [rdNdsAt, h.eq, show 1025 - acc.length = (1024 - acc.length) + 1 from by have := h.few; omega]
  simp [rdNds, ha, hl]
theorem VS.bad (h : VS w wr r A len cap l at_ v a size (todo + 1) acc) (ha : a < l.length) (hl : ¬ (1024 ≤ acc.length ∨ 4096 < size + 1)) {e : Nat × Nat} (hx : rdNode l a size = .error e) : rdNdsAt l at_ = .error e := by
  rw [rdNdsAt, h.eq, show 1025 - acc.length = (1024 - acc.length) + 1 from by have := h.few; omega]
  simp [rdNds, ha, hl, hx]
theorem VS.step {w' : World} {v' : Value} {x : Nd} {tn : Nat} (h : VS w wr r A len cap l at_ v a size (todo + 1) acc) (ha : a < l.length) (hl : ¬ (1024 ≤ acc.length ∨ 4096 < size + 1)) (hx : rdNode l a size = .ok (x, tn))
    (hR : Rd w' r A len cap l tn) (ho : w'.ownsRow w.heap.size 40 5 v' (acc.length + 1) (ndsV acc ++ x.cells)) (hg : w.grownBy w' (some r)) :
    VS w w' r A len cap l at_ v' tn (size + 1 + x.text.length) (todo + x.kids) (acc ++ [x]) where
  rd := hR
  own := by rw [ndsV_snoc, List.length_append]; exact ho
  grown := hg
  eq := by
    rw [h.eq, show 1025 - acc.length = (1025 - (acc ++ [x]).length) + 1 from by have := h.few; simp; omega]
    simp only [rdNds, ha, hl, hx, if_true, if_false]
  few := by simp; omega
  size_le := by have := (rdNode_lt hx).2.2.2; omega
  todo_le := by have := (rdNode_lt hx).2.2.1; have := h.todo_le; simp; omega
end

theorem grown_then {a b c : World} {row : Option Nat} {nb : Nat} (h : a.grownBy b row) (k : b.grownBy c (some nb)) (hn : a.heap.size ≤ nb) : a.grownBy c row :=
  ⟨k.os.trans h.os, k.tape.trans h.tape, k.output.trans h.output, Nat.le_trans h.size k.size, fun i hi hne =>
    (k.block i (Nat.lt_of_lt_of_le hi h.size) (fun e => by have := Option.some.inj e; omega)).trans (h.block i hi hne)⟩

theorem grown_then' {a b c : World} {row row' : Option Nat} (h : a.grownBy b row) (k : b.grownBy c row') (hn : ∀ j, row' = some j → a.heap.size ≤ j) : a.grownBy c row :=
  ⟨k.os.trans h.os, k.tape.trans h.tape, k.output.trans h.output, Nat.le_trans h.size k.size, fun i hi hne =>
    (k.block i (Nat.lt_of_lt_of_le hi h.size) (fun e => by have := hn i e.symm; omega)).trans (h.block i hi hne)⟩
theorem rd_below {w w' : World} {B r : Nat} {A : Option Addr} {len cap : Nat} {l : List UInt8} {at_ : Nat} (h : Rd w r A len cap l at_) (hb : Below B w w') (hr : r < B) (hA : ∀ ad, A = some ad → 0 < l.length → ad.block < B) : Rd w' r A len cap l at_ where
  blk := by rw [hb.block r hr]; exact h.blk
  bs := h.bs.kept hb.size fun ad e h0 => hb.block _ (hA ad e h0)
  apart := h.apart
  at_le := h.at_le
  cap_le := h.cap_le
theorem Rd.alloc {w : World} {r : Nat} {A : Option Addr} {len cap : Nat} {l : List UInt8} {at_ : Nat} (h : Rd w r A len cap l at_) (o : Obj) : Rd (w.alloc o) r A len cap l at_ where
  blk := by have := h.lt; rw [show (w.alloc o).heap = w.heap.push o from rfl, Array.getElem?_push_lt this, ← Array.getElem?_eq_getElem this]; exact h.blk
  bs := h.bs.below (Below.alloc (Below.refl _ _) (Nat.le_refl _) o)
  apart := h.apart
  at_le := h.at_le
  cap_le := h.cap_le

def rdNodeErr (l : List UInt8) (a size p en : Nat) : Prop := rdNode l a size = .error (p, en)
theorem VS.falls {w wr w' : World} {r : Nat} {A : Option Addr} {len cap : Nat} {l : List UInt8} {at_ : Nat} {v : Value} {a size todo : Nat} {acc : List Nd} (h : VS w wr r A len cap l at_ v a size (todo + 1) acc) (ha : a < l.length) (hl : ¬ (1024 ≤ acc.length ∨ 4096 < size + 1)) {p en : Nat} (hx : rdNode l a size = .error (p, en)) (hg : wr.grownBy w' (some r)) : GivesV w r A len cap l (rdNdsAt l at_) (Falls p en) w' := by
  rw [h.bad ha hl hx]; exact ⟨rfl, h.grown.trans hg⟩
/-- a node under way: the block that holds it, beside the reader and the row of those that stand -/
structure NS (wr : World) (B r : Nat) (A : Option Addr) (len cap : Nat) (l : List UInt8) (v : Value) (acc : List Nd) (nb : Nat) (x : Nd) (tn : Nat) (wx : World) : Prop where
  rd : Rd wx r A len cap l tn
  own : wx.ownsRow B 40 5 v acc.length (ndsV acc)
  blk : wx.heap[nb]? = some (.cells #[.int .u8 x.kind, .int .i64 x.kids, .int .i64 x.int, strV x.text, .complex .f64 x.re x.im] 40 (0, 0))
  grown : wr.grownBy wx (some r)
  ne : nb ≠ r
  hi : wr.heap.size ≤ nb
  own_r : v.ownBlock ≠ some r
  own_nb : v.ownBlock ≠ some nb
  lo : ∀ ad, A = some ad → 0 < l.length → ad.block < wr.heap.size
section
variable {wr wx wy : World} {B r : Nat} {A : Option Addr} {len cap : Nat} {l : List UInt8} {v : Value} {acc : List Nd} {nb : Nat} {x : Nd} {tn tn' : Nat}
theorem NS.cell (h : NS wr B r A len cap l v acc nb x tn wx) (o : Nat) : wx.cell? ⟨nb, o, none⟩ = (#[.int .u8 x.kind, .int .i64 x.kids, .int .i64 x.int, strV x.text, .complex .f64 x.re x.im] : Array Value)[o]? := by
  rw [cell_of_row wx nb o _ _ _ h.blk]
theorem NS.fz (h : NS wr B r A len cap l v acc nb x tn wx) (o : Nat) : wx.frozen? ⟨nb, o, none⟩ = false := by
  have := h.blk
  simp [World.frozen?, this]
theorem NS.lt (h : NS wr B r A len cap l v acc nb x tn wx) : nb < wx.heap.size := (Array.getElem?_eq_some_iff.1 h.blk).1
theorem NS.sub (h : NS wr B r A len cap l v acc nb x tn wx) (hR : Rd wy r A len cap l tn') (hg : wx.grownBy wy (some r)) : NS wr B r A len cap l v acc nb x tn' wy where
  rd := hR
  own := h.own.kept hg (.inr h.own_r)
  blk := by rw [hg.block nb h.lt (fun e => h.ne (Option.some.inj e))]; exact h.blk
  grown := h.grown.trans hg
  ne := h.ne
  hi := h.hi
  own_r := h.own_r
  own_nb := h.own_nb
  lo := h.lo
theorem NS.drewN (h : NS wr B r A len cap l v acc nb x tn wx) (n : Nat) : NS wr B r A len cap l v acc nb x tn (wx.drewN n) := h.sub (h.rd.drewN n) (grown_drewN (World.grownBy.refl _ _) n)
theorem NS.set (h : NS wr B r A len cap l v acc nb x tn wx) (y : Nd) (o : Nat) (u : Value)
    (hy : (#[.int .u8 x.kind, .int .i64 x.kids, .int .i64 x.int, strV x.text, .complex .f64 x.re x.im] : Array Value).set! o u = #[.int .u8 y.kind, .int .i64 y.kids, .int .i64 y.int, strV y.text, .complex .f64 y.re y.im]) :
    NS wr B r A len cap l v acc nb y tn (wx.setCell ⟨nb, o, none⟩ u) where
  rd := {
    blk := by
      rw [Below.heap_setCell wx _ _ _ (fun e => h.ne e.symm)]; exact h.rd.blk
    bs := h.rd.bs.kept (by simp [World.setCell]) fun ad e h0 => Below.heap_setCell _ _ _ _ (fun e2 => by
      have e3 : ad.block = nb := e2
      have := h.lo ad e h0; have := h.hi; omega)
    apart := h.rd.apart
    at_le := h.rd.at_le
    cap_le := h.rd.cap_le }
  own := h.own.kept (grown_setCell _ _ _ _) (.inr h.own_nb)
  blk := by
    have := h.blk
    simp only [World.setCell, Array.getElem?_modify, this, if_true, Option.map_some]
    rw [← hy]
    rfl
  grown := grown_then h.grown (grown_setCell wx nb o u) h.hi
  ne := h.ne
  hi := h.hi
  own_r := h.own_r
  own_nb := h.own_nb
  lo := h.lo
end
set_option maxRecDepth 100000 in
set_option maxHeartbeats 8000000 in
theorem value_any (w : World) (r : Nat) (A : Option Addr) (len cap : Nat) (l : List UInt8) (at_ : Nat) (h : Rd w r A len cap l at_) :
    Calls Try.prog 67 #[.pointer (some ⟨r, 0, none⟩)] w (GivesV w r A len cap l (rdNdsAt l at_)) := by
  obtain ⟨i0, hi, hz0, hz1, hz2⟩ : ∃ i, Try.prog.info? 40 = some i ∧ i.zero = some (.agg #[.int .u8 0, .int .i64 0, .int .i64 0, .string ⟨#[]⟩, .complex .f64 0 0]) ∧ i.size = 5 ∧ i.bytes = 56 := by
    have hq := info_nd
    cases hx : Try.prog.info? 40 with
    | none => rw [hx] at hq; cases hq
    | some i => rw [hx] at hq; simp at hq; exact ⟨i, rfl, hq.1, hq.2.1, hq.2.2⟩
  go_enter Try.func67, Try.ntmps67
  go_wp2_with fail
  go_loopw [3, 4, 5, 6, 7, 8, 9, 10] (fun v sz td _ _ _ _ _ wr => ∃ (a size todo : Nat) (acc : List Nd), sz = .int .i64 size ∧ td = .int .i64 todo ∧ Hid (VS w wr r A len cap l at_ v a size todo acc)) (fun v _ _ _ _ _ _ _ _ => 1025 - vlen v)
  case atStart => exact ⟨at_, 0, 1, [], rfl, rfl, h, World.ownsRow_nil _ _ _ _, World.grownBy.refl _ _, rfl, by simp, by omega, by simp⟩
  case round =>
    obtain ⟨a, size, todo, acc, rfl, rfl, HS⟩ := hrel
    obtain ⟨Av, cv, rfl⟩ := own_slice HS.out.own
    have hsz : (size : Int) ≤ 4096 := by have := HS.out.size_le; omega
    have hfew : (acc.length : Int) ≤ 1024 := by have := HS.out.few; omega
    have htd : (todo : Int) ≤ 2000000 := by have := HS.out.todo_le; have := HS.out.few; omega
    by_cases htz : todo = 0
    · subst htz
      go_wp2_with fail
      go_ret
      exact HS.out.done
    · have ht : 0 < (todo : Int) := by omega
      obtain ⟨td, htd1⟩ : ∃ td, todo = td + 1 := ⟨todo - 1, by omega⟩
      have HT := Lib.hid htd1
      have HS' := HS
      rw [htd1] at HS'
      clear htz htd1
      have hal : (a : Int) ≤ 9223372036854775807 := by have := HS.out.rd.bs.le; have := HS.out.rd.at_le; unfold maxLen at *; omega
      by_cases ha : a < l.length
      · by_cases hl : 1024 ≤ acc.length ∨ 4096 < size + 1
        · have HX := Lib.hid (HS'.out.long ha hl)
          have hR := HS.out.rd
          have hsplit : ((acc.length : Int) == 1024) = true ∨ (((acc.length : Int) == 1024) = false ∧ 4096 < (size : Int) + 1) := by
            rw [beq_iff_eq, beq_eq_false_iff_ne]; omega
          clear hl
          rcases hsplit with h1 | ⟨h1, h2⟩
          all_goals
            go_wp2_with fail
            refine (next_yes wr r A len cap l a hR ha).mono ?_
            rintro e w1 ⟨rfl, hR1, hG1⟩
            have hc1 := hR1.c1
            rw [show ((a + 1 : Nat) : Int) = (a : Int) + 1 from by omega] at hc1
            go_wp2_with fail
            refine (fail_any _ _ _).mono ?_
            rintro e w' ⟨rfl, rfl⟩
            go_wp2_with fail
            refine ⟨rfl, ?_⟩
            show GivesV w r A len cap l (rdNdsAt l at_) _ _
            rw [HX.out]
            exact ⟨rfl, HS.out.grown.trans hG1⟩
        · have hR := HS.out.rd
          have hb1 : (l[a].toNat : Int) ≤ 255 := by have := UInt8.toNat_lt l[a]; omega
          have h1 : ((acc.length : Int) == 1024) = false := by rw [beq_eq_false_iff_ne]; omega
          have h2 : ¬ 4096 < (size : Int) + 1 := by omega
          have HL := Lib.hid hl
          clear hl
          have HO1 : Hid ((Value.slice Av acc.length cv).ownBlock ≠ some r) := Lib.hid fun e => by
            have := (HS.out.own.lt r e).1; have := h.lt; omega
          have HL1 : Hid (∀ ad, A = some ad → 0 < l.length → ad.block < wr.heap.size) := Lib.hid fun ad e h0 => by
            obtain ⟨ad', e', hlt, _⟩ := hR.bs.cell 0 h0
            obtain rfl : ad' = ad := Option.some.inj (e'.symm.trans e)
            exact hlt
          go_wp2_with fail
          refine (next_yes wr r A len cap l a hR ha).mono ?_
          rintro e w1 ⟨rfl, hR1, hG1⟩
          have hc1 := hR1.c1
          rw [show ((a + 1 : Nat) : Int) = (a : Int) + 1 from by omega] at hc1
          have hrl : r < w1.heap.size := hR1.lt
          have hW : ∀ o : Obj, (w1.alloc o).cell? ⟨r, 1, none⟩ = some (.int .i64 ((a : Int) + 1)) := fun o => (World.cell?_alloc_lt w1 o _ hrl).trans hc1
          clear hc1
          go_upto_block 2 with fail
          have HN : Hid (NS wr w.heap.size r A len cap l (.slice Av acc.length cv) acc w1.heap.size (nd0 l[a].toNat) (a + 1) (w1.alloc (.cells #[.int .u8 l[a].toNat, .int .i64 0, .int .i64 0, .string ⟨#[]⟩, .complex .f64 0 0] 40))) := Lib.hid {
              rd := hR1.alloc _
              own := (HS.out.own.kept hG1 (.inr HO1.out)).alloc _
              blk := by
                show (w1.heap.push _)[w1.heap.size]? = _
                rw [Array.getElem?_push_size]
                rfl
              grown := hG1.trans (World.grownBy_alloc _ _ _)
              ne := by omega
              hi := hG1.size
              own_r := HO1.out
              own_nb := fun e => by have := (HS.out.own.lt _ e).2; have := hG1.size; omega
              lo := HL1.out }
          generalize (w1.alloc (.cells #[.int .u8 l[a].toNat, .int .i64 0, .int .i64 0, .string ⟨#[]⟩, .complex .f64 0 0] 40)) = w2 at HN ⊢
          go_cut [4, 5] from 11 to 103 (fun s4 s5 wx => ∃ (x : Nd) (tn sz' td' : Nat), s4 = .int .i64 sz' ∧ s5 = .int .i64 td' ∧ Hid (rdNode l a size = .ok (x, tn) ∧ sz' = size + 1 + x.text.length ∧ td' = todo + x.kids ∧ NS wr w.heap.size r A len cap l (.slice Av acc.length cv) acc w1.heap.size x tn wx))
          case first =>
            have hq : ∀ k : Nat, (l[a].toNat = k) → (((l[a].toNat : Int) == (k : Int)) = true) := fun k e => by rw [beq_iff_eq]; omega
            have hq' : ∀ k : Nat, (l[a].toNat ≠ k) → (((l[a].toNat : Int) == (k : Int)) = false) := fun k e => by rw [beq_eq_false_iff_ne]; omega
            by_cases k0 : l[a].toNat = 0
            · have q0 : ((l[a].toNat : Int) == 0) = true := hq 0 k0
              have HX := Lib.hid (show rdNode l a size = .ok (nd0 0, a + 1) by simp [rdNode, ha, k0])
              have HK := Lib.hid k0
              clear k0 hq hq'
              go_wp2_with fail
              go_meet
              exact ⟨nd0 0, a + 1, size + 1, todo, rfl, rfl, Lib.hid ⟨HX.out, rfl, rfl, by have := HN.out; rw [HK.out] at this; exact this⟩⟩
            have q0 : ((l[a].toNat : Int) == 0) = false := hq' 0 k0
            by_cases k1 : l[a].toNat = 1
            · have q1 : ((l[a].toNat : Int) == 1) = true := hq 1 k1
              by_cases h1 : a + 1 < l.length
              · have HR := Lib.hid (show rdNode l a size = if 1 < l[a + 1].toNat then .error (a + 1, 3) else .ok ({ nd0 1 with int := l[a + 1].toNat }, a + 2) by simp only [rdNode, ha, k1, h1, dif_pos]; simp)
                have HK := Lib.hid k1
                have hc2 : (l[a + 1].toNat : Int) ≤ 255 := by have := UInt8.toNat_lt l[a + 1]; omega
                have hc3 : IntKind.i64.wrap (l[a + 1].toNat : Int) = (l[a + 1].toNat : Int) := wrap_i64' _ (by omega) (by omega)
                clear k0 k1 hq hq'
                go_wp2_with fail
                refine (next_yes w2 r A len cap l (a + 1) HN.out.rd h1).mono ?_
                rintro e w3 ⟨rfl, hR3, hG3⟩
                have HN3 := Lib.hid (HN.out.sub hR3 hG3)
                have e2 : w3.cell? ⟨w1.heap.size, 2, none⟩ = some (.int .i64 0) := HN3.out.cell 2
                have z2 := HN3.out.fz 2
                have HN4 := Lib.hid (HN3.out.set ({ nd0 1 with int := l[a + 1].toNat }) 2 (.int .i64 (l[a + 1].toNat : Int)) (by rw [HK.out]; rfl))
                have e4 : (w3.setCell ⟨w1.heap.size, 2, none⟩ (.int .i64 (l[a + 1].toNat : Int))).cell? ⟨w1.heap.size, 2, none⟩ = some (.int .i64 (l[a + 1].toNat : Int)) := HN4.out.cell 2
                by_cases hb : 1 < (l[a + 1].toNat : Int)
                · have HE := Lib.hid (show rdNodeErr l a size (a + 1) 3 by show rdNode _ _ _ = _; rw [HR.out, if_pos (by omega)])
                  clear HR
                  go_wp2_with fail
                  refine (fail_any _ _ _).mono ?_
                  rintro e w' ⟨rfl, rfl⟩
                  go_wp2_with fail
                  refine ⟨rfl, ?_⟩
                  exact HS'.out.falls ha HL.out HE.out HN4.out.grown
                · have HX := Lib.hid (show rdNode l a size = .ok ({ nd0 1 with int := l[a + 1].toNat }, a + 2) by rw [HR.out, if_neg (by omega)])
                  clear HR
                  go_wp2_with fail
                  go_meet
                  exact ⟨_, a + 2, size + 1, todo, rfl, rfl, Lib.hid ⟨HX.out, rfl, rfl, HN4.out⟩⟩
              · have HE := Lib.hid (show rdNode l a size = .error (l.length, 4) by simp [rdNode, ha, k1, h1])
                clear k0 k1 hq hq'
                have hR2 := HN.out.rd
                have hae : a + 1 = l.length := by omega
                rw [hae] at hR2
                have HR2 := Lib.hid hR2
                clear hae h1 hR2
                go_wp2_with fail
                refine (next_no w2 r A len cap l HR2.out).mono ?_
                rintro e w3 ⟨rfl, hR3, hG3⟩
                go_wp2_with fail
                refine ⟨rfl, ?_⟩
                exact HS'.out.falls ha HL.out HE.out (HN.out.grown.trans hG3)
            have q1 : ((l[a].toNat : Int) == 1) = false := hq' 1 k1
            by_cases k2 : l[a].toNat = 2
            · have q2 : ((l[a].toNat : Int) == 2) = true := hq 2 k2
              have HK := Lib.hid k2
              have HR := Lib.hid (show rdNode l a size = match Cd.rdInt l (a + 1) with | .ok (x, tn) => .ok ({ nd0 2 with int := x }, tn) | .error e => .error e by unfold rdNode; rw [dif_pos ha, if_neg k0, if_neg k1, if_pos k2]; try rfl)
              clear k0 k1 k2 hq hq'
              rcases hres : Cd.rdInt l (a + 1) with ⟨p, en⟩ | ⟨x, tn⟩
              · have HE := Lib.hid (show rdNode l a size = .error (p, en) by rw [HR.out, hres])
                have HS2 := Lib.hid hres
                clear hres HR
                go_wp2_with fail
                refine (whole_any w2 r A len cap l (a + 1) HN.out.rd).mono ?_
                rintro e w3 hgv
                obtain ⟨rfl, hG3⟩ := hgv.of_error HS2.out
                clear hgv
                go_wp2_with fail
                refine ⟨rfl, ?_⟩
                exact HS'.out.falls ha HL.out HE.out (HN.out.grown.trans hG3)
              · have HX := Lib.hid (show rdNode l a size = .ok ({ nd0 2 with int := x }, tn) by rw [HR.out, hres])
                have HS2 := Lib.hid hres
                clear hres HR
                go_wp2_with fail
                refine (whole_any w2 r A len cap l (a + 1) HN.out.rd).mono ?_
                rintro e w3 hgv
                obtain ⟨rfl, hR3, hG3⟩ := hgv.of_ok HS2.out
                clear hgv
                have HN3 := Lib.hid (HN.out.sub hR3 hG3)
                have e2 : w3.cell? ⟨w1.heap.size, 2, none⟩ = some (.int .i64 0) := HN3.out.cell 2
                have z2 := HN3.out.fz 2
                have HN4 := Lib.hid (HN3.out.set ({ nd0 2 with int := x }) 2 (i64V x) (by rw [HK.out]; rfl))
                unfold i64V at *
                go_wp2_with fail
                go_meet
                exact ⟨_, tn, size + 1, todo, rfl, rfl, Lib.hid ⟨HX.out, rfl, rfl, HN4.out⟩⟩
            have q2 : ((l[a].toNat : Int) == 2) = false := hq' 2 k2
            by_cases k3 : l[a].toNat = 3
            · have q3 : ((l[a].toNat : Int) == 3) = true := hq 3 k3
              have HK := Lib.hid k3
              have HR := Lib.hid (show rdNode l a size = match Cd.rdUint l (a + 1) with
                | .ok (n, tn) => if 4096 - (size + 1) < n then .error (a + 1, 2) else match Cd.rdBytes l n tn with
                  | .ok (t, tn2) => .ok ({ nd0 3 with text := t }, tn2)
                  | .error e => .error e
                | .error e => .error e by unfold rdNode; rw [dif_pos ha, if_neg k0, if_neg k1, if_neg k2, if_pos k3]; try rfl)
              have w3a : IntKind.i64.wrap (4096 - ((size : Int) + 1)) = 4096 - ((size : Int) + 1) := wrap_i64' _ (by omega) (by omega)
              have w3b : IntKind.u64.wrap (4096 - ((size : Int) + 1)) = 4096 - ((size : Int) + 1) := by rw [wrap_u64']; omega
              clear k0 k1 k2 k3 hq hq'
              rcases hres : Cd.rdUint l (a + 1) with ⟨p, en⟩ | ⟨x, tn⟩
              · have HE := Lib.hid (show rdNode l a size = .error (p, en) by rw [HR.out, hres])
                have HS2 := Lib.hid hres
                clear hres HR
                go_wp2_with fail
                refine (number_any w2 r A len cap l (a + 1) HN.out.rd).mono ?_
                rintro e w3 hgv
                obtain ⟨rfl, hG3⟩ := hgv.of_error HS2.out
                clear hgv
                go_wp2_with fail
                refine ⟨rfl, ?_⟩
                exact HS'.out.falls ha HL.out HE.out (HN.out.grown.trans hG3)
              · by_cases hlong : 4096 - ((size : Int) + 1) < (x : Int)
                · have HE := Lib.hid (show rdNode l a size = .error (a + 1, 2) by rw [HR.out, hres]; show (if _ then _ else _) = _; rw [if_pos (by omega)])
                  have HS2 := Lib.hid hres
                  clear hres HR
                  go_wp2_with fail
                  refine (number_any w2 r A len cap l (a + 1) HN.out.rd).mono ?_
                  rintro e w3 hgv
                  obtain ⟨rfl, hR3, hG3⟩ := hgv.of_ok HS2.out
                  clear hgv
                  unfold u64V at *
                  go_wp2_with fail
                  refine (fail_any _ _ _).mono ?_
                  rintro e w' ⟨rfl, rfl⟩
                  go_wp2_with fail
                  refine ⟨rfl, ?_⟩
                  exact HS'.out.falls ha HL.out HE.out (HN.out.grown.trans hG3)
                · have HR2 := Lib.hid (show rdNode l a size = match Cd.rdBytes l x tn with
                    | .ok (t, tn2) => .ok ({ nd0 3 with text := t }, tn2)
                    | .error e => .error e by rw [HR.out, hres]; show (if _ then _ else _) = _; rw [if_neg (by omega)])
                  have HS2 := Lib.hid hres
                  clear hres HR
                  go_wp2_with fail
                  refine (number_any w2 r A len cap l (a + 1) HN.out.rd).mono ?_
                  rintro e w3 hgv
                  obtain ⟨rfl, hR3, hG3⟩ := hgv.of_ok HS2.out
                  clear hgv
                  unfold u64V at *
                  have HN3 := Lib.hid (HN.out.sub hR3 hG3)
                  rcases hres : Cd.rdBytes l x tn with ⟨p, en⟩ | ⟨t, tn2⟩
                  · have HE := Lib.hid (show rdNode l a size = .error (p, en) by rw [HR2.out, hres])
                    have HS3 := Lib.hid hres
                    clear hres HR2
                    go_wp2_with fail
                    refine (bytes_any w3 r A len cap l tn x hR3).mono ?_
                    rintro e w4 hgv
                    obtain ⟨rfl, hG4⟩ := hgv.of_error HS3.out
                    clear hgv
                    go_wp2_with fail
                    refine ⟨rfl, ?_⟩
                    exact HS'.out.falls ha HL.out HE.out (HN3.out.grown.trans hG4)
                  · have HX := Lib.hid (show rdNode l a size = .ok ({ nd0 3 with text := t }, tn2) by rw [HR2.out, hres])
                    have ht : t.length ≤ 4096 - (size + 1) := (rdNode_lt HX.out).2.2.2
                    have hz : (ByteArray.mk t.toArray).size = t.length := by simp [ByteArray.size]
                    have HS3 := Lib.hid hres
                    clear hres HR2
                    have hsum : IntKind.i64.wrap ((size : Int) + 1 + (t.length : Int)) = (size : Int) + 1 + (t.length : Int) := wrap_i64' _ (by omega) (by omega)
                    clear ht
                    go_wp2_with fail
                    refine (bytes_any w3 r A len cap l tn x hR3).mono ?_
                    rintro e w4 hgv
                    obtain ⟨rfl, hR4, hG4⟩ := hgv.of_ok HS3.out
                    clear hgv
                    have HN4 := Lib.hid (HN3.out.sub hR4 hG4)
                    have e3 : w4.cell? ⟨w1.heap.size, 3, none⟩ = some (.string ⟨#[]⟩) := HN4.out.cell 3
                    have z3 := HN4.out.fz 3
                    have HN5 := Lib.hid (HN4.out.set ({ nd0 3 with text := t }) 3 (strV t) (by rw [HK.out]; rfl))
                    have e5 : (w4.setCell ⟨w1.heap.size, 3, none⟩ (strV t)).cell? ⟨w1.heap.size, 3, none⟩ = some (strV t) := HN5.out.cell 3
                    unfold strV at *
                    go_wp2_with fail
                    go_meet
                    exact ⟨_, tn2, size + 1 + t.length, todo, by first | rfl | (rw [hz]; rfl), rfl, Lib.hid ⟨HX.out, rfl, rfl, HN5.out⟩⟩
            have q3 : ((l[a].toNat : Int) == 3) = false := hq' 3 k3
            by_cases k4 : l[a].toNat = 4
            · have q4 : ((l[a].toNat : Int) == 4) = true := hq 4 k4
              have HK := Lib.hid k4
              have HR := Lib.hid (show rdNode l a size = match rdNum l (a + 1) with | .ok (z, tn) => .ok ({ nd0 4 with re := z.1, im := z.2 }, tn) | .error e => .error e by unfold rdNode; rw [dif_pos ha, if_neg k0, if_neg k1, if_neg k2, if_neg k3, if_pos k4]; try rfl)
              clear k0 k1 k2 k3 k4 hq hq'
              rcases hres : rdNum l (a + 1) with ⟨p, en⟩ | ⟨x, tn⟩
              · have HE := Lib.hid (show rdNode l a size = .error (p, en) by rw [HR.out, hres])
                have HS2 := Lib.hid hres
                clear hres HR
                go_wp2_with fail
                refine (num_any w2 r A len cap l (a + 1) HN.out.rd).mono ?_
                rintro e w3 hgv
                obtain ⟨rfl, hG3⟩ := hgv.of_error HS2.out
                clear hgv
                go_wp2_with fail
                refine ⟨rfl, ?_⟩
                exact HS'.out.falls ha HL.out HE.out (HN.out.grown.trans hG3)
              · have HX := Lib.hid (show rdNode l a size = .ok ({ nd0 4 with re := x.1, im := x.2 }, tn) by rw [HR.out, hres])
                have HS2 := Lib.hid hres
                clear hres HR
                go_wp2_with fail
                refine (num_any w2 r A len cap l (a + 1) HN.out.rd).mono ?_
                rintro e w3 hgv
                obtain ⟨rfl, hR3, hG3⟩ := hgv.of_ok HS2.out
                clear hgv
                have HN3 := Lib.hid (HN.out.sub hR3 hG3)
                have e2 : w3.cell? ⟨w1.heap.size, 4, none⟩ = some (.complex .f64 0 0) := HN3.out.cell 4
                have z2 := HN3.out.fz 4
                have HN4 := Lib.hid (HN3.out.set ({ nd0 4 with re := x.1, im := x.2 }) 4 (numV x) (by rw [HK.out]; rfl))
                unfold numV at *
                go_wp2_with fail
                go_meet
                exact ⟨_, tn, size + 1, todo, rfl, rfl, Lib.hid ⟨HX.out, rfl, rfl, HN4.out⟩⟩
            have q4 : ((l[a].toNat : Int) == 4) = false := hq' 4 k4
            by_cases k5 : l[a].toNat = 5
            · have q5 : ((l[a].toNat : Int) == 5) = true := hq 5 k5
              have HK := Lib.hid k5
              have HR := Lib.hid (show rdNode l a size = match Cd.rdUint l (a + 1) with
                | .ok (n, tn) => if 1024 < n then .error (a + 1, 2) else .ok ({ nd0 5 with kids := n }, tn)
                | .error e => .error e by unfold rdNode; rw [dif_pos ha, if_neg k0, if_neg k1, if_neg k2, if_neg k3, if_neg k4, if_pos k5]; try rfl)
              clear k0 k1 k2 k3 k4 k5 hq hq'
              rcases hres : Cd.rdUint l (a + 1) with ⟨p, en⟩ | ⟨x, tn⟩
              · have HE := Lib.hid (show rdNode l a size = .error (p, en) by rw [HR.out, hres])
                have HS2 := Lib.hid hres
                clear hres HR
                go_wp2_with fail
                refine (number_any w2 r A len cap l (a + 1) HN.out.rd).mono ?_
                rintro e w3 hgv
                obtain ⟨rfl, hG3⟩ := hgv.of_error HS2.out
                clear hgv
                go_wp2_with fail
                refine ⟨rfl, ?_⟩
                exact HS'.out.falls ha HL.out HE.out (HN.out.grown.trans hG3)
              · by_cases hlong : 1024 < (x : Int)
                · have HE := Lib.hid (show rdNode l a size = .error (a + 1, 2) by rw [HR.out, hres]; show (if _ then _ else _) = _; rw [if_pos (by omega)])
                  have HS2 := Lib.hid hres
                  clear hres HR
                  go_wp2_with fail
                  refine (number_any w2 r A len cap l (a + 1) HN.out.rd).mono ?_
                  rintro e w3 hgv
                  obtain ⟨rfl, hR3, hG3⟩ := hgv.of_ok HS2.out
                  clear hgv
                  unfold u64V at *
                  go_wp2_with fail
                  refine (fail_any _ _ _).mono ?_
                  rintro e w' ⟨rfl, rfl⟩
                  go_wp2_with fail
                  refine ⟨rfl, ?_⟩
                  exact HS'.out.falls ha HL.out HE.out (HN.out.grown.trans hG3)
                · have HX := Lib.hid (show rdNode l a size = .ok ({ nd0 5 with kids := x }, tn) by rw [HR.out, hres]; show (if _ then _ else _) = _; rw [if_neg (by omega)])
                  have HS2 := Lib.hid hres
                  clear hres HR
                  have hwx : IntKind.i64.wrap (x : Int) = (x : Int) := wrap_i64' _ (by omega) (by omega)
                  have hwy : IntKind.i64.wrap ((todo : Int) + (x : Int)) = (todo : Int) + (x : Int) := wrap_i64' _ (by omega) (by omega)
                  go_wp2_with fail
                  refine (number_any w2 r A len cap l (a + 1) HN.out.rd).mono ?_
                  rintro e w3 hgv
                  obtain ⟨rfl, hR3, hG3⟩ := hgv.of_ok HS2.out
                  clear hgv
                  unfold u64V at *
                  have HN3 := Lib.hid (HN.out.sub hR3 hG3)
                  have e1 : w3.cell? ⟨w1.heap.size, 1, none⟩ = some (.int .i64 0) := HN3.out.cell 1
                  have z1 := HN3.out.fz 1
                  have HN4 := Lib.hid (HN3.out.set ({ nd0 5 with kids := x }) 1 (.int .i64 (x : Int)) (by rw [HK.out]; rfl))
                  have e4 : (w3.setCell ⟨w1.heap.size, 1, none⟩ (.int .i64 (x : Int))).cell? ⟨w1.heap.size, 1, none⟩ = some (.int .i64 (x : Int)) := HN4.out.cell 1
                  go_wp2_with fail
                  go_meet
                  exact ⟨_, tn, size + 1, todo + x, rfl, rfl, Lib.hid ⟨HX.out, rfl, rfl, HN4.out⟩⟩
            have q5 : ((l[a].toNat : Int) == 5) = false := hq' 5 k5
            have HE := Lib.hid (show rdNode l a size = .error (a, 3) by simp [rdNode, ha, k0, k1, k2, k3, k4, k5])
            have hwa : IntKind.i64.wrap ((a : Int) + 1 - 1) = (a : Int) := by rw [wrap_i64' _ (by omega) (by omega)]; omega
            clear k0 k1 k2 k3 k4 k5 hq hq'
            go_wp2_with fail
            refine (fail_any _ _ _).mono ?_
            rintro e w' ⟨rfl, rfl⟩
            go_wp2_with fail
            refine ⟨rfl, ?_⟩
            exact HS'.out.falls ha HL.out HE.out HN.out.grown
          case rest =>
            obtain ⟨x, tn, sz', td', rfl, rfl, HX⟩ := hcut
            have HN := HX.out.2.2.2
            have e0 := HN.cell 0
            have e1 := HN.cell 1
            have e2 := HN.cell 2
            have e3 := HN.cell 3
            have e4 := HN.cell 4
            simp at e0 e1 e2 e3 e4
            have B1 : Hid (acc.length + 1 ≤ maxLen) := Lib.hid (by have := HS.out.few; unfold maxLen; omega)
            have B2 : Hid ((acc.length + 1) * 56 ≤ 140737488355328) := Lib.hid (by have := HS.out.few; omega)
            have B3 : Hid (w.heap.size ≤ (wc.alloc (.cells #[.int .u8 x.kind, .int .i64 x.kids, .int .i64 x.int, strV x.text, .complex .f64 x.re x.im] 40)).heap.size) := Lib.hid (by have := HS.out.grown.size; have := HN.grown.size; show _ ≤ (wc.heap.push _).size; rw [Array.size_push]; omega)
            have htd' : (td' : Int) ≤ 4000000 := by have := (rdNode_lt HX.out.1).2.2.1; have := HX.out.2.2.1; omega
            have htp : 1 ≤ (td' : Int) := by have := HX.out.2.2.1; omega
            have hw1 : IntKind.i64.wrap ((td' : Int) - 1) = (td' : Int) - 1 := wrap_i64' _ (by omega) (by omega)
            go_wp2_with (at_builtin; refine wpList_append_own_at _ rfl _ _ 25 rfl w.heap.size 40 i0 (.agg #[.int .u8 0, .int .i64 0, .int .i64 0, .string ⟨#[]⟩, .complex .f64 0 0]) 5 56 Try.underlying25 hi hz0 hz1 hz2 rfl (by decide) _ _ _ rfl (HN.own.alloc _) ⟨wc.heap.size, 0, none⟩ 1 1 [.int .u8 x.kind, .int .i64 x.kids, .int .i64 x.int, strV x.text, .complex .f64 x.re x.im] rfl rfl (World.news_of_block (new_block wc _)) (nd_one x) B1.out B2.out B3.out ?_; intro v1 w2 hown2 hg2 _ hat2)
            have hlen : vlen v1 = acc.length + 1 := vlen_own hown2
            have hrb : r < w.heap.size := h.lt
            have hob : ∀ k, (Value.slice Av acc.length cv).ownBlock = some k → w.heap.size ≤ k := fun k e => (HS.out.own.lt k e).1
            refine ⟨⟨tn, size + 1 + x.text.length, td + x.kids, acc ++ [x], by rw [HX.out.2.1], by rw [HX.out.2.2.1, HT.out]; congr 1; omega, Lib.hid (HS'.out.step ha HL.out HX.out.1 ?_ hown2 ?_)⟩, ?_⟩
            · exact rd_below (HN.rd.alloc _) ((Below.refl _ _).grown hg2 (Nat.le_trans HS.out.grown.size (Nat.le_trans HN.grown.size (by show _ ≤ (wc.heap.push _).size; rw [Array.size_push]; omega))) hob) hrb (fun ad e h0 => by
                obtain ⟨ad', e', hlt, _⟩ := h.bs.cell 0 h0
                obtain rfl : ad' = ad := Option.some.inj (e'.symm.trans e)
                exact hlt)
            · exact grown_then' (HS.out.grown.trans (HN.grown.trans (World.grownBy_alloc _ _ _))) hg2 hob
            · rw [hlen]
              show _ < 1025 - acc.length
              have := HL.out
              omega
      · have HX := Lib.hid (HS'.out.short ha)
        have hR := HS.out.rd
        obtain rfl : a = l.length := by have := hR.at_le; omega
        go_wp2_with fail
        refine (next_no wr r A len cap l hR).mono ?_
        rintro e w1 ⟨rfl, hR1, hG1⟩
        go_wp2_with fail
        refine ⟨rfl, ?_⟩
        show GivesV w r A len cap l (rdNdsAt l at_) _ _
        rw [HX.out]
        exact ⟨rfl, HS.out.grown.trans hG1⟩
end Go.Proofs.Yticipdjfkpakpaa
