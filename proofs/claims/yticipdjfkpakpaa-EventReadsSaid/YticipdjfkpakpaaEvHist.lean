/- (*event.history).all: the events of a history's bytes. -/
import Derived.Test.YticipdjfkpakpaaEvPlain
import Derived.Test.YticipdjfkpakpaaEvRead1
import Derived.Test.YticipdjfkpakpaaEvKnown6
import Derived.Deep.RegionHeld3
import Derived.Deep.AppendLies
import Derived.Deep.RegionLaw
namespace Go.Proofs.Yticipdjfkpakpaa
open Go.RowKit
attribute [local go_sem] run_store_cx'

/-- events as they were read: each with where its value lies -/
abbrev Rs := List (Ev × Option Addr × Nat)
def evC (q : Ev × Option Addr × Nat) : List Value := [.int .u8 (q.1.kind : Int), .int .i64 (q.1.id : Int), .string ⟨q.1.name.toArray⟩, .slice q.2.1 q.1.val.length q.2.2, .int .i64 q.1.int]
/-- a history's block, its row, its values' rows -/
structure HI (w : World) (base r : Nat) (A : Option Addr) (len cap : Nat) (l : List UInt8) (rs : Rs) (a : Nat) (v : Value) : Prop where
  er : ER w r 63 [v] A len cap l a 0
  own : w.ownsRow base 27 5 v rs.length (rs.flatMap evC)
  nds : ∀ q ∈ rs, w.ownsRow base 40 5 (.slice q.2.1 q.1.val.length q.2.2) q.1.val.length (ndsV q.1.val)
/-- how far a history is read -/
def HRel (w : World) (r : Nat) (A : Option Addr) (len cap : Nat) (l : List UInt8) (nv : Value) (wr : World) : Prop :=
  ∃ m : Nat, nv = .int .u64 (m : Int) ∧ m < 18446744073709551616 ∧ w.grownBy wr (some r) ∧
    ((∃ rs a v, HI wr w.heap.size r A len cap l rs a v ∧ rdHist l = rdEvs l m a (rs.map (·.1)) ∧ rs.length + m ≤ 4096) ∨
      ∃ p en v, en ≠ 0 ∧ ER wr r 63 [v] A len cap l p en ∧ rdHist l = .error (p, en))
def HistSays (w : World) (r : Nat) (A : Option Addr) (len cap : Nat) (l : List UInt8) (w' : World) : Prop :=
  w.grownBy w' (some r) ∧ ((∃ rs v, HI w' w.heap.size r A len cap l rs l.length v ∧ rdHist l = .ok (rs.map (·.1), l.length)) ∨
    ∃ p en v, en ≠ 0 ∧ ER w' r 63 [v] A len cap l p en ∧ rdHist l = .error (p, en))
theorem ER.c3 {w : World} {r : Nat} {T : TypeId} {v : Value} {A : Option Addr} {len cap : Nat} {l : List UInt8} {a e : Nat} (h : ER w r T [v] A len cap l a e) : w.cell? ⟨r, 3, none⟩ = some v := by rw [cell_of_row w r 3 _ _ _ h.blk]; rfl
theorem ER.set3 {w : World} {r : Nat} {T : TypeId} {v : Value} {A : Option Addr} {len cap : Nat} {l : List UInt8} {a e : Nat} (h : ER w r T [v] A len cap l a e) (u : Value) : ER (w.setCell ⟨r, 3, none⟩ u) r T [u] A len cap l a e :=
  ⟨by have := h.blk; simp [World.setCell, Array.getElem?_modify, this], in_set h.inn h.apart, h.apart, h.at_le⟩
theorem ER.drewN {w : World} {r : Nat} {T : TypeId} {more : List Value} {A : Option Addr} {len cap : Nat} {l : List UInt8} {a e : Nat} (h : ER w r T more A len cap l a e) (n : Nat) : ER (w.drewN n) r T more A len cap l a e :=
  h.below (below_drewN (Below.refl _ _) n)

theorem ER.belowB {w w' : World} {B r : Nat} {T : TypeId} {more : List Value} {A : Option Addr} {len cap : Nat} {l : List UInt8} {a e : Nat} (h : ER w r T more A len cap l a e) (hb : Below B w w') (hr : r < B) (hA : ∀ ad, A = some ad → 0 < l.length → ad.block < B) : ER w' r T more A len cap l a e :=
  ⟨(hb.block r hr).trans h.blk, ⟨h.inn.bs.kept hb.size fun ad e h0 => hb.block _ (hA ad e h0), fun ad e h0 => Nat.lt_of_lt_of_le (h.inn.lt ad e h0) hb.size, h.inn.cap_le⟩, h.apart, h.at_le⟩
/-- two rows of unlike types lie apart -/
theorem own_apart {w : World} {b1 b2 n1 n2 s1 s2 g : Nat} {e1 e2 : TypeId} {v1 v2 : Value} {x1 x2 : List Value} (h : w.ownsRow b1 e1 s1 v1 n1 x1) (k : w.ownsRow b2 e2 s2 v2 n2 x2) (hne : e1 ≠ e2) (h1 : v1.ownBlock = some g) : v2.ownBlock ≠ some g := by
  intro h2
  rcases h.2 with ⟨rfl, _⟩ | ⟨g1, c1, u1, rfl, _, q1, _⟩
  · simp [Value.ownBlock] at h1
  · rcases k.2 with ⟨rfl, _⟩ | ⟨g2, c2, u2, rfl, _, q2, _⟩
    · simp [Value.ownBlock] at h2
    · simp [Value.ownBlock] at h1 h2
      subst h1
      subst h2
      rw [q1] at q2
      injection q2 with q2
      injection q2 with _ q3 _
      exact hne q3
theorem rdEv_errno {l : List UInt8} {a p en : Nat} (h : rdEv l a = .error (p, en)) : en ≠ 0 := by
  by_cases ha : a < l.length
  · by_cases hk : 1 ≤ l[a].toNat ∧ l[a].toNat ≤ 12
    · rw [rdEv_good ha hk] at h
      unfold evRes at h
      by_cases h0 : (evStp l a l[a].toNat).2.2 = 0
      · rw [if_pos h0] at h
        by_cases hok : evOk (evStp l a l[a].toNat).1 = true
        · rw [if_pos hok] at h; cases h
        · rw [if_neg hok] at h; injection h with h; injection h with _ h; omega
      · rw [if_neg h0] at h; injection h with h; injection h with _ h; omega
    · unfold rdEv at h; rw [dif_pos ha, if_pos (by omega)] at h; injection h with h; injection h with _ h; omega
  · unfold rdEv at h; rw [dif_neg ha] at h; injection h with h; injection h with _ h; omega
theorem cell_grown {w w' : World} {row : Option Nat} (hg : w.grownBy w' row) {b o : Nat} (hb : b < w.heap.size) (hne : some b ≠ row) : w'.cell? ⟨b, o, none⟩ = w.cell? ⟨b, o, none⟩ := by
  have := hg.block b hb hne
  unfold World.cell?
  rw [this]
theorem own_lo {w : World} {b n s r : Nat} {e : TypeId} {v : Value} {x : List Value} (h : w.ownsRow b e s v n x) (hr : r < b) : v.ownBlock = none ∨ v.ownBlock ≠ some r := by
  cases hv : v.ownBlock with
  | none => exact .inl rfl
  | some g => exact .inr fun e' => by injection e' with e'; have := (h.lt g hv).1; omega

theorem own_apart' {w : World} {b1 b2 n1 n2 s1 s2 : Nat} {e1 e2 : TypeId} {v1 v2 : Value} {x1 x2 : List Value} (h : w.ownsRow b1 e1 s1 v1 n1 x1) (k : w.ownsRow b2 e2 s2 v2 n2 x2) (hne : e1 ≠ e2) : v2.ownBlock = none ∨ v2.ownBlock ≠ v1.ownBlock := by
  cases hv : v1.ownBlock with
  | none => cases h2 : v2.ownBlock <;> simp
  | some g => exact .inr (own_apart h k hne hv)
/-- the values' rows stay -/
theorem nds_after {w w5 y1 : World} {r n s : Nat} {et : TypeId} {v u : Value} {xs : List Value} {o : Obj} {A2 : Option Addr} {c2 : Nat} {ns : List Nd}
    (hgrow : (w5.alloc o).grownBy y1 v.ownBlock) (ho : w5.ownsRow w.heap.size et s v n xs) (hne : et ≠ 40) (hr : r < w.heap.size)
    (h : w5.ownsRow w.heap.size 40 5 (.slice A2 ns.length c2) ns.length (ndsV ns)) : (y1.setCell ⟨r, 3, none⟩ u).ownsRow w.heap.size 40 5 (.slice A2 ns.length c2) ns.length (ndsV ns) := by
  have h1 := (h.alloc o).kept hgrow (own_apart' (ho.alloc o) (h.alloc o) hne)
  exact h1.kept (grown_setCell y1 r 3 u) (own_lo h1 hr)
/-- the reader's block behind an append to the events' row -/
theorem hist_after {w wr w5 y1 : World} {r : Nat} {T : TypeId} {more : List Value} {A : Option Addr} {len cap : Nat} {l : List UInt8} {a e : Nat} {v : Value} {n s : Nat} {et : TypeId} {xs : List Value} {o : Obj}
    (hgrow : (w5.alloc o).grownBy y1 v.ownBlock) (ho : (w5.alloc o).ownsRow w.heap.size et s v n xs) (h5 : ER w5 r T more A len cap l a e) (g0 : w.grownBy wr (some r)) (g5 : wr.grownBy w5 (some r)) (hr : r < w.heap.size) (hA : ∀ ad, A = some ad → 0 < l.length → ad.block < w.heap.size) : ER y1 r T more A len cap l a e := by
  have hsz : w.heap.size ≤ (w5.alloc o).heap.size := by have := g0.size; have := g5.size; simp; omega
  have hb : Below w.heap.size (w5.alloc o) y1 := ⟨hgrow.os, hgrow.tape, hgrow.output, hgrow.size, fun i hi => hgrow.block i (by omega) fun e => by have := (ho.lt i e.symm).1; omega⟩
  exact (h5.below ((Below.refl _ _).alloc (Nat.le_refl _) o)).belowB hb hr hA

set_option maxRecDepth 20000 in
set_option maxHeartbeats 4000000 in
theorem all_any (w : World) (r : Nat) (A : Option Addr) (len cap : Nat) (l : List UInt8) (h : ER w r 63 [.slice none 0 0] A len cap l 0 0) (hsz : l.length ≤ 1000000) :
    Calls Try.prog 30 #[.pointer (some ⟨r, 0, none⟩)] w fun e w' => e = .returned (.tuple #[]) ∧ HistSays w r A len cap l w' := by
  obtain ⟨iE, hi, hz0, hz1, hz2⟩ := info_parts info_ev
  obtain rfl := h.inn.bs.len
  have hnx := next_uint64 w r 63 [.slice none 0 0] A l.length cap l 0 h hsz
  have hdl : l.drop 0 = l := rfl
  have hsh : shft 0 (Cd.rdUint l 0) = Cd.rdUint l 0 := by cases Cd.rdUint l 0 <;> simp [shft]
  rw [hdl, hsh] at hnx
  have HN := Lib.hid hnx
  have hA := Lib.hid h.inn.lt
  have hrl := h.lt
  clear hnx hdl hsh h
  go_enter Try.func30, Try.ntmps30
  go_wp2_with fail
  refine HN.out.mono ?_
  rintro e w1 hev
  obtain ⟨hev, g1⟩ := hev
  rcases hu : Cd.rdUint l 0 with ⟨p, en⟩ | ⟨n, t⟩
  · rw [hu] at hev
    obtain ⟨rfl, h1⟩ := hev
    have hne := rdUint_errno' hu
    have HE := Lib.hid h1
    have HNE := Lib.hid hne
    have HR : Hid (rdHist l = .error (p, en)) := Lib.hid (by unfold rdHist; rw [hu])
    have G1 := Lib.hid g1
    have hen : ((en : Int) == 0) = false := beq_eq_false_iff_ne.2 (by omega)
    clear h1 hu hne g1
    have c2 := HE.out.c2
    go_wp2_with fail
    refine wp_loop_rounds 1 ?_
    rw [rounds_succ]
    go_wp2_with fail
    clear c2
    have c2 := HE.out.c2
    go_quiet (fail)
    go_wp2_with fail
    go_end0
    exact ⟨rfl, grown_drewN G1.out _, .inr ⟨_, _, _, HNE.out, HE.out.drewN _, HR.out⟩⟩
  · rw [hu] at hev
    obtain ⟨rfl, h1⟩ := hev
    have HE := Lib.hid h1
    have G1 := Lib.hid g1
    have hn64 := (Cd.rdUint_lt hu).1
    have c2 := HE.out.c2
    by_cases hn : 4096 < n
    · have HR : Hid (rdHist l = .error (0, 2)) := Lib.hid (by unfold rdHist; rw [hu]; simp only; rw [if_pos hn])
      have hnI : (4096 : Int) < (n : Int) := by omega
      have c1 := HE.out.c1
      have z1 := HE.out.fz 1
      have z2 := HE.out.fz 2
      have hE2 : Hid (ER ((w1.setCell ⟨r, 1, none⟩ (.int .i64 (0 : Int))).setCell ⟨r, 2, none⟩ (.int .i64 (2 : Int))) r 63 [.slice none 0 0] A l.length cap l 0 2) := Lib.hid ((HE.out.set1 0 (Nat.zero_le _)).set2 2)
      have G2 := Lib.hid (grown_set (grown_set g1 1 (.int .i64 (0 : Int))) 2 (.int .i64 (2 : Int)))
      have HNE : Hid (2 ≠ 0) := Lib.hid (by decide)
      clear h1 hu g1
      unfold u64V
      go_wp2_with fail
      clear c2 c1 z1 z2
      generalize ((w1.setCell ⟨r, 1, none⟩ (.int .i64 (0 : Int))).setCell ⟨r, 2, none⟩ (.int .i64 (2 : Int))) = wv at *
      have c2 : _ = some (Value.int .i64 (2 : Int)) := hE2.out.c2
      refine wp_loop_rounds 1 ?_
      rw [rounds_succ]
      go_wp2_with fail
      go_quiet (fail)
      go_wp2_with fail
      go_end0
      exact ⟨rfl, grown_drewN G2.out _, .inr ⟨_, _, _, HNE.out, hE2.out.drewN _, HR.out⟩⟩
    · have hnI : ¬ (4096 : Int) < (n : Int) := by omega
      have HR : Hid (rdHist l = rdEvs l n t []) := Lib.hid (by unfold rdHist; rw [hu]; simp only; rw [if_neg hn])
      clear h1 hu g1
      unfold u64V
      go_wp2_with fail
      clear c2
      go_loopw [2] (fun nv wr => HRel w r A l.length cap l nv wr) (fun nv _ => (intOf nv).toNat)
      case atStart => exact ⟨n, rfl, hn64, G1.out, .inl ⟨[], t, .slice none 0 0, ⟨HE.out, World.ownsRow_nil _ _ _ _, by simp⟩, HR.out, by simp; omega⟩⟩
      case round =>
        clear hnI hn hn64 HR G1 HE
        obtain ⟨m, rfl, hm64, hg, hh⟩ := hrel
        rcases hh with ⟨rs, a, v, hH, hR, hlen⟩ | ⟨p, en, v, hne, hE, hR⟩
        · have HE := Lib.hid hH.er
          have HO := Lib.hid hH.own
          have HN := Lib.hid hH.nds
          have HR := Lib.hid hR
          have G1 := Lib.hid hg
          clear hH hR hg
          cases m with
          | zero =>
            have c2 := HE.out.c2
            have c1 := HE.out.c1
            have c0 := HE.out.c0
            by_cases ha : a < l.length
            · have haI : (a : Int) < (l.length : Int) := by omega
              have HR2 : Hid (rdHist l = .error (a, 3)) := Lib.hid (by rw [HR.out]; unfold rdEvs; rw [if_pos ha])
              go_wp2_with fail
              go_quiet (fail)
              have hE2 := Lib.hid (HE.out.drewN nq)
              have G2 := Lib.hid (grown_drewN G1.out nq)
              clear c0 c1 c2
              generalize wr.drewN nq = wv at *
              have c2 := hE2.out.c2
              have z2 := hE2.out.fz 2
              go_wp2_with fail
              go_end0
              exact ⟨rfl, grown_set G2.out 2 _, .inr ⟨a, 3, v, by decide, hE2.out.set2 3, HR2.out⟩⟩
            · have haI : decide ((a : Int) < (l.length : Int)) = false := decide_eq_false (by omega)
              have hal : a = l.length := by have := HE.out.at_le; omega
              have HR2 : Hid (rdHist l = .ok (rs.map (·.1), l.length)) := Lib.hid (by rw [HR.out]; unfold rdEvs; rw [if_neg ha, hal])
              have HAL := Lib.hid hal
              clear hal
              go_wp2_with fail
              go_quiet (fail)
              go_wp2_with fail
              go_end0
              exact ⟨rfl, grown_drewN G1.out _, .inl ⟨rs, v, ⟨by have := HE.out.drewN nq; rwa [HAL.out] at this, HO.out, HN.out⟩, HR2.out⟩⟩
          | succ m =>
            obtain ⟨Av, cv, rfl⟩ := own_slice HO.out
            have hmI : (0 : Int) < ((m + 1 : Nat) : Int) := by omega
            have hm1 : Hid (rs.length + 1 ≤ maxLen) := Lib.hid (by unfold maxLen; omega)
            have hm2 : Hid ((rs.length + 1) * 64 ≤ 140737488355328) := Lib.hid (by omega)
            have c2 := HE.out.c2
            have c3 := HE.out.c3
            rcases hr : rdEv l a with ⟨p, en⟩ | ⟨x, t⟩
            · have hne : en ≠ 0 := rdEv_errno hr
              have hcall : Calls Try.prog 19 #[.pointer (some ⟨r, 0, none⟩)] wr.drew fun e w' => e = .returned (.agg #[.int .u8 0, .int .i64 0, .string ⟨#[]⟩, .slice none 0 0, .int .i64 0]) ∧ ER w' r 63 [.slice Av rs.length cv] A l.length cap l p en ∧ wr.grownBy w' (some r) := by
                refine (event_any wr.drew r 63 _ A l.length cap l a (HE.out.drewN 1) hsz).mono ?_
                rintro e w' ⟨h1, h2⟩
                rw [hr] at h1
                exact ⟨h1.1, h1.2, ⟨h2.os, h2.tape, h2.output, h2.size, h2.block⟩⟩
              have HC := Lib.hid hcall
              have HNE := Lib.hid hne
              have HR2 : Hid (rdHist l = .error (p, en)) := Lib.hid (by rw [HR.out]; unfold rdEvs; rw [hr])
              clear hcall hne hr
              go_wp2_with fail
              go_region_law (first | (refine step_append_lies _ (by rfl) _ _ _ (by rfl) w.heap.size 27 iE _ 5 64 Try.underlying33 hi hz0 hz1 hz2 rfl (by omega) (.slice Av rs.length cv) rs.length (rs.flatMap evC) (by rfl) (ho5.alloc _) ⟨w5.heap.size, 0, none⟩ 1 1 [.int .u8 0, .int .i64 0, .string ⟨#[]⟩, .slice none 0 0, .int .i64 0] (by rfl) (by rfl) (World.news_of_block (cs := #[.int .u8 0, .int .i64 0, .string ⟨#[]⟩, .slice none 0 0, .int .i64 0]) (t := 27) (fr := (0, 0)) (heap_alloc_new w5 _)) (by simp [Value.oneCell']) (by omega) hm1.out hm2.out (by have := G1.out.size; have := g5.size; simp at *; omega) (w5.heap.size + 1) (by simp) ?_; intro gg cap1 y1 hown1 hgrow hat hlt; have hb7 := hist_after hgrow (ho5.alloc _) h5 G1.out g5 hrl hA.out; have hc3 := hb7.c3; have hz3 := hb7.fz 3) | (go_simp; go_at_call 19; refine (HC.out).mono ?_; rintro e w5 ⟨rfl, h5, g5⟩; have hS5 := h5.c3; have hl5 : r < w5.heap.size := h5.lt; have ho5 := HO.out.kept g5 (own_lo HO.out hrl)))
              all_goals go_wp2_with fail
              all_goals go_roundw
              all_goals first | (simp [intOf]; done) | (show HRel _ _ _ _ _ _ _ _; exact ⟨m, rfl, by omega, grown_set (grown_then' (grown_alloc (G1.out.trans g5) _) hgrow (fun j e => (ho5.lt j e).1)) 3 _, .inr ⟨p, en, _, HNE.out, hb7.set3 _, HR2.out⟩⟩)
            · have hcall : Calls Try.prog 19 #[.pointer (some ⟨r, 0, none⟩)] wr.drew fun e w' => ∃ A2 c2v, e = .returned (.agg #[.int .u8 (x.kind : Int), .int .i64 (x.id : Int), .string ⟨x.name.toArray⟩, .slice A2 x.val.length c2v, .int .i64 x.int]) ∧ w'.ownsRow w.heap.size 40 5 (.slice A2 x.val.length c2v) x.val.length (ndsV x.val) ∧ ER w' r 63 [.slice Av rs.length cv] A l.length cap l t 0 ∧ wr.grownBy w' (some r) := by
                refine (event_any wr.drew r 63 _ A l.length cap l a (HE.out.drewN 1) hsz).mono ?_
                rintro e w' ⟨h1, h2⟩
                rw [hr] at h1
                obtain ⟨A2, c2v, q1, q2, q3⟩ := h1
                exact ⟨A2, c2v, q1, q2.mono G1.out.size, q3, ⟨h2.os, h2.tape, h2.output, h2.size, h2.block⟩⟩
              have HC := Lib.hid hcall
              have HR2 : Hid (rdHist l = rdEvs l m t ((rs.map (·.1)) ++ [x])) := Lib.hid (by rw [HR.out]; conv => lhs; unfold rdEvs; rw [hr])
              clear hcall hr
              go_wp2_with fail
              go_region_law (first | (refine step_append_lies _ (by rfl) _ _ _ (by rfl) w.heap.size 27 iE _ 5 64 Try.underlying33 hi hz0 hz1 hz2 rfl (by omega) (.slice Av rs.length cv) rs.length (rs.flatMap evC) (by rfl) (ho5.alloc _) ⟨w5.heap.size, 0, none⟩ 1 1 [.int .u8 (x.kind : Int), .int .i64 (x.id : Int), .string ⟨x.name.toArray⟩, .slice A2 x.val.length c2v, .int .i64 x.int] (by rfl) (by rfl) (World.news_of_block (cs := #[.int .u8 (x.kind : Int), .int .i64 (x.id : Int), .string ⟨x.name.toArray⟩, .slice A2 x.val.length c2v, .int .i64 x.int]) (t := 27) (fr := (0, 0)) (heap_alloc_new w5 _)) (by simp [Value.oneCell']) (by omega) hm1.out hm2.out (by have := G1.out.size; have := g5.size; simp at *; omega) (w5.heap.size + 1) (by simp) ?_; intro gg cap1 y1 hown1 hgrow hat hlt; have hb7 := hist_after hgrow (ho5.alloc _) h5 G1.out g5 hrl hA.out; have hc3 := hb7.c3; have hz3 := hb7.fz 3) | (go_simp; go_at_call 19; refine (HC.out).mono ?_; rintro e w5 ⟨A2, c2v, rfl, ho6, h5, g5⟩; have hS5 := h5.c3; have hl5 : r < w5.heap.size := h5.lt; have ho5 := HO.out.kept g5 (own_lo HO.out hrl)))
              all_goals go_wp2_with fail
              all_goals go_roundw
              all_goals first | (simp [intOf]; done) | (show HRel _ _ _ _ _ _ _ _; refine ⟨m, rfl, by omega, grown_set (grown_then' (grown_alloc (G1.out.trans g5) _) hgrow (fun j e => (ho5.lt j e).1)) 3 _, .inl ⟨rs ++ [(x, A2, c2v)], t, _, ⟨hb7.set3 _, ?_, ?_⟩, by rw [HR2.out]; simp, by simp; omega⟩⟩)
              all_goals first
                | (rw [List.flatMap_append, List.length_append]; exact hown1.kept (grown_setCell y1 r 3 _) (own_lo hown1 hrl))
                | (intro q hq
                   rcases List.mem_append.1 hq with hq | hq
                   · exact nds_after hgrow ho5 (by decide) hrl ((HN.out q hq).kept g5 (own_lo (HN.out q hq) hrl))
                   · simp at hq
                     subst hq
                     exact nds_after hgrow ho5 (by decide) hrl ho6)
        · have HE := Lib.hid hE
          have HNE := Lib.hid hne
          have HR := Lib.hid hR
          have G1 := Lib.hid hg
          have hen : ((en : Int) == 0) = false := beq_eq_false_iff_ne.2 (by omega)
          have c2 := HE.out.c2
          clear hE hne hR hg
          go_wp2_with fail
          go_quiet (fail)
          go_wp2_with fail
          go_end0
          exact ⟨rfl, grown_drewN G1.out _, .inr ⟨_, _, _, HNE.out, HE.out.drewN _, HR.out⟩⟩
end Go.Proofs.Yticipdjfkpakpaa
