/- event.next: something is read of what stands behind, unless something was wrong. -/
import Derived.Test.YticipdjfkpakpaaEvSpec
import Derived.Test.YticipdjfkpakpaaNodeMore
import Derived.Deep.RegionHeld3
import Derived.WalkSmall
namespace Go.Proofs.Yticipdjfkpakpaa
open Go.RowKit

/-- the block of an event's reader (alone, or at the head of a history's) -/
structure ER (w : World) (r : Nat) (T : TypeId) (more : List Value) (A : Option Addr) (len cap : Nat) (l : List UInt8) (a e : Nat) : Prop where
  blk : w.heap[r]? = some (.cells (.slice A len cap :: .int .i64 (a : Int) :: .int .i64 (e : Int) :: more).toArray T (0, 0))
  inn : In w A len cap l
  apart : ∀ ad, A = some ad → 0 < l.length → ad.block ≠ r
  at_le : a ≤ l.length

section
variable {w w' : World} {r : Nat} {T : TypeId} {more : List Value} {A : Option Addr} {len cap : Nat} {l : List UInt8} {a e : Nat}
theorem ER.lt (h : ER w r T more A len cap l a e) : r < w.heap.size := (Array.getElem?_eq_some_iff.1 h.blk).1
theorem ER.c0 (h : ER w r T more A len cap l a e) : w.cell? ⟨r, 0, none⟩ = some (.slice A len cap) := by rw [cell_of_row w r 0 _ _ _ h.blk]; rfl
theorem ER.c1 (h : ER w r T more A len cap l a e) : w.cell? ⟨r, 1, none⟩ = some (.int .i64 (a : Int)) := by rw [cell_of_row w r 1 _ _ _ h.blk]; rfl
theorem ER.c2 (h : ER w r T more A len cap l a e) : w.cell? ⟨r, 2, none⟩ = some (.int .i64 (e : Int)) := by rw [cell_of_row w r 2 _ _ _ h.blk]; rfl
theorem ER.fz (h : ER w r T more A len cap l a e) (o : Nat) : w.frozen? ⟨r, o, none⟩ = false := by
  have := h.blk
  simp [World.frozen?, this]
theorem ER.below (h : ER w r T more A len cap l a e) (hb : Below w.heap.size w w') : ER w' r T more A len cap l a e :=
  ⟨(hb.block r h.lt).trans h.blk, h.inn.below hb, h.apart, h.at_le⟩
/-- a store into the block, behind its head -/
theorem in_set {o : Nat} {v : Value} (h : In w A len cap l) (hne : ∀ ad, A = some ad → 0 < l.length → ad.block ≠ r) : In (w.setCell ⟨r, o, none⟩ v) A len cap l :=
  ⟨h.bs.kept (by simp [World.setCell]) fun ad e h0 => Below.heap_setCell _ _ _ _ (hne ad e h0), fun ad e h0 => by have := h.lt ad e h0; simpa [World.setCell] using this, h.cap_le⟩
theorem ER.set1 (h : ER w r T more A len cap l a e) (b : Nat) (hb : b ≤ l.length) : ER (w.setCell ⟨r, 1, none⟩ (.int .i64 (b : Int))) r T more A len cap l b e :=
  ⟨by have := h.blk; simp [World.setCell, Array.getElem?_modify, this], in_set h.inn h.apart, h.apart, hb⟩
theorem ER.set2 (h : ER w r T more A len cap l a e) (b : Nat) : ER (w.setCell ⟨r, 2, none⟩ (.int .i64 (b : Int))) r T more A len cap l a b :=
  ⟨by have := h.blk; simp [World.setCell, Array.getElem?_modify, this], in_set h.inn h.apart, h.apart, h.at_le⟩
theorem grown_set (h : w.grownBy w' (some r)) (o : Nat) (v : Value) : w.grownBy (w'.setCell ⟨r, o, none⟩ v) (some r) :=
  h.trans (grown_setCell _ _ _ _)
theorem in_drop (h : In w A len cap l) (hk : a ≤ l.length) : In w (if cap = a then A else Option.map (fun x => x.add a) A) (l.length - a) (cap - a) (l.drop a) := by
  have hc := h.cap_le
  refine ⟨?_, ?_, ?_⟩
  · have := h.bs.cut (A' := if cap = a then A else Option.map (fun x => x.add a) A) a l.length hk (Nat.le_refl _) (fun ad hlt e => by rw [if_neg (by omega), e]; rfl)
    rw [List.take_of_length_le (by simp)] at this
    exact this
  · intro ad e h0
    simp at h0
    rw [if_neg (by omega)] at e
    cases A with
    | none => simp at e
    | some ad' =>
      simp at e
      subst e
      rw [add_block]
      exact h.lt ad' rfl (by omega)
  · simp; omega
end

/-- where a reader stands behind a reading -/
def NextSays {α : Type} (val : α → Value) (zero : Value) (w : World) (r : Nat) (T : TypeId) (more : List Value) (A : Option Addr) (len cap : Nat) (l : List UInt8) (a : Nat) (res : Except (Nat × Nat) (α × Nat)) (e : Ending) (w' : World) : Prop :=
  (match res with
  | .ok (x, n) => e = .returned (val x) ∧ ER w' r T more A len cap l n 0
  | .error (p, en) => e = .returned zero ∧ ER w' r T more A len cap l p en) ∧ w.grownBy w' (some r)

theorem rdText_er {l : List UInt8} {a p en : Nat} (h : Cd.rdText l a = .error (p, en)) : Er l p en := by
  unfold Cd.rdText at h
  cases hu : Cd.rdUint l a with
  | error q => rw [hu] at h; injection h with h; subst h; exact rdUint_er hu
  | ok q =>
    obtain ⟨n, t2⟩ := q
    rw [hu] at h
    simp only [Cd.rdBytes] at h
    split at h
    · cases h
    · injection h with h; injection h with h1 h2; subst h1 h2; exact ⟨Nat.le_refl _, by simp⟩
theorem rdText_le {l : List UInt8} {a : Nat} {x : List UInt8} {n : Nat} (h : Cd.rdText l a = .ok (x, n)) : n ≤ l.length := by
  unfold Cd.rdText at h
  cases hu : Cd.rdUint l a with
  | error q => rw [hu] at h; cases h
  | ok q =>
    obtain ⟨m, t2⟩ := q
    rw [hu] at h
    have := Cd.rdUint_lt hu
    simp only [Cd.rdBytes] at h
    split at h
    · injection h with h; injection h with h1 h2; subst h1 h2; omega
    · cases h
theorem rdInt_er {l : List UInt8} {a p en : Nat} (h : Cd.rdInt l a = .error (p, en)) : Er l p en := by
  unfold Cd.rdInt at h
  cases hu : Cd.rdUint l a with
  | error q => rw [hu] at h; injection h with h; subst h; exact rdUint_er hu
  | ok q => rw [hu] at h; cases h
theorem rdInt_le {l : List UInt8} {a n : Nat} {x : Int} (h : Cd.rdInt l a = .ok (x, n)) : n ≤ l.length := by
  unfold Cd.rdInt at h
  cases hu : Cd.rdUint l a with
  | error q => rw [hu] at h; cases h
  | ok q => obtain ⟨m, t2⟩ := q; rw [hu] at h; injection h with h; injection h with h1 h2; subst h1 h2; exact (Cd.rdUint_lt hu).2.2
theorem rdValue_le {l : List UInt8} {x : List Nd} {n : Nat} (h : rdValue l = .ok (x, n)) : n ≤ l.length := by obtain ⟨sz, hI⟩ := rdValue_inv h; exact hI.at_

theorem enters_uint64 (args : Array Value) (w : World) : (callFunc 43 args).run Try.prog w = .ok (.enter 43 args) w := by kernel_rfl
set_option maxRecDepth 20000 in
set_option maxHeartbeats 1600000 in
theorem next_uint64 (w : World) (r : Nat) (T : TypeId) (more : List Value) (A : Option Addr) (len cap : Nat) (l : List UInt8) (a : Nat) (h : ER w r T more A len cap l a 0) (hsz : l.length ≤ 1000000) :
    Calls Try.prog 42 #[.pointer (some ⟨r, 0, none⟩), .bool true, .func (.func 43) #[] #[]] w (NextSays u64V (.int .u64 0) w r T more A len cap l a (shft a (Cd.rdUint (l.drop a) 0))) := by
  obtain rfl := h.inn.bs.len
  have hc0 := h.c0
  have hc1 := h.c1
  have hc2 := h.c2
  have hat := h.at_le
  have hle := h.inn.cap_le
  have l1 : (a : Int) ≤ (l.length : Int) := by omega
  have l2 : (l.length : Int) ≤ (cap : Int) := by omega
  have l3 : (l.length : Int) ≤ 1000000 := by omega
  have l4 : (a : Int) ≤ (cap : Int) := by omega
  have HE := Lib.hid h
  have HD : Hid (In w.drew (if cap = a then A else Option.map (fun x => x.add a) A) (l.length - a) (cap - a) (l.drop a)) := in_drop (h.inn.below (below_drewN (Below.refl _ _) 1)) h.at_le
  rcases hres : (Cd.rdUint (l.drop a) 0) with ⟨p, en⟩ | ⟨x, n⟩
  · have her := (rdUint_er hres).1
    have HR := Lib.hid hres
    have l5 : (a : Int) + (p : Int) ≤ 9223372036854775807 := by simp at her; omega
    have l6 : a + p ≤ l.length := by simp at her; omega
    clear h hle hat hsz hres her
    go_enter Try.func42, Try.ntmps42
    go_wp2_with fail
    go_region_held3 (fun W => W.cell? ⟨r, 0, none⟩ = some (.slice A l.length cap) ∧ W.cell? ⟨r, 1, none⟩ = some (.int .i64 (a : Int))) (first | exact ⟨hc0, hc1⟩ | exact ⟨(HE.out.below hB4).c0, (HE.out.below hB4).c1⟩)
      (first | (go_at_call 43; refine (readUint_any _ _ _ _ (l.drop a) HD.out).mono ?_; rintro e w4 ⟨he, B4⟩; rw [HR.out] at he; obtain rfl := he; have hB4 : Below w.heap.size w w4 := (below_drewN (Below.refl w.heap.size w) 1).trans B4; generalize (if cap = a then A else Option.map (fun x => x.add a) A) = A2))
    have h4 := HE.out.below hB4
    have d1 := h4.c1
    have d2 := h4.c2
    have f1 := h4.fz 1
    have f2 := h4.fz 2
    have HE4 := Lib.hid h4
    have HB4 := Lib.hid hB4
    clear h4 hB4 B4 hc0 hc1 hc2 HE HD
    go_wp2_with fail
    go_ret
    refine ⟨⟨rfl, ?_⟩, grown_set (grown_set (grown_of_below HB4.out _) _ _) _ _⟩
    have := (HE4.out.set1 (a + p) l6).set2 en
    rw [show ((a + p : Nat) : Int) = (a : Int) + (p : Int) from by omega] at this
    exact this
  · have her : n ≤ (l.drop a).length := (fun h => (Cd.rdUint_lt h).2.2) hres
    have HR := Lib.hid hres
    have l5 : (a : Int) + (n : Int) ≤ 9223372036854775807 := by simp at her; omega
    have l6 : a + n ≤ l.length := by simp at her; omega
    clear h hle hat hsz hres her
    go_enter Try.func42, Try.ntmps42
    go_wp2_with fail
    go_region_held3 (fun W => W.cell? ⟨r, 0, none⟩ = some (.slice A l.length cap) ∧ W.cell? ⟨r, 1, none⟩ = some (.int .i64 (a : Int))) (first | exact ⟨hc0, hc1⟩ | exact ⟨(HE.out.below hB4).c0, (HE.out.below hB4).c1⟩)
      (first | (go_at_call 43; refine (readUint_any _ _ _ _ (l.drop a) HD.out).mono ?_; rintro e w4 ⟨he, B4⟩; rw [HR.out] at he; obtain rfl := he; have hB4 : Below w.heap.size w w4 := (below_drewN (Below.refl w.heap.size w) 1).trans B4; generalize (if cap = a then A else Option.map (fun x => x.add a) A) = A2))
    have h4 := HE.out.below hB4
    have d1 := h4.c1
    have d2 := h4.c2
    have f1 := h4.fz 1
    have f2 := h4.fz 2
    have HE4 := Lib.hid h4
    have HB4 := Lib.hid hB4
    clear h4 hB4 B4 hc0 hc1 hc2 HE HD
    go_wp2_with fail
    go_ret
    refine ⟨⟨rfl, ?_⟩, grown_set (grown_set (grown_of_below HB4.out _) _ _) _ _⟩
    have := (HE4.out.set1 (a + n) l6).set2 0
    rw [show ((a + n : Nat) : Int) = (a : Int) + (n : Int) from by omega] at this
    exact this

theorem enters_string (args : Array Value) (w : World) : (callFunc 45 args).run Try.prog w = .ok (.enter 45 args) w := by kernel_rfl
set_option maxRecDepth 20000 in
set_option maxHeartbeats 1600000 in
theorem next_string (w : World) (r : Nat) (T : TypeId) (more : List Value) (A : Option Addr) (len cap : Nat) (l : List UInt8) (a : Nat) (h : ER w r T more A len cap l a 0) (hsz : l.length ≤ 1000000) :
    Calls Try.prog 44 #[.pointer (some ⟨r, 0, none⟩), .bool true, .func (.func 45) #[] #[]] w (NextSays strV (.string ⟨#[]⟩) w r T more A len cap l a (shft a (Cd.rdText (l.drop a) 0))) := by
  obtain rfl := h.inn.bs.len
  have hc0 := h.c0
  have hc1 := h.c1
  have hc2 := h.c2
  have hat := h.at_le
  have hle := h.inn.cap_le
  have l1 : (a : Int) ≤ (l.length : Int) := by omega
  have l2 : (l.length : Int) ≤ (cap : Int) := by omega
  have l3 : (l.length : Int) ≤ 1000000 := by omega
  have l4 : (a : Int) ≤ (cap : Int) := by omega
  have HE := Lib.hid h
  have HD : Hid (In w.drew (if cap = a then A else Option.map (fun x => x.add a) A) (l.length - a) (cap - a) (l.drop a)) := in_drop (h.inn.below (below_drewN (Below.refl _ _) 1)) h.at_le
  rcases hres : (Cd.rdText (l.drop a) 0) with ⟨p, en⟩ | ⟨x, n⟩
  · have her := (rdText_er hres).1
    have HR := Lib.hid hres
    have l5 : (a : Int) + (p : Int) ≤ 9223372036854775807 := by simp at her; omega
    have l6 : a + p ≤ l.length := by simp at her; omega
    clear h hle hat hsz hres her
    go_enter Try.func44, Try.ntmps44
    go_wp2_with fail
    go_region_held3 (fun W => W.cell? ⟨r, 0, none⟩ = some (.slice A l.length cap) ∧ W.cell? ⟨r, 1, none⟩ = some (.int .i64 (a : Int))) (first | exact ⟨hc0, hc1⟩ | exact ⟨(HE.out.below hB4).c0, (HE.out.below hB4).c1⟩)
      (first | (go_at_call 45; refine (readText_any _ _ _ _ (l.drop a) HD.out).mono ?_; rintro e w4 ⟨he, B4⟩; rw [HR.out] at he; obtain rfl := he; have hB4 : Below w.heap.size w w4 := (below_drewN (Below.refl w.heap.size w) 1).trans B4; generalize (if cap = a then A else Option.map (fun x => x.add a) A) = A2))
    have h4 := HE.out.below hB4
    have d1 := h4.c1
    have d2 := h4.c2
    have f1 := h4.fz 1
    have f2 := h4.fz 2
    have HE4 := Lib.hid h4
    have HB4 := Lib.hid hB4
    clear h4 hB4 B4 hc0 hc1 hc2 HE HD
    go_wp2_with fail
    go_ret
    refine ⟨⟨rfl, ?_⟩, grown_set (grown_set (grown_of_below HB4.out _) _ _) _ _⟩
    have := (HE4.out.set1 (a + p) l6).set2 en
    rw [show ((a + p : Nat) : Int) = (a : Int) + (p : Int) from by omega] at this
    exact this
  · have her : n ≤ (l.drop a).length := rdText_le hres
    have HR := Lib.hid hres
    have l5 : (a : Int) + (n : Int) ≤ 9223372036854775807 := by simp at her; omega
    have l6 : a + n ≤ l.length := by simp at her; omega
    clear h hle hat hsz hres her
    go_enter Try.func44, Try.ntmps44
    go_wp2_with fail
    go_region_held3 (fun W => W.cell? ⟨r, 0, none⟩ = some (.slice A l.length cap) ∧ W.cell? ⟨r, 1, none⟩ = some (.int .i64 (a : Int))) (first | exact ⟨hc0, hc1⟩ | exact ⟨(HE.out.below hB4).c0, (HE.out.below hB4).c1⟩)
      (first | (go_at_call 45; refine (readText_any _ _ _ _ (l.drop a) HD.out).mono ?_; rintro e w4 ⟨he, B4⟩; rw [HR.out] at he; obtain rfl := he; have hB4 : Below w.heap.size w w4 := (below_drewN (Below.refl w.heap.size w) 1).trans B4; generalize (if cap = a then A else Option.map (fun x => x.add a) A) = A2))
    have h4 := HE.out.below hB4
    have d1 := h4.c1
    have d2 := h4.c2
    have f1 := h4.fz 1
    have f2 := h4.fz 2
    have HE4 := Lib.hid h4
    have HB4 := Lib.hid hB4
    clear h4 hB4 B4 hc0 hc1 hc2 HE HD
    go_wp2_with fail
    go_ret
    refine ⟨⟨rfl, ?_⟩, grown_set (grown_set (grown_of_below HB4.out _) _ _) _ _⟩
    have := (HE4.out.set1 (a + n) l6).set2 0
    rw [show ((a + n : Nat) : Int) = (a : Int) + (n : Int) from by omega] at this
    exact this

theorem enters_int64 (args : Array Value) (w : World) : (callFunc 49 args).run Try.prog w = .ok (.enter 49 args) w := by kernel_rfl
set_option maxRecDepth 20000 in
set_option maxHeartbeats 1600000 in
theorem next_int64 (w : World) (r : Nat) (T : TypeId) (more : List Value) (A : Option Addr) (len cap : Nat) (l : List UInt8) (a : Nat) (h : ER w r T more A len cap l a 0) (hsz : l.length ≤ 1000000) :
    Calls Try.prog 48 #[.pointer (some ⟨r, 0, none⟩), .bool true, .func (.func 49) #[] #[]] w (NextSays i64V (.int .i64 0) w r T more A len cap l a (shft a (Cd.rdInt (l.drop a) 0))) := by
  obtain rfl := h.inn.bs.len
  have hc0 := h.c0
  have hc1 := h.c1
  have hc2 := h.c2
  have hat := h.at_le
  have hle := h.inn.cap_le
  have l1 : (a : Int) ≤ (l.length : Int) := by omega
  have l2 : (l.length : Int) ≤ (cap : Int) := by omega
  have l3 : (l.length : Int) ≤ 1000000 := by omega
  have l4 : (a : Int) ≤ (cap : Int) := by omega
  have HE := Lib.hid h
  have HD : Hid (In w.drew (if cap = a then A else Option.map (fun x => x.add a) A) (l.length - a) (cap - a) (l.drop a)) := in_drop (h.inn.below (below_drewN (Below.refl _ _) 1)) h.at_le
  rcases hres : (Cd.rdInt (l.drop a) 0) with ⟨p, en⟩ | ⟨x, n⟩
  · have her := (rdInt_er hres).1
    have HR := Lib.hid hres
    have l5 : (a : Int) + (p : Int) ≤ 9223372036854775807 := by simp at her; omega
    have l6 : a + p ≤ l.length := by simp at her; omega
    clear h hle hat hsz hres her
    go_enter Try.func48, Try.ntmps48
    go_wp2_with fail
    go_region_held3 (fun W => W.cell? ⟨r, 0, none⟩ = some (.slice A l.length cap) ∧ W.cell? ⟨r, 1, none⟩ = some (.int .i64 (a : Int))) (first | exact ⟨hc0, hc1⟩ | exact ⟨(HE.out.below hB4).c0, (HE.out.below hB4).c1⟩)
      (first | (go_at_call 49; refine (readInt_any _ _ _ _ (l.drop a) HD.out).mono ?_; rintro e w4 ⟨he, B4⟩; rw [HR.out] at he; obtain rfl := he; have hB4 : Below w.heap.size w w4 := (below_drewN (Below.refl w.heap.size w) 1).trans B4; generalize (if cap = a then A else Option.map (fun x => x.add a) A) = A2))
    have h4 := HE.out.below hB4
    have d1 := h4.c1
    have d2 := h4.c2
    have f1 := h4.fz 1
    have f2 := h4.fz 2
    have HE4 := Lib.hid h4
    have HB4 := Lib.hid hB4
    clear h4 hB4 B4 hc0 hc1 hc2 HE HD
    go_wp2_with fail
    go_ret
    refine ⟨⟨rfl, ?_⟩, grown_set (grown_set (grown_of_below HB4.out _) _ _) _ _⟩
    have := (HE4.out.set1 (a + p) l6).set2 en
    rw [show ((a + p : Nat) : Int) = (a : Int) + (p : Int) from by omega] at this
    exact this
  · have her : n ≤ (l.drop a).length := rdInt_le hres
    have HR := Lib.hid hres
    have l5 : (a : Int) + (n : Int) ≤ 9223372036854775807 := by simp at her; omega
    have l6 : a + n ≤ l.length := by simp at her; omega
    clear h hle hat hsz hres her
    go_enter Try.func48, Try.ntmps48
    go_wp2_with fail
    go_region_held3 (fun W => W.cell? ⟨r, 0, none⟩ = some (.slice A l.length cap) ∧ W.cell? ⟨r, 1, none⟩ = some (.int .i64 (a : Int))) (first | exact ⟨hc0, hc1⟩ | exact ⟨(HE.out.below hB4).c0, (HE.out.below hB4).c1⟩)
      (first | (go_at_call 49; refine (readInt_any _ _ _ _ (l.drop a) HD.out).mono ?_; rintro e w4 ⟨he, B4⟩; rw [HR.out] at he; obtain rfl := he; have hB4 : Below w.heap.size w w4 := (below_drewN (Below.refl w.heap.size w) 1).trans B4; generalize (if cap = a then A else Option.map (fun x => x.add a) A) = A2))
    have h4 := HE.out.below hB4
    have d1 := h4.c1
    have d2 := h4.c2
    have f1 := h4.fz 1
    have f2 := h4.fz 2
    have HE4 := Lib.hid h4
    have HB4 := Lib.hid hB4
    clear h4 hB4 B4 hc0 hc1 hc2 HE HD
    go_wp2_with fail
    go_ret
    refine ⟨⟨rfl, ?_⟩, grown_set (grown_set (grown_of_below HB4.out _) _ _) _ _⟩
    have := (HE4.out.set1 (a + n) l6).set2 0
    rw [show ((a + n : Nat) : Int) = (a : Int) + (n : Int) from by omega] at this
    exact this

/-- where a reader stands behind a value's reading -/
def NextV (w : World) (r : Nat) (T : TypeId) (more : List Value) (A : Option Addr) (len cap : Nat) (l : List UInt8) (res : Except (Nat × Nat) (List Nd × Nat)) (e : Ending) (w' : World) : Prop :=
  (match res with
  | .ok (xs, n) => ∃ A2 c2, e = .returned (.slice A2 xs.length c2) ∧ w'.ownsRow w.heap.size 40 5 (.slice A2 xs.length c2) xs.length (ndsV xs) ∧ ER w' r T more A len cap l n 0
  | .error (p, en) => e = .returned (.slice none 0 0) ∧ ER w' r T more A len cap l p en) ∧ w.grownBy w' (some r)
theorem enters_nodes (args : Array Value) (w : World) : (callFunc 47 args).run Try.prog w = .ok (.enter 47 args) w := by kernel_rfl
set_option maxRecDepth 20000 in
set_option maxHeartbeats 1600000 in
theorem next_value (w : World) (r : Nat) (T : TypeId) (more : List Value) (A : Option Addr) (len cap : Nat) (l : List UInt8) (a : Nat) (h : ER w r T more A len cap l a 0) (hsz : l.length ≤ 1000000) :
    Calls Try.prog 46 #[.pointer (some ⟨r, 0, none⟩), .bool true, .func (.func 47) #[] #[]] w (NextV w r T more A len cap l (shft a (rdValue (l.drop a)))) := by
  obtain rfl := h.inn.bs.len
  have hc0 := h.c0
  have hc1 := h.c1
  have hc2 := h.c2
  have hat := h.at_le
  have hle := h.inn.cap_le
  have l1 : (a : Int) ≤ (l.length : Int) := by omega
  have l2 : (l.length : Int) ≤ (cap : Int) := by omega
  have l3 : (l.length : Int) ≤ 1000000 := by omega
  have l4 : (a : Int) ≤ (cap : Int) := by omega
  have HE := Lib.hid h
  have HEL := Lib.hid h.lt
  have HD : Hid (In w.drew (if cap = a then A else Option.map (fun x => x.add a) A) (l.length - a) (cap - a) (l.drop a)) := in_drop (h.inn.below (below_drewN (Below.refl _ _) 1)) h.at_le
  rcases hres : (rdValue (l.drop a)) with ⟨p, en⟩ | ⟨x, n⟩
  · have her := (rdValue_er hres).1
    have HR := Lib.hid hres
    have l5 : (a : Int) + (p : Int) ≤ 9223372036854775807 := by simp at her; omega
    have l6 : a + p ≤ l.length := by simp at her; omega
    clear h hle hat hsz hres her
    go_enter Try.func46, Try.ntmps46
    go_wp2_with fail
    go_region_held3 (fun W => W.cell? ⟨r, 0, none⟩ = some (.slice A l.length cap) ∧ W.cell? ⟨r, 1, none⟩ = some (.int .i64 (a : Int))) (first | exact ⟨hc0, hc1⟩ | exact ⟨(HE.out.below hB4).c0, (HE.out.below hB4).c1⟩)
      (first | (go_at_call 47; refine (readValue_any _ _ _ _ (l.drop a) HD.out).mono ?_; rintro e w4 ⟨he, B4⟩; rw [HR.out] at he; obtain rfl := he; have hB4 : Below w.heap.size w w4 := (below_drewN (Below.refl w.heap.size w) 1).trans B4; generalize (if cap = a then A else Option.map (fun x => x.add a) A) = A2))
    have h4 := HE.out.below hB4
    have d1 := h4.c1
    have d2 := h4.c2
    have f1 := h4.fz 1
    have f2 := h4.fz 2
    have HE4 := Lib.hid h4
    have HB4 := Lib.hid hB4
    clear h4 hB4 B4 hc0 hc1 hc2 HE HD
    go_wp2_with fail
    go_ret
    refine ⟨⟨rfl, ?_⟩, grown_set (grown_set (grown_of_below HB4.out _) _ _) _ _⟩
    have := (HE4.out.set1 (a + p) l6).set2 en
    rw [show ((a + p : Nat) : Int) = (a : Int) + (p : Int) from by omega] at this
    exact this
  · have her : n ≤ (l.drop a).length := rdValue_le hres
    have HR := Lib.hid hres
    have l5 : (a : Int) + (n : Int) ≤ 9223372036854775807 := by simp at her; omega
    have l6 : a + n ≤ l.length := by simp at her; omega
    clear h hle hat hsz hres her
    go_enter Try.func46, Try.ntmps46
    go_wp2_with fail
    go_region_held3 (fun W => W.cell? ⟨r, 0, none⟩ = some (.slice A l.length cap) ∧ W.cell? ⟨r, 1, none⟩ = some (.int .i64 (a : Int))) (first | exact ⟨hc0, hc1⟩ | exact ⟨(HE.out.below hB4).c0, (HE.out.below hB4).c1⟩)
      (first | (go_at_call 47; refine (readValue_any _ _ _ _ (l.drop a) HD.out).mono ?_; rintro e w4 ⟨he, B4⟩; rw [HR.out] at he; obtain ⟨v2, rfl, ho⟩ := he; obtain ⟨A3, c3, rfl⟩ := own_slice ho; have hB4 : Below w.heap.size w w4 := (below_drewN (Below.refl w.heap.size w) 1).trans B4; generalize (if cap = a then A else Option.map (fun x => x.add a) A) = A2))
    have h4 := HE.out.below hB4
    have d1 := h4.c1
    have d2 := h4.c2
    have f1 := h4.fz 1
    have f2 := h4.fz 2
    have HE4 := Lib.hid h4
    have HB4 := Lib.hid hB4
    have HO := Lib.hid (ho.mono (Nat.le_refl w.heap.size))
    clear h4 hB4 B4 ho hc0 hc1 hc2 HE HD
    go_wp2_with fail
    go_ret
    have hr := HEL.out
    refine ⟨⟨A3, c3, rfl, own_far (own_far HO.out (grown_setCell _ _ _ _) hr) (grown_setCell _ _ _ _) hr, ?_⟩, grown_set (grown_set (grown_of_below HB4.out _) _ _) _ _⟩
    have := (HE4.out.set1 (a + n) l6).set2 0
    rw [show ((a + n : Nat) : Int) = (a : Int) + (n : Int) from by omega] at this
    exact this

theorem skip_uint64 (w : World) (r : Nat) (f : Value) : Calls Try.prog 42 #[.pointer (some ⟨r, 0, none⟩), .bool false, f] w fun e w' => e = .returned (.int .u64 0) ∧ w = w' := by
  go_enter Try.func42, Try.ntmps42
  go_wp2_with fail
  go_ret
  exact ⟨rfl, rfl⟩
theorem idle_uint64 (w : World) (r : Nat) (T : TypeId) (more : List Value) (A : Option Addr) (len cap : Nat) (l : List UInt8) (a en : Nat) (h : ER w r T more A len cap l a en) (hen : en ≠ 0) (f : Value) :
    Calls Try.prog 42 #[.pointer (some ⟨r, 0, none⟩), .bool true, f] w fun e w' => e = .returned (.int .u64 0) ∧ w = w' := by
  have hc2 := h.c2
  have hn : ((en : Int) != 0) = true := by rw [bne_iff_ne]; omega
  clear h hen
  go_enter Try.func42, Try.ntmps42
  go_wp2_with fail
  go_ret
  exact ⟨rfl, rfl⟩

theorem skip_string (w : World) (r : Nat) (f : Value) : Calls Try.prog 44 #[.pointer (some ⟨r, 0, none⟩), .bool false, f] w fun e w' => e = .returned (.string ⟨#[]⟩) ∧ w = w' := by
  go_enter Try.func44, Try.ntmps44
  go_wp2_with fail
  go_ret
  exact ⟨rfl, rfl⟩
theorem idle_string (w : World) (r : Nat) (T : TypeId) (more : List Value) (A : Option Addr) (len cap : Nat) (l : List UInt8) (a en : Nat) (h : ER w r T more A len cap l a en) (hen : en ≠ 0) (f : Value) :
    Calls Try.prog 44 #[.pointer (some ⟨r, 0, none⟩), .bool true, f] w fun e w' => e = .returned (.string ⟨#[]⟩) ∧ w = w' := by
  have hc2 := h.c2
  have hn : ((en : Int) != 0) = true := by rw [bne_iff_ne]; omega
  clear h hen
  go_enter Try.func44, Try.ntmps44
  go_wp2_with fail
  go_ret
  exact ⟨rfl, rfl⟩

theorem skip_int64 (w : World) (r : Nat) (f : Value) : Calls Try.prog 48 #[.pointer (some ⟨r, 0, none⟩), .bool false, f] w fun e w' => e = .returned (.int .i64 0) ∧ w = w' := by
  go_enter Try.func48, Try.ntmps48
  go_wp2_with fail
  go_ret
  exact ⟨rfl, rfl⟩
theorem idle_int64 (w : World) (r : Nat) (T : TypeId) (more : List Value) (A : Option Addr) (len cap : Nat) (l : List UInt8) (a en : Nat) (h : ER w r T more A len cap l a en) (hen : en ≠ 0) (f : Value) :
    Calls Try.prog 48 #[.pointer (some ⟨r, 0, none⟩), .bool true, f] w fun e w' => e = .returned (.int .i64 0) ∧ w = w' := by
  have hc2 := h.c2
  have hn : ((en : Int) != 0) = true := by rw [bne_iff_ne]; omega
  clear h hen
  go_enter Try.func48, Try.ntmps48
  go_wp2_with fail
  go_ret
  exact ⟨rfl, rfl⟩

theorem skip_nodes (w : World) (r : Nat) (f : Value) : Calls Try.prog 46 #[.pointer (some ⟨r, 0, none⟩), .bool false, f] w fun e w' => e = .returned (.slice none 0 0) ∧ w = w' := by
  go_enter Try.func46, Try.ntmps46
  go_wp2_with fail
  go_ret
  exact ⟨rfl, rfl⟩
theorem idle_nodes (w : World) (r : Nat) (T : TypeId) (more : List Value) (A : Option Addr) (len cap : Nat) (l : List UInt8) (a en : Nat) (h : ER w r T more A len cap l a en) (hen : en ≠ 0) (f : Value) :
    Calls Try.prog 46 #[.pointer (some ⟨r, 0, none⟩), .bool true, f] w fun e w' => e = .returned (.slice none 0 0) ∧ w = w' := by
  have hc2 := h.c2
  have hn : ((en : Int) != 0) = true := by rw [bne_iff_ne]; omega
  clear h hen
  go_enter Try.func46, Try.ntmps46
  go_wp2_with fail
  go_ret
  exact ⟨rfl, rfl⟩
end Go.Proofs.Yticipdjfkpakpaa
