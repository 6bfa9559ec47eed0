/- queue's reader: something is read of what stands behind, unless something was wrong. (Written by gen_qurd.py.) -/
import Derived.Test.YtpbheicfplpemaaGreatCodeIn
import Derived.Deep.RegionHeld3
import Derived.WalkSmall
import Derived.BigQuiet
namespace Go.Proofs.YtpbheicfplpemaaGreat
open Go.RowKit

/-- what is read of what stands behind a place, told from the beginning -/
def shft {α : Type} (t : Nat) : Except (Nat × Nat) (α × Nat) → Except (Nat × Nat) (α × Nat)
  | .ok (x, n) => .ok (x, t + n)
  | .error (p, e) => .error (t + p, e)
/-! ### reading behind a place -/
theorem drop_get {l : List UInt8} {t b : Nat} (h : b < (l.drop t).length) : (l.drop t)[b] = l[t + b]'(by simp at h; omega) := by simp
theorem rdU_shft (l : List UInt8) (t : Nat) (ht : t ≤ l.length) : ∀ (f b i n : Nat), shft t (Cd.rdU (l.drop t) f b i n) = Cd.rdU l f (t + b) i n := by
  intro f
  induction f with
  | zero => intro b i n; rfl
  | succ f ih =>
    intro b i n
    by_cases hb : b < (l.drop t).length
    · have hb2 : t + b < l.length := by simp at hb; omega
      have hg := drop_get hb
      by_cases h1 : (l[t + b].toNat = 0 ∧ 0 < i) ∨ (i = 9 ∧ l[t + b].toNat ≠ 1)
      · rw [Cd.rdU_bad hb (by rw [hg]; exact h1), Cd.rdU_bad hb2 h1]; rfl
      · by_cases h2 : l[t + b].toNat < 128
        · rw [Cd.rdU_end hb (by rw [hg]; exact h1) (by rw [hg]; exact h2), Cd.rdU_end hb2 h1 h2, hg]; rfl
        · rw [Cd.rdU_more hb (by rw [hg]; exact h1) (by rw [hg]; exact h2), Cd.rdU_more hb2 h1 h2, hg, ih]; rfl
    · have hb2 : ¬ t + b < l.length := by simp at hb; omega
      rw [Cd.rdU_short hb, Cd.rdU_short hb2]
      simp only [shft, List.length_drop]
      congr 2
      omega
theorem rdUint_shft {l : List UInt8} {t : Nat} (ht : t ≤ l.length) : shft t (Cd.rdUint (l.drop t) 0) = Cd.rdUint l t := rdU_shft l t ht 10 0 0 0
theorem rdInt_shft {l : List UInt8} {t : Nat} (ht : t ≤ l.length) : shft t (Cd.rdInt (l.drop t) 0) = Cd.rdInt l t := by
  unfold Cd.rdInt
  rw [← rdUint_shft ht]
  cases Cd.rdUint (l.drop t) 0 with
  | error e => rfl
  | ok p => rfl
theorem rdText_shft {l : List UInt8} {t : Nat} (ht : t ≤ l.length) : shft t (Cd.rdText (l.drop t) 0) = Cd.rdText l t := by
  unfold Cd.rdText
  rw [← rdUint_shft ht]
  cases Cd.rdUint (l.drop t) 0 with
  | error e => rfl
  | ok p =>
    obtain ⟨n, m⟩ := p
    show shft t (Cd.rdBytes (l.drop t) n m) = Cd.rdBytes l n (t + m)
    unfold Cd.rdBytes
    have e : (l.drop t).length - m = l.length - (t + m) := by simp; omega
    rw [e]
    by_cases hb : n ≤ l.length - (t + m)
    · rw [if_pos hb, if_pos hb, List.drop_drop]; simp [shft, Nat.add_assoc]
    · rw [if_neg hb, if_neg hb]; simp only [shft, List.length_drop]; congr 2; omega
/-- the block of a reader -/
structure ER (w : World) (r : Nat) (T : TypeId) (more : List Value) (A : Option Addr) (len cap : Nat) (l : List UInt8) (a e : Nat) : Prop where
  blk : w.heap[r]? = some (.cells (.slice A len cap :: .int .i64 (a : Int) :: .int .i64 (e : Int) :: more).toArray T (0, 0))
  inn : In w A len cap l
  apart : ∀ ad, A = some ad → 0 < l.length → ad.block ≠ r
  at_le : a ≤ l.length

section
variable {w w' : World} {r : Nat} {T : TypeId} {more : List Value} {A : Option Addr} {len cap : Nat} {l : List UInt8} {a e : Nat}
theorem ER.lt (h : ER w r T more A len cap l a e) : r < w.heap.size := (Array.getElem?_eq_some_iff.1 h.blk).1
theorem ER.c0 (h : ER w r T more A len cap l a e) : w.cell? ⟨r, 0, none⟩ = some (.slice A len cap) := by rw [cell_of_row w r 0 _ _ _ h.blk]; rfl
theorem ER.c1 (h : ER w r T more A len cap l a e) : w.cell? ⟨r, 1, none⟩ = some (.int .i64 (a : Int)) := by rw [cell_of_row w r 1 _ _ _ h.blk]; rfl
theorem ER.c2 (h : ER w r T more A len cap l a e) : w.cell? ⟨r, 2, none⟩ = some (.int .i64 (e : Int)) := by rw [cell_of_row w r 2 _ _ _ h.blk]; rfl
theorem ER.fz (h : ER w r T more A len cap l a e) (o : Nat) : w.frozen? ⟨r, o, none⟩ = false := by
  have := h.blk
  simp [World.frozen?, this]
theorem ER.below (h : ER w r T more A len cap l a e) (hb : Below w.heap.size w w') : ER w' r T more A len cap l a e :=
  ⟨(hb.block r h.lt).trans h.blk, h.inn.below hb, h.apart, h.at_le⟩
/-- a store into the block, behind its head -/
theorem in_set {o : Nat} {v : Value} (h : In w A len cap l) (hne : ∀ ad, A = some ad → 0 < l.length → ad.block ≠ r) : In (w.setCell ⟨r, o, none⟩ v) A len cap l :=
  ⟨h.bs.kept (by simp [World.setCell]) fun ad e h0 => Below.heap_setCell _ _ _ _ (hne ad e h0), fun ad e h0 => by have := h.lt ad e h0; simpa [World.setCell] using this, h.cap_le⟩
theorem ER.set1 (h : ER w r T more A len cap l a e) (b : Nat) (hb : b ≤ l.length) : ER (w.setCell ⟨r, 1, none⟩ (.int .i64 (b : Int))) r T more A len cap l b e :=
  ⟨by have := h.blk; simp [World.setCell, Array.getElem?_modify, this], in_set h.inn h.apart, h.apart, hb⟩
theorem ER.set2 (h : ER w r T more A len cap l a e) (b : Nat) : ER (w.setCell ⟨r, 2, none⟩ (.int .i64 (b : Int))) r T more A len cap l a b :=
  ⟨by have := h.blk; simp [World.setCell, Array.getElem?_modify, this], in_set h.inn h.apart, h.apart, h.at_le⟩
theorem grown_set (h : w.grownBy w' (some r)) (o : Nat) (v : Value) : w.grownBy (w'.setCell ⟨r, o, none⟩ v) (some r) :=
  h.trans (grown_setCell _ _ _ _)
theorem in_drop (h : In w A len cap l) (hk : a ≤ l.length) : In w (if cap = a then A else Option.map (fun x => x.add a) A) (l.length - a) (cap - a) (l.drop a) := by
  have hc := h.cap_le
  refine ⟨?_, ?_, ?_⟩
  · have := h.bs.cut (A' := if cap = a then A else Option.map (fun x => x.add a) A) a l.length hk (Nat.le_refl _) (fun ad hlt e => by rw [if_neg (by omega), e]; rfl)
    rw [List.take_of_length_le (by simp)] at this
    exact this
  · intro ad e h0
    simp at h0
    rw [if_neg (by omega)] at e
    cases A with
    | none => simp at e
    | some ad' =>
      simp at e
      subst e
      rw [add_block]
      exact h.lt ad' rfl (by omega)
  · simp; omega
end

theorem rdU_er {l : List UInt8} {p en : Nat} : ∀ (f a i n : Nat), a ≤ l.length → Cd.rdU l f a i n = .error (p, en) → p ≤ l.length ∧ (en = 3 ∨ en = 4) := by
  intro f
  induction f with
  | zero => intro a i n ha h; simp [Cd.rdU] at h; omega
  | succ f ih =>
    intro a i n ha h
    by_cases h0 : a < l.length
    · by_cases h1 : (l[a].toNat = 0 ∧ 0 < i) ∨ (i = 9 ∧ l[a].toNat ≠ 1)
      · rw [Cd.rdU_bad h0 h1] at h; injection h with h; injection h with h2 h3; omega
      · by_cases h2 : l[a].toNat < 128
        · rw [Cd.rdU_end h0 h1 h2] at h; cases h
        · rw [Cd.rdU_more h0 h1 h2] at h; exact ih _ _ _ (by omega) h
    · rw [Cd.rdU_short h0] at h; injection h with h; injection h with h2 h3; omega
theorem rdUint_er {l : List UInt8} {a p en : Nat} (ha : a ≤ l.length) (h : Cd.rdUint l a = .error (p, en)) : p ≤ l.length ∧ (en = 3 ∨ en = 4) := rdU_er 10 a 0 0 ha h
theorem rdInt_er {l : List UInt8} {a p en : Nat} (ha : a ≤ l.length) (h : Cd.rdInt l a = .error (p, en)) : p ≤ l.length ∧ (en = 3 ∨ en = 4) := by
  unfold Cd.rdInt at h
  cases e : Cd.rdUint l a with
  | error q => rw [e] at h; injection h with h; subst h; exact rdUint_er ha e
  | ok q => rw [e] at h; cases h
theorem rdUint_le {l : List UInt8} {a x n : Nat} (h : Cd.rdUint l a = .ok (x, n)) : n ≤ l.length := (Cd.rdUint_lt h).2.2
theorem rdInt_le {l : List UInt8} {a n : Nat} {x : Int} (h : Cd.rdInt l a = .ok (x, n)) : n ≤ l.length := by
  unfold Cd.rdInt at h
  cases e : Cd.rdUint l a with
  | error q => rw [e] at h; cases h
  | ok q =>
    obtain ⟨m, to⟩ := q
    rw [e] at h
    injection h with h
    injection h with h1 h2
    subst h2
    exact rdUint_le e
theorem rdText_er {l : List UInt8} {a p en : Nat} (ha : a ≤ l.length) (h : Cd.rdText l a = .error (p, en)) : p ≤ l.length ∧ (en = 3 ∨ en = 4) := by
  unfold Cd.rdText at h
  cases e : Cd.rdUint l a with
  | error q => rw [e] at h; injection h with h; subst h; exact rdUint_er ha e
  | ok q =>
    obtain ⟨m, to⟩ := q
    rw [e] at h
    change Cd.rdBytes l m to = _ at h
    unfold Cd.rdBytes at h
    split at h
    · cases h
    · injection h with h; injection h with h1 h2; omega
theorem rdText_le {l : List UInt8} {a n : Nat} {x : List UInt8} (h : Cd.rdText l a = .ok (x, n)) : n ≤ l.length ∧ x.length ≤ l.length := by
  unfold Cd.rdText at h
  cases e : Cd.rdUint l a with
  | error q => rw [e] at h; cases h
  | ok q =>
    obtain ⟨m, to⟩ := q
    rw [e] at h
    have := rdUint_le e
    change Cd.rdBytes l m to = _ at h
    unfold Cd.rdBytes at h
    split at h
    · injection h with h; injection h with h1 h2; subst h1 h2; simp; omega
    · cases h
theorem below_drewN {w w' : World} {B : Nat} (h : Below B w w') (n : Nat) : Below B w (w'.drewN n) := ⟨h.os, h.tape, h.output, h.size, h.block⟩
theorem grown_of_below {w w' : World} (h : Below w.heap.size w w') (row : Option Nat) : w.grownBy w' row := ⟨h.os, h.tape, h.output, h.size, fun i hi _ => h.block i hi⟩
/-- where a reader stands behind a reading -/
def NextSays {α : Type} (val : α → Value) (zero : Value) (w : World) (r : Nat) (T : TypeId) (more : List Value) (A : Option Addr) (len cap : Nat) (l : List UInt8) (_ : Nat) (res : Except (Nat × Nat) (α × Nat)) (e : Ending) (w' : World) : Prop :=
  (match res with
  | .ok (x, n) => e = .returned (val x) ∧ ER w' r T more A len cap l n 0
  | .error (p, en) => e = .returned zero ∧ ER w' r T more A len cap l p en) ∧ w.grownBy w' (some r)

theorem enters_uint64 (args : Array Value) (w : World) : (callFunc 89 args).run Tryz.prog w = .ok (.enter 89 args) w := by kernel_rfl
set_option maxRecDepth 20000 in
set_option maxHeartbeats 1600000 in
theorem next_uint64 (w : World) (r : Nat) (T : TypeId) (more : List Value) (A : Option Addr) (len cap : Nat) (l : List UInt8) (a : Nat) (h : ER w r T more A len cap l a 0) (hsz : l.length ≤ 1000000) :
    Calls Tryz.prog 88 #[.pointer (some ⟨r, 0, none⟩), .func (.func 89) #[] #[]] w (NextSays u64V (.int .u64 0) w r T more A len cap l a (shft a (Cd.rdUint (l.drop a) 0))) := by
  obtain rfl := h.inn.bs.len
  have hc0 := h.c0
  have hc1 := h.c1
  have hc2 := h.c2
  have hat := h.at_le
  have hle := h.inn.cap_le
  have l1 : (a : Int) ≤ (l.length : Int) := by omega
  have l2 : (l.length : Int) ≤ (cap : Int) := by omega
  have l3 : (l.length : Int) ≤ 1000000 := by omega
  have l4 : (a : Int) ≤ (cap : Int) := by omega
  have HE := Lib.hid h
  have HD : Hid (In w.drew (if cap = a then A else Option.map (fun x => x.add a) A) (l.length - a) (cap - a) (l.drop a)) := in_drop (h.inn.below (below_drewN (Below.refl _ _) 1)) h.at_le
  rcases hres : (Cd.rdUint (l.drop a) 0) with ⟨p, en⟩ | ⟨x, n⟩
  · have her := (rdUint_er (by simp) hres).1
    have HR := Lib.hid hres
    have l5 : (a : Int) + (p : Int) ≤ 9223372036854775807 := by simp at her; omega
    have l6 : a + p ≤ l.length := by simp at her; omega
    clear h hle hat hsz hres her
    go_enter Tryz.func88, Tryz.ntmps88
    go_wp2_with fail
    go_region_held3 (fun W => W.cell? ⟨r, 0, none⟩ = some (.slice A l.length cap) ∧ W.cell? ⟨r, 1, none⟩ = some (.int .i64 (a : Int))) (first | exact ⟨hc0, hc1⟩ | exact ⟨(HE.out.below hB4).c0, (HE.out.below hB4).c1⟩)
      (first | (go_at_call 89; refine (readUint_any _ _ _ _ (l.drop a) HD.out).mono ?_; rintro e w4 ⟨he, B4⟩; rw [HR.out] at he; obtain rfl := he; have hB4 : Below w.heap.size w w4 := (below_drewN (Below.refl w.heap.size w) 1).trans B4; generalize (if cap = a then A else Option.map (fun x => x.add a) A) = A2))
    have h4 := HE.out.below hB4
    have d1 := h4.c1
    have d2 := h4.c2
    have f1 := h4.fz 1
    have f2 := h4.fz 2
    have HE4 := Lib.hid h4
    have HB4 := Lib.hid hB4
    clear h4 hB4 B4 hc0 hc1 hc2 HE HD
    go_wp2_with fail
    go_ret
    refine ⟨⟨rfl, ?_⟩, grown_set (grown_set (grown_of_below HB4.out _) _ _) _ _⟩
    have := (HE4.out.set1 (a + p) l6).set2 en
    rw [show ((a + p : Nat) : Int) = (a : Int) + (p : Int) from by omega] at this
    exact this
  · have her : n ≤ (l.drop a).length := (fun h => (Cd.rdUint_lt h).2.2) hres
    have HR := Lib.hid hres
    have l5 : (a : Int) + (n : Int) ≤ 9223372036854775807 := by simp at her; omega
    have l6 : a + n ≤ l.length := by simp at her; omega
    clear h hle hat hsz hres her
    go_enter Tryz.func88, Tryz.ntmps88
    go_wp2_with fail
    go_region_held3 (fun W => W.cell? ⟨r, 0, none⟩ = some (.slice A l.length cap) ∧ W.cell? ⟨r, 1, none⟩ = some (.int .i64 (a : Int))) (first | exact ⟨hc0, hc1⟩ | exact ⟨(HE.out.below hB4).c0, (HE.out.below hB4).c1⟩)
      (first | (go_at_call 89; refine (readUint_any _ _ _ _ (l.drop a) HD.out).mono ?_; rintro e w4 ⟨he, B4⟩; rw [HR.out] at he; obtain rfl := he; have hB4 : Below w.heap.size w w4 := (below_drewN (Below.refl w.heap.size w) 1).trans B4; generalize (if cap = a then A else Option.map (fun x => x.add a) A) = A2))
    have h4 := HE.out.below hB4
    have d1 := h4.c1
    have d2 := h4.c2
    have f1 := h4.fz 1
    have f2 := h4.fz 2
    have HE4 := Lib.hid h4
    have HB4 := Lib.hid hB4
    clear h4 hB4 B4 hc0 hc1 hc2 HE HD
    go_wp2_with fail
    go_ret
    refine ⟨⟨rfl, ?_⟩, grown_set (grown_set (grown_of_below HB4.out _) _ _) _ _⟩
    have := (HE4.out.set1 (a + n) l6).set2 0
    rw [show ((a + n : Nat) : Int) = (a : Int) + (n : Int) from by omega] at this
    exact this

theorem enters_string (args : Array Value) (w : World) : (callFunc 66 args).run Tryz.prog w = .ok (.enter 66 args) w := by kernel_rfl
set_option maxRecDepth 20000 in
set_option maxHeartbeats 1600000 in
theorem next_string (w : World) (r : Nat) (T : TypeId) (more : List Value) (A : Option Addr) (len cap : Nat) (l : List UInt8) (a : Nat) (h : ER w r T more A len cap l a 0) (hsz : l.length ≤ 1000000) :
    Calls Tryz.prog 65 #[.pointer (some ⟨r, 0, none⟩), .func (.func 66) #[] #[]] w (NextSays strV (.string ⟨#[]⟩) w r T more A len cap l a (shft a (Cd.rdText (l.drop a) 0))) := by
  obtain rfl := h.inn.bs.len
  have hc0 := h.c0
  have hc1 := h.c1
  have hc2 := h.c2
  have hat := h.at_le
  have hle := h.inn.cap_le
  have l1 : (a : Int) ≤ (l.length : Int) := by omega
  have l2 : (l.length : Int) ≤ (cap : Int) := by omega
  have l3 : (l.length : Int) ≤ 1000000 := by omega
  have l4 : (a : Int) ≤ (cap : Int) := by omega
  have HE := Lib.hid h
  have HD : Hid (In w.drew (if cap = a then A else Option.map (fun x => x.add a) A) (l.length - a) (cap - a) (l.drop a)) := in_drop (h.inn.below (below_drewN (Below.refl _ _) 1)) h.at_le
  rcases hres : (Cd.rdText (l.drop a) 0) with ⟨p, en⟩ | ⟨x, n⟩
  · have her := (rdText_er (by simp) hres).1
    have HR := Lib.hid hres
    have l5 : (a : Int) + (p : Int) ≤ 9223372036854775807 := by simp at her; omega
    have l6 : a + p ≤ l.length := by simp at her; omega
    clear h hle hat hsz hres her
    go_enter Tryz.func65, Tryz.ntmps65
    go_wp2_with fail
    go_region_held3 (fun W => W.cell? ⟨r, 0, none⟩ = some (.slice A l.length cap) ∧ W.cell? ⟨r, 1, none⟩ = some (.int .i64 (a : Int))) (first | exact ⟨hc0, hc1⟩ | exact ⟨(HE.out.below hB4).c0, (HE.out.below hB4).c1⟩)
      (first | (go_at_call 66; refine (readText_any _ _ _ _ (l.drop a) HD.out).mono ?_; rintro e w4 ⟨he, B4⟩; rw [HR.out] at he; obtain rfl := he; have hB4 : Below w.heap.size w w4 := (below_drewN (Below.refl w.heap.size w) 1).trans B4; generalize (if cap = a then A else Option.map (fun x => x.add a) A) = A2))
    have h4 := HE.out.below hB4
    have d1 := h4.c1
    have d2 := h4.c2
    have f1 := h4.fz 1
    have f2 := h4.fz 2
    have HE4 := Lib.hid h4
    have HB4 := Lib.hid hB4
    clear h4 hB4 B4 hc0 hc1 hc2 HE HD
    go_wp2_with fail
    go_ret
    refine ⟨⟨rfl, ?_⟩, grown_set (grown_set (grown_of_below HB4.out _) _ _) _ _⟩
    have := (HE4.out.set1 (a + p) l6).set2 en
    rw [show ((a + p : Nat) : Int) = (a : Int) + (p : Int) from by omega] at this
    exact this
  · have her : n ≤ (l.drop a).length := (rdText_le hres).1
    have HR := Lib.hid hres
    have l5 : (a : Int) + (n : Int) ≤ 9223372036854775807 := by simp at her; omega
    have l6 : a + n ≤ l.length := by simp at her; omega
    clear h hle hat hsz hres her
    go_enter Tryz.func65, Tryz.ntmps65
    go_wp2_with fail
    go_region_held3 (fun W => W.cell? ⟨r, 0, none⟩ = some (.slice A l.length cap) ∧ W.cell? ⟨r, 1, none⟩ = some (.int .i64 (a : Int))) (first | exact ⟨hc0, hc1⟩ | exact ⟨(HE.out.below hB4).c0, (HE.out.below hB4).c1⟩)
      (first | (go_at_call 66; refine (readText_any _ _ _ _ (l.drop a) HD.out).mono ?_; rintro e w4 ⟨he, B4⟩; rw [HR.out] at he; obtain rfl := he; have hB4 : Below w.heap.size w w4 := (below_drewN (Below.refl w.heap.size w) 1).trans B4; generalize (if cap = a then A else Option.map (fun x => x.add a) A) = A2))
    have h4 := HE.out.below hB4
    have d1 := h4.c1
    have d2 := h4.c2
    have f1 := h4.fz 1
    have f2 := h4.fz 2
    have HE4 := Lib.hid h4
    have HB4 := Lib.hid hB4
    clear h4 hB4 B4 hc0 hc1 hc2 HE HD
    go_wp2_with fail
    go_ret
    refine ⟨⟨rfl, ?_⟩, grown_set (grown_set (grown_of_below HB4.out _) _ _) _ _⟩
    have := (HE4.out.set1 (a + n) l6).set2 0
    rw [show ((a + n : Nat) : Int) = (a : Int) + (n : Int) from by omega] at this
    exact this

theorem enters_int64 (args : Array Value) (w : World) : (callFunc 64 args).run Tryz.prog w = .ok (.enter 64 args) w := by kernel_rfl
set_option maxRecDepth 20000 in
set_option maxHeartbeats 1600000 in
theorem next_int64 (w : World) (r : Nat) (T : TypeId) (more : List Value) (A : Option Addr) (len cap : Nat) (l : List UInt8) (a : Nat) (h : ER w r T more A len cap l a 0) (hsz : l.length ≤ 1000000) :
    Calls Tryz.prog 63 #[.pointer (some ⟨r, 0, none⟩), .func (.func 64) #[] #[]] w (NextSays i64V (.int .i64 0) w r T more A len cap l a (shft a (Cd.rdInt (l.drop a) 0))) := by
  obtain rfl := h.inn.bs.len
  have hc0 := h.c0
  have hc1 := h.c1
  have hc2 := h.c2
  have hat := h.at_le
  have hle := h.inn.cap_le
  have l1 : (a : Int) ≤ (l.length : Int) := by omega
  have l2 : (l.length : Int) ≤ (cap : Int) := by omega
  have l3 : (l.length : Int) ≤ 1000000 := by omega
  have l4 : (a : Int) ≤ (cap : Int) := by omega
  have HE := Lib.hid h
  have HD : Hid (In w.drew (if cap = a then A else Option.map (fun x => x.add a) A) (l.length - a) (cap - a) (l.drop a)) := in_drop (h.inn.below (below_drewN (Below.refl _ _) 1)) h.at_le
  rcases hres : (Cd.rdInt (l.drop a) 0) with ⟨p, en⟩ | ⟨x, n⟩
  · have her := (rdInt_er (by simp) hres).1
    have HR := Lib.hid hres
    have l5 : (a : Int) + (p : Int) ≤ 9223372036854775807 := by simp at her; omega
    have l6 : a + p ≤ l.length := by simp at her; omega
    clear h hle hat hsz hres her
    go_enter Tryz.func63, Tryz.ntmps63
    go_wp2_with fail
    go_region_held3 (fun W => W.cell? ⟨r, 0, none⟩ = some (.slice A l.length cap) ∧ W.cell? ⟨r, 1, none⟩ = some (.int .i64 (a : Int))) (first | exact ⟨hc0, hc1⟩ | exact ⟨(HE.out.below hB4).c0, (HE.out.below hB4).c1⟩)
      (first | (go_at_call 64; refine (readInt_any _ _ _ _ (l.drop a) HD.out).mono ?_; rintro e w4 ⟨he, B4⟩; rw [HR.out] at he; obtain rfl := he; have hB4 : Below w.heap.size w w4 := (below_drewN (Below.refl w.heap.size w) 1).trans B4; generalize (if cap = a then A else Option.map (fun x => x.add a) A) = A2))
    have h4 := HE.out.below hB4
    have d1 := h4.c1
    have d2 := h4.c2
    have f1 := h4.fz 1
    have f2 := h4.fz 2
    have HE4 := Lib.hid h4
    have HB4 := Lib.hid hB4
    clear h4 hB4 B4 hc0 hc1 hc2 HE HD
    go_wp2_with fail
    go_ret
    refine ⟨⟨rfl, ?_⟩, grown_set (grown_set (grown_of_below HB4.out _) _ _) _ _⟩
    have := (HE4.out.set1 (a + p) l6).set2 en
    rw [show ((a + p : Nat) : Int) = (a : Int) + (p : Int) from by omega] at this
    exact this
  · have her : n ≤ (l.drop a).length := rdInt_le hres
    have HR := Lib.hid hres
    have l5 : (a : Int) + (n : Int) ≤ 9223372036854775807 := by simp at her; omega
    have l6 : a + n ≤ l.length := by simp at her; omega
    clear h hle hat hsz hres her
    go_enter Tryz.func63, Tryz.ntmps63
    go_wp2_with fail
    go_region_held3 (fun W => W.cell? ⟨r, 0, none⟩ = some (.slice A l.length cap) ∧ W.cell? ⟨r, 1, none⟩ = some (.int .i64 (a : Int))) (first | exact ⟨hc0, hc1⟩ | exact ⟨(HE.out.below hB4).c0, (HE.out.below hB4).c1⟩)
      (first | (go_at_call 64; refine (readInt_any _ _ _ _ (l.drop a) HD.out).mono ?_; rintro e w4 ⟨he, B4⟩; rw [HR.out] at he; obtain rfl := he; have hB4 : Below w.heap.size w w4 := (below_drewN (Below.refl w.heap.size w) 1).trans B4; generalize (if cap = a then A else Option.map (fun x => x.add a) A) = A2))
    have h4 := HE.out.below hB4
    have d1 := h4.c1
    have d2 := h4.c2
    have f1 := h4.fz 1
    have f2 := h4.fz 2
    have HE4 := Lib.hid h4
    have HB4 := Lib.hid hB4
    clear h4 hB4 B4 hc0 hc1 hc2 HE HD
    go_wp2_with fail
    go_ret
    refine ⟨⟨rfl, ?_⟩, grown_set (grown_set (grown_of_below HB4.out _) _ _) _ _⟩
    have := (HE4.out.set1 (a + n) l6).set2 0
    rw [show ((a + n : Nat) : Int) = (a : Int) + (n : Int) from by omega] at this
    exact this

theorem idle_uint64 (w : World) (r : Nat) (T : TypeId) (more : List Value) (A : Option Addr) (len cap : Nat) (l : List UInt8) (a en : Nat) (h : ER w r T more A len cap l a en) (hen : en ≠ 0) (f : Value) :
    Calls Tryz.prog 88 #[.pointer (some ⟨r, 0, none⟩), f] w fun e w' => e = .returned (.int .u64 0) ∧ w = w' := by
  have hc2 := h.c2
  have hn : ((en : Int) != 0) = true := by rw [bne_iff_ne]; omega
  clear h hen
  go_enter Tryz.func88, Tryz.ntmps88
  go_wp2_with fail
  go_ret
  exact ⟨rfl, rfl⟩

theorem idle_string (w : World) (r : Nat) (T : TypeId) (more : List Value) (A : Option Addr) (len cap : Nat) (l : List UInt8) (a en : Nat) (h : ER w r T more A len cap l a en) (hen : en ≠ 0) (f : Value) :
    Calls Tryz.prog 65 #[.pointer (some ⟨r, 0, none⟩), f] w fun e w' => e = .returned (.string ⟨#[]⟩) ∧ w = w' := by
  have hc2 := h.c2
  have hn : ((en : Int) != 0) = true := by rw [bne_iff_ne]; omega
  clear h hen
  go_enter Tryz.func65, Tryz.ntmps65
  go_wp2_with fail
  go_ret
  exact ⟨rfl, rfl⟩

theorem idle_int64 (w : World) (r : Nat) (T : TypeId) (more : List Value) (A : Option Addr) (len cap : Nat) (l : List UInt8) (a en : Nat) (h : ER w r T more A len cap l a en) (hen : en ≠ 0) (f : Value) :
    Calls Tryz.prog 63 #[.pointer (some ⟨r, 0, none⟩), f] w fun e w' => e = .returned (.int .i64 0) ∧ w = w' := by
  have hc2 := h.c2
  have hn : ((en : Int) != 0) = true := by rw [bne_iff_ne]; omega
  clear h hen
  go_enter Tryz.func63, Tryz.ntmps63
  go_wp2_with fail
  go_ret
  exact ⟨rfl, rfl⟩

end Go.Proofs.YtpbheicfplpemaaGreat
