/- queue's reader: fail, num, count. -/
import Derived.Test.YtpbheicfplpemaaGreatQuRd
import Derived.Test.YtpbheicfplpemaaGreatBlk
import Derived.Deep.Cut
namespace Go.Proofs.YtpbheicfplpemaaGreat
open Go.RowKit

/-- a number from 0 on, no greater than may be -/
def rdNum (l : List UInt8) (a : Nat) : Except (Nat × Nat) (Nat × Nat) :=
  match Cd.rdUint l a with
  | .ok (n, to) => if 4611686018427387904 < n then .error (a, 1) else .ok (n, to)
  | .error e => .error e
def rdCnt (l : List UInt8) (a : Nat) : Except (Nat × Nat) (Nat × Nat) :=
  match rdNum l a with
  | .ok (n, to) => if 65536 < n then .error (a, 2) else .ok (n, to)
  | .error e => .error e
theorem rdNum_le {l : List UInt8} {a x n : Nat} (h : rdNum l a = .ok (x, n)) : n ≤ l.length ∧ x ≤ 4611686018427387904 := by
  unfold rdNum at h
  cases e : Cd.rdUint l a with
  | error q => rw [e] at h; cases h
  | ok q =>
    obtain ⟨m, to⟩ := q
    rw [e] at h
    simp only at h
    split at h
    · cases h
    · injection h with h; injection h with h1 h2; subst h1 h2; exact ⟨rdUint_le e, by omega⟩
theorem rdNum_er {l : List UInt8} {a p en : Nat} (ha : a ≤ l.length) (h : rdNum l a = .error (p, en)) : p ≤ l.length ∧ en ≠ 0 := by
  unfold rdNum at h
  cases e : Cd.rdUint l a with
  | error q => rw [e] at h; injection h with h; subst h; have := rdUint_er ha e; omega
  | ok q =>
    obtain ⟨m, to⟩ := q
    rw [e] at h
    simp only at h
    split at h
    · injection h with h; injection h with h1 h2; omega
    · cases h
set_option maxRecDepth 20000 in
theorem fail1 (w : World) (r : Nat) (T : TypeId) (_hT : T = 57) (A : Option Addr) (len cap : Nat) (l : List UInt8) (a e : Nat) (h : ER w r T [] A len cap l a e) (b en : Nat) (hb : b ≤ l.length) :
    Calls Tryz.prog 24 #[.pointer (some ⟨r, 0, none⟩), .int .i64 (b : Int), .int .i64 (en : Int)] w fun x w' => x = .returned (.tuple #[]) ∧ ER w' r T [] A len cap l b en ∧ w.grownBy w' (some r) := by
  have c1 := h.c1
  have c2 := h.c2
  have f1 := h.fz 1
  have f2 := h.fz 2
  have HE := Lib.hid h
  clear h
  go_enter Tryz.func24, Tryz.ntmps24
  go_wp2_with fail
  go_end0
  exact ⟨rfl, (HE.out.set1 b hb).set2 en, grown_set (grown_set (World.grownBy.refl _ _) _ _) _ _⟩
def NumY (w : World) (r : Nat) (T : TypeId) (A : Option Addr) (len cap : Nat) (l : List UInt8) (res : Except (Nat × Nat) (Nat × Nat)) (e : Ending) (w' : World) : Prop :=
  (match res with
  | .ok (x, n) => e = .returned (.int .i64 (x : Int)) ∧ ER w' r T [] A len cap l n 0
  | .error (p, en) => e = .returned (.int .i64 0) ∧ ER w' r T [] A len cap l p en) ∧ w.grownBy w' (some r)
set_option maxRecDepth 20000 in
theorem num_idle (w : World) (r : Nat) (T : TypeId) (A : Option Addr) (len cap : Nat) (l : List UInt8) (a en : Nat) (h : ER w r T [] A len cap l a en) (hen : en ≠ 0) :
    Calls Tryz.prog 62 #[.pointer (some ⟨r, 0, none⟩)] w fun e w' => e = .returned (.int .i64 0) ∧ w' = w := by
  have HI := Lib.hid (idle_uint64 w r T [] A len cap l a en h hen (.func (.func 89) #[] #[]))
  have c1 := h.c1
  have c2 := h.c2
  have hn : ((en : Int) == 0) = false := by rw [beq_eq_false_iff_ne]; omega
  clear h hen
  go_enter Tryz.func62, Tryz.ntmps62
  go_wp2_with (go_at_call 88; refine HI.out.mono ?_; rintro e w' ⟨rfl, rfl⟩)
  go_ret
  exact ⟨rfl, rfl⟩
set_option maxRecDepth 20000 in
theorem num_any (w : World) (r : Nat) (A : Option Addr) (len cap : Nat) (l : List UInt8) (a : Nat) (h : ER w r 57 [] A len cap l a 0) (hsz : l.length ≤ 1000000) :
    Calls Tryz.prog 62 #[.pointer (some ⟨r, 0, none⟩)] w (NumY w r 57 A len cap l (rdNum l a)) := by
  have hat := h.at_le
  have HN := Lib.hid (next_uint64 w r 57 [] A len cap l a h hsz)
  rw [rdUint_shft hat] at HN
  have c1 := h.c1
  clear h
  rcases hres : Cd.rdUint l a with ⟨p, en⟩ | ⟨x, n⟩
  · have HR : Hid (rdNum l a = .error (p, en)) := Lib.hid (by unfold rdNum; rw [hres])
    have her := rdUint_er hat hres
    have hn : ((en : Int) == 0) = false := by rw [beq_eq_false_iff_ne]; omega
    rw [hres] at HN
    clear hres her
    go_enter Tryz.func62, Tryz.ntmps62
    go_upto_region 3 with (go_at_call 88; refine HN.out.mono ?_; rintro e w2 ⟨⟨rfl, h2⟩, g2⟩; have H2 := Lib.hid h2; have G2 := Lib.hid g2; clear h2 g2)
    clear c1
    have c2 := H2.out.c2
    go_wp2_with fail
    go_ret
    show NumY w r 57 A len cap l (rdNum l a) _ _
    rw [HR.out]
    exact ⟨⟨rfl, H2.out⟩, G2.out⟩
  · have hlt := Cd.rdUint_lt hres
    rw [hres] at HN
    by_cases hx : 4611686018427387904 < x
    · have HR : Hid (rdNum l a = .error (a, 1)) := Lib.hid (by unfold rdNum; rw [hres]; simp only; rw [if_pos hx])
      have hgt : decide ((4611686018427387904 : Int) < (x : Int)) = true := decide_eq_true (by omega)
      clear hres
      unfold u64V at HN
      go_enter Tryz.func62, Tryz.ntmps62
      go_upto_region 3 with (go_at_call 88; refine HN.out.mono ?_; rintro e w2 ⟨⟨rfl, h2⟩, g2⟩; have H2 := Lib.hid h2; have G2 := Lib.hid g2; clear h2 g2)
      clear c1
      have c2 := H2.out.c2
      have HF := Lib.hid (fail1 w2 r _ rfl A len cap l n 0 H2.out a 1 hat)
      go_wp2_with (go_at_call 24; refine HF.out.mono ?_; rintro e w3 ⟨rfl, h3, g3⟩; have H3 := Lib.hid h3; have G3 := Lib.hid g3; clear h3 g3)
      go_ret
      show NumY w r 57 A len cap l (rdNum l a) _ _
      rw [HR.out]
      exact ⟨⟨rfl, H3.out⟩, G2.out.trans G3.out⟩
    · have HR : Hid (rdNum l a = .ok (x, n)) := Lib.hid (by unfold rdNum; rw [hres]; simp only; rw [if_neg hx])
      have hgt : decide ((4611686018427387904 : Int) < (x : Int)) = false := decide_eq_false (by omega)
      have hw : IntKind.i64.wrap (x : Int) = (x : Int) := by rw [IntKind.wrap_i64]; omega
      clear hres
      unfold u64V at HN
      go_enter Tryz.func62, Tryz.ntmps62
      go_upto_region 3 with (go_at_call 88; refine HN.out.mono ?_; rintro e w2 ⟨⟨rfl, h2⟩, g2⟩; have H2 := Lib.hid h2; have G2 := Lib.hid g2; clear h2 g2)
      clear c1
      have c2 := H2.out.c2
      go_wp2_with fail
      go_ret
      show NumY w r 57 A len cap l (rdNum l a) _ _
      rw [HR.out]
      exact ⟨⟨rfl, H2.out⟩, G2.out⟩
end Go.Proofs.YtpbheicfplpemaaGreat
