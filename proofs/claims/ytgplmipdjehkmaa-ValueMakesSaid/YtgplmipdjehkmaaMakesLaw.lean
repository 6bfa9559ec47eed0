/- ValueMakes: the walk. -/
import Derived.Test.YtgplmipdjehkmaaMakes
import Derived.Laws.Cover2
namespace Go.Proofs.Ytgplmipdjehkmaa
open Go.RowKit
attribute [local go_sem] run_store_cx'

theorem Lone.fz {w : World} {g : Nat} {x : Nd} (h : Lone w g x) (o : Nat) : w.frozen? ⟨g, o, none⟩ = false := by
  unfold Lone at h; simp [World.frozen?, h]
theorem lone_set {w : World} {g : Nat} {x : Nd} (h : Lone w g x) {p : Addr} (v : Value) (hp : g ≠ p.block) : Lone (w.setCell p v) g x := (Below.heap_setCell w p v g hp).trans h
theorem below_trans' {a b c : World} (h : Below a.heap.size a b) (k : Below b.heap.size b c) : Below a.heap.size a c := h.trans (k.mono h.size)
theorem int2 (n : Int) : (Nd.cells { nd0 2 with int := n })[2]? = some (.int .i64 n) := rfl

set_option maxRecDepth 20000 in
set_option maxHeartbeats 4000000 in
/-- the text's half and the number's half: what was made is like what the document makes -/
theorem makes_of (a0 : Int) (l : List UInt8) (p q : Nat) (hp : p < 18446744073709551616) (hq : q < 18446744073709551616) (w : World) :
    Calls Try.prog 4 #[.int .i64 a0, .string ⟨l.toArray⟩, .float .f64 p, .float .f64 q] w fun e w' => e = .returned (.bool true) ∧ Below w.heap.size w w' := by
  have P1 := Lib.hid hp
  have P2 := Lib.hid hq
  clear hp hq
  by_cases hl : (4095 : Int) < (l.length : Int) <;> by_cases hf : (fin64 p && fin64 q) = true
  · have T := Lib.hid (fun w => mk_text_long l hl w)
    have N := Lib.hid (fun w => mk_num_any p q P1.out P2.out hf w)
    have F := Lib.hid (show (fine64 (pl64 p) && fine64 (pl64 q)) = true by rw [pl64_fine, pl64_fine]; exact hf)
    have BB : Below w.heap.size w w := Below.refl _ _
    clear hf
    go_enter Try.func4, Try.ntmps4
    go_wp2_with fail
    refine (T.out _).mono ?_
    rintro e w1 ⟨rfl, rfl⟩
    go_wp2_with fail
    refine (N.out _).mono ?_
    rintro e wn ⟨gn, rfl, hgn, ln, B⟩
    replace BB := below_trans' BB B
    clear B
    go_wp2_with fail
    refine (rplain_any p q _).mono ?_
    rintro e w3 ⟨rfl, rfl⟩
    go_wp2_with fail
    refine (rfine_any _ _ _).mono ?_
    rintro e w3 ⟨rfl, rfl⟩
    rw [F.out]
    go_wp2_with fail
    refine (rnum_any _ _ _).mono ?_
    rintro e w3 ⟨gx, rfl, hgx, lx, B⟩
    replace BB := below_trans' BB B
    replace ln := ln.below B ln.lt
    clear B hgx
    go_wp2_with fail
    refine (alike_any _ _ _ _ _ _ ln lx).mono ?_
    rintro e w4 ⟨rfl, B⟩
    replace BB := below_trans' BB B
    replace ln := ln.below B ln.lt
    have c4 := ln.cell 4 (by omega)
    simp only [Nd.cells, List.getElem?_cons_succ, List.getElem?_cons_zero, nd0] at c4
    clear B lx ln
    go_wp2_with fail
    refine (rfine_any _ _ _).mono ?_
    rintro e w5 ⟨rfl, rfl⟩
    rw [F.out]
    clear c4
    clear T N F P1 P2
    go_wp2_with fail
    refine (mk_int_any a0 _).mono ?_
    rintro e w1 ⟨gi, rfl, hgi, li, B⟩
    have hsz : w.heap.size ≤ gi := Nat.le_trans BB.size hgi
    clear hgi
    replace BB := below_trans' BB B
    clear B
    go_wp2_with fail
    refine (mk_bool_any true _).mono ?_
    rintro e w2 ⟨gb, rfl, hgb, lb, B⟩
    have hib : gi < gb := Nat.lt_of_lt_of_le li.lt hgb
    replace BB := below_trans' BB B
    replace li := li.below B li.lt
    clear B hgb
    go_wp2_with fail
    refine (mk_bool_any false _).mono ?_
    rintro e w3 ⟨gc, rfl, hgc, lc, B⟩
    have hbc : gb < gc := Nat.lt_of_lt_of_le lb.lt hgc
    replace BB := below_trans' BB B
    replace li := li.below B li.lt
    replace lb := lb.below B lb.lt
    clear B hgc
    go_wp2_with fail
    refine (none_any _).mono ?_
    rintro e w4 ⟨gd, rfl, hgd, ld, B⟩
    have hcd : gc < gd := Nat.lt_of_lt_of_le lc.lt hgd
    replace BB := below_trans' BB B
    replace li := li.below B li.lt
    replace lb := lb.below B lb.lt
    replace lc := lc.below B lc.lt
    clear B hgd
    go_wp2_with fail
    refine (rint_any a0 _).mono ?_
    rintro e w5 ⟨gx, rfl, hgx, lx, B⟩
    replace BB := below_trans' BB B
    replace li := li.below B li.lt
    replace lb := lb.below B lb.lt
    replace lc := lc.below B lc.lt
    replace ld := ld.below B ld.lt
    clear B hgx
    go_wp2_with fail
    refine (alike_any _ _ _ _ _ _ li lx).mono ?_
    rintro e w6 ⟨rfl, B⟩
    replace BB := below_trans' BB B
    replace li := li.below B li.lt
    replace lb := lb.below B lb.lt
    replace lc := lc.below B lc.lt
    replace ld := ld.below B ld.lt
    clear B lx
    go_wp2_with fail
    refine (rtrue_any _).mono ?_
    rintro e w5 ⟨gx, rfl, hgx, lx, B⟩
    replace BB := below_trans' BB B
    replace li := li.below B li.lt
    replace lb := lb.below B lb.lt
    replace lc := lc.below B lc.lt
    replace ld := ld.below B ld.lt
    clear B hgx
    go_wp2_with fail
    refine (alike_any _ _ _ _ _ _ lb lx).mono ?_
    rintro e w6 ⟨rfl, B⟩
    replace BB := below_trans' BB B
    replace li := li.below B li.lt
    replace lb := lb.below B lb.lt
    replace lc := lc.below B lc.lt
    replace ld := ld.below B ld.lt
    clear B lx
    go_wp2_with fail
    refine (rfalse_any _).mono ?_
    rintro e w5 ⟨gx, rfl, hgx, lx, B⟩
    replace BB := below_trans' BB B
    replace li := li.below B li.lt
    replace lb := lb.below B lb.lt
    replace lc := lc.below B lc.lt
    replace ld := ld.below B ld.lt
    clear B hgx
    go_wp2_with fail
    refine (alike_any _ _ _ _ _ _ lc lx).mono ?_
    rintro e w6 ⟨rfl, B⟩
    replace BB := below_trans' BB B
    replace li := li.below B li.lt
    replace lb := lb.below B lb.lt
    replace lc := lc.below B lc.lt
    replace ld := ld.below B ld.lt
    clear B lx
    go_wp2_with fail
    refine (rnone_any _).mono ?_
    rintro e w5 ⟨gx, rfl, hgx, lx, B⟩
    replace BB := below_trans' BB B
    replace li := li.below B li.lt
    replace lb := lb.below B lb.lt
    replace lc := lc.below B lc.lt
    replace ld := ld.below B ld.lt
    clear B hgx
    go_wp2_with fail
    refine (alike_any _ _ _ _ _ _ ld lx).mono ?_
    rintro e w6 ⟨rfl, B⟩
    replace BB := below_trans' BB B
    replace li := li.below B li.lt
    replace lb := lb.below B lb.lt
    replace lc := lc.below B lc.lt
    replace ld := ld.below B ld.lt
    clear B lx
    have i2 := li.cell 2 (by omega)
    simp only [Nd.cells, List.getElem?_cons_succ, List.getElem?_cons_zero, nd0] at i2
    have f2 := li.fz 2
    have b2 := lb.cell 2 (by omega)
    simp only [Nd.cells, List.getElem?_cons_succ, List.getElem?_cons_zero, nd0] at b2
    have fb := lb.fz 2
    have k0 := lc.cell 0 (by omega)
    simp only [Nd.cells, List.getElem?_cons_succ, List.getElem?_cons_zero, nd0] at k0
    have fc := lc.fz 0
    have d0 := ld.cell 0 (by omega)
    simp only [Nd.cells, List.getElem?_cons_succ, List.getElem?_cons_zero, nd0] at d0
    have fd := ld.fz 0
    have n1 : gi ≠ gb := by omega
    have n2 : gi ≠ gc := by omega
    have n3 : gi ≠ gd := by omega
    have n4 : gb ≠ gc := by omega
    have n5 : gb ≠ gd := by omega
    have n6 : gc ≠ gd := by omega
    clear li lb lc ld
    replace BB := (((BB.setCell (p := ⟨gi, 2, none⟩) hsz (.int .i64 (wrap64 (a0 + 1)))).setCell (p := ⟨gb, 2, none⟩) (by simp only; omega) (.int .i64 7)).setCell (p := ⟨gc, 0, none⟩) (by simp only; omega) (.int .u8 9)).setCell (p := ⟨gd, 0, none⟩) (by simp only; omega) (.int .u8 9)
    go_wp2_with fail
    generalize ((((w6.setCell ⟨gi, 2, none⟩ (.int .i64 (wrap64 (a0 + 1)))).setCell ⟨gb, 2, none⟩ (.int .i64 7)).setCell ⟨gc, 0, none⟩ (.int .u8 9)).setCell ⟨gd, 0, none⟩ (.int .u8 9)) = W at BB ⊢
    clear i2 f2 b2 fb k0 fc d0 fd n1 n2 n3 n4 n5 n6 hib hbc hcd hsz
    refine (mk_int_any a0 _).mono ?_
    rintro e w7 ⟨gx, rfl, hgx, lx, B⟩
    replace BB := below_trans' BB B
    clear B hgx
    go_wp2_with fail
    refine (rint_any a0 _).mono ?_
    rintro e w8 ⟨gy, rfl, hgy, ly, B⟩
    replace BB := below_trans' BB B
    replace lx := lx.below B lx.lt
    clear B hgy
    go_wp2_with fail
    refine (alike_any _ _ _ _ _ _ lx ly).mono ?_
    rintro e w9 ⟨rfl, B⟩
    replace BB := below_trans' BB B
    clear B lx ly
    go_wp2_with fail
    refine (mk_bool_any true _).mono ?_
    rintro e w7 ⟨gx, rfl, hgx, lx, B⟩
    replace BB := below_trans' BB B
    clear B hgx
    go_wp2_with fail
    refine (rtrue_any _).mono ?_
    rintro e w8 ⟨gy, rfl, hgy, ly, B⟩
    replace BB := below_trans' BB B
    replace lx := lx.below B lx.lt
    clear B hgy
    go_wp2_with fail
    refine (alike_any _ _ _ _ _ _ lx ly).mono ?_
    rintro e w9 ⟨rfl, B⟩
    replace BB := below_trans' BB B
    clear B lx ly
    go_wp2_with fail
    refine (mk_bool_any false _).mono ?_
    rintro e w7 ⟨gx, rfl, hgx, lx, B⟩
    replace BB := below_trans' BB B
    clear B hgx
    go_wp2_with fail
    refine (rfalse_any _).mono ?_
    rintro e w8 ⟨gy, rfl, hgy, ly, B⟩
    replace BB := below_trans' BB B
    replace lx := lx.below B lx.lt
    clear B hgy
    go_wp2_with fail
    refine (alike_any _ _ _ _ _ _ lx ly).mono ?_
    rintro e w9 ⟨rfl, B⟩
    replace BB := below_trans' BB B
    clear B lx ly
    go_wp2_with fail
    refine (none_any _).mono ?_
    rintro e w7 ⟨gx, rfl, hgx, lx, B⟩
    replace BB := below_trans' BB B
    clear B hgx
    go_wp2_with fail
    refine (rnone_any _).mono ?_
    rintro e w8 ⟨gy, rfl, hgy, ly, B⟩
    replace BB := below_trans' BB B
    replace lx := lx.below B lx.lt
    clear B hgy
    go_wp2_with fail
    refine (alike_any _ _ _ _ _ _ lx ly).mono ?_
    rintro e w9 ⟨rfl, B⟩
    replace BB := below_trans' BB B
    clear B lx ly
    go_wp2_with fail
    go_ret
    exact ⟨rfl, BB⟩
  · have T := Lib.hid (fun w => mk_text_long l hl w)
    have N := Lib.hid (fun w => mk_num_bad p q P1.out P2.out (by simpa using hf) w)
    have F := Lib.hid (show (fine64 (pl64 p) && fine64 (pl64 q)) = false by rw [pl64_fine, pl64_fine]; exact (by simpa using hf))
    have BB : Below w.heap.size w w := Below.refl _ _
    clear hf
    go_enter Try.func4, Try.ntmps4
    go_wp2_with fail
    refine (T.out _).mono ?_
    rintro e w1 ⟨rfl, rfl⟩
    go_wp2_with fail
    refine (N.out _).mono ?_
    rintro e wn ⟨rfl, B⟩
    replace BB := below_trans' BB B
    clear B
    go_wp2_with fail
    refine (rplain_any p q _).mono ?_
    rintro e w3 ⟨rfl, rfl⟩
    go_wp2_with fail
    refine (rfine_any _ _ _).mono ?_
    rintro e w3 ⟨rfl, rfl⟩
    rw [F.out]
    clear T N F P1 P2
    go_wp2_with fail
    refine (mk_int_any a0 _).mono ?_
    rintro e w1 ⟨gi, rfl, hgi, li, B⟩
    have hsz : w.heap.size ≤ gi := Nat.le_trans BB.size hgi
    clear hgi
    replace BB := below_trans' BB B
    clear B
    go_wp2_with fail
    refine (mk_bool_any true _).mono ?_
    rintro e w2 ⟨gb, rfl, hgb, lb, B⟩
    have hib : gi < gb := Nat.lt_of_lt_of_le li.lt hgb
    replace BB := below_trans' BB B
    replace li := li.below B li.lt
    clear B hgb
    go_wp2_with fail
    refine (mk_bool_any false _).mono ?_
    rintro e w3 ⟨gc, rfl, hgc, lc, B⟩
    have hbc : gb < gc := Nat.lt_of_lt_of_le lb.lt hgc
    replace BB := below_trans' BB B
    replace li := li.below B li.lt
    replace lb := lb.below B lb.lt
    clear B hgc
    go_wp2_with fail
    refine (none_any _).mono ?_
    rintro e w4 ⟨gd, rfl, hgd, ld, B⟩
    have hcd : gc < gd := Nat.lt_of_lt_of_le lc.lt hgd
    replace BB := below_trans' BB B
    replace li := li.below B li.lt
    replace lb := lb.below B lb.lt
    replace lc := lc.below B lc.lt
    clear B hgd
    go_wp2_with fail
    refine (rint_any a0 _).mono ?_
    rintro e w5 ⟨gx, rfl, hgx, lx, B⟩
    replace BB := below_trans' BB B
    replace li := li.below B li.lt
    replace lb := lb.below B lb.lt
    replace lc := lc.below B lc.lt
    replace ld := ld.below B ld.lt
    clear B hgx
    go_wp2_with fail
    refine (alike_any _ _ _ _ _ _ li lx).mono ?_
    rintro e w6 ⟨rfl, B⟩
    replace BB := below_trans' BB B
    replace li := li.below B li.lt
    replace lb := lb.below B lb.lt
    replace lc := lc.below B lc.lt
    replace ld := ld.below B ld.lt
    clear B lx
    go_wp2_with fail
    refine (rtrue_any _).mono ?_
    rintro e w5 ⟨gx, rfl, hgx, lx, B⟩
    replace BB := below_trans' BB B
    replace li := li.below B li.lt
    replace lb := lb.below B lb.lt
    replace lc := lc.below B lc.lt
    replace ld := ld.below B ld.lt
    clear B hgx
    go_wp2_with fail
    refine (alike_any _ _ _ _ _ _ lb lx).mono ?_
    rintro e w6 ⟨rfl, B⟩
    replace BB := below_trans' BB B
    replace li := li.below B li.lt
    replace lb := lb.below B lb.lt
    replace lc := lc.below B lc.lt
    replace ld := ld.below B ld.lt
    clear B lx
    go_wp2_with fail
    refine (rfalse_any _).mono ?_
    rintro e w5 ⟨gx, rfl, hgx, lx, B⟩
    replace BB := below_trans' BB B
    replace li := li.below B li.lt
    replace lb := lb.below B lb.lt
    replace lc := lc.below B lc.lt
    replace ld := ld.below B ld.lt
    clear B hgx
    go_wp2_with fail
    refine (alike_any _ _ _ _ _ _ lc lx).mono ?_
    rintro e w6 ⟨rfl, B⟩
    replace BB := below_trans' BB B
    replace li := li.below B li.lt
    replace lb := lb.below B lb.lt
    replace lc := lc.below B lc.lt
    replace ld := ld.below B ld.lt
    clear B lx
    go_wp2_with fail
    refine (rnone_any _).mono ?_
    rintro e w5 ⟨gx, rfl, hgx, lx, B⟩
    replace BB := below_trans' BB B
    replace li := li.below B li.lt
    replace lb := lb.below B lb.lt
    replace lc := lc.below B lc.lt
    replace ld := ld.below B ld.lt
    clear B hgx
    go_wp2_with fail
    refine (alike_any _ _ _ _ _ _ ld lx).mono ?_
    rintro e w6 ⟨rfl, B⟩
    replace BB := below_trans' BB B
    replace li := li.below B li.lt
    replace lb := lb.below B lb.lt
    replace lc := lc.below B lc.lt
    replace ld := ld.below B ld.lt
    clear B lx
    have i2 := li.cell 2 (by omega)
    simp only [Nd.cells, List.getElem?_cons_succ, List.getElem?_cons_zero, nd0] at i2
    have f2 := li.fz 2
    have b2 := lb.cell 2 (by omega)
    simp only [Nd.cells, List.getElem?_cons_succ, List.getElem?_cons_zero, nd0] at b2
    have fb := lb.fz 2
    have k0 := lc.cell 0 (by omega)
    simp only [Nd.cells, List.getElem?_cons_succ, List.getElem?_cons_zero, nd0] at k0
    have fc := lc.fz 0
    have d0 := ld.cell 0 (by omega)
    simp only [Nd.cells, List.getElem?_cons_succ, List.getElem?_cons_zero, nd0] at d0
    have fd := ld.fz 0
    have n1 : gi ≠ gb := by omega
    have n2 : gi ≠ gc := by omega
    have n3 : gi ≠ gd := by omega
    have n4 : gb ≠ gc := by omega
    have n5 : gb ≠ gd := by omega
    have n6 : gc ≠ gd := by omega
    clear li lb lc ld
    replace BB := (((BB.setCell (p := ⟨gi, 2, none⟩) hsz (.int .i64 (wrap64 (a0 + 1)))).setCell (p := ⟨gb, 2, none⟩) (by simp only; omega) (.int .i64 7)).setCell (p := ⟨gc, 0, none⟩) (by simp only; omega) (.int .u8 9)).setCell (p := ⟨gd, 0, none⟩) (by simp only; omega) (.int .u8 9)
    go_wp2_with fail
    generalize ((((w6.setCell ⟨gi, 2, none⟩ (.int .i64 (wrap64 (a0 + 1)))).setCell ⟨gb, 2, none⟩ (.int .i64 7)).setCell ⟨gc, 0, none⟩ (.int .u8 9)).setCell ⟨gd, 0, none⟩ (.int .u8 9)) = W at BB ⊢
    clear i2 f2 b2 fb k0 fc d0 fd n1 n2 n3 n4 n5 n6 hib hbc hcd hsz
    refine (mk_int_any a0 _).mono ?_
    rintro e w7 ⟨gx, rfl, hgx, lx, B⟩
    replace BB := below_trans' BB B
    clear B hgx
    go_wp2_with fail
    refine (rint_any a0 _).mono ?_
    rintro e w8 ⟨gy, rfl, hgy, ly, B⟩
    replace BB := below_trans' BB B
    replace lx := lx.below B lx.lt
    clear B hgy
    go_wp2_with fail
    refine (alike_any _ _ _ _ _ _ lx ly).mono ?_
    rintro e w9 ⟨rfl, B⟩
    replace BB := below_trans' BB B
    clear B lx ly
    go_wp2_with fail
    refine (mk_bool_any true _).mono ?_
    rintro e w7 ⟨gx, rfl, hgx, lx, B⟩
    replace BB := below_trans' BB B
    clear B hgx
    go_wp2_with fail
    refine (rtrue_any _).mono ?_
    rintro e w8 ⟨gy, rfl, hgy, ly, B⟩
    replace BB := below_trans' BB B
    replace lx := lx.below B lx.lt
    clear B hgy
    go_wp2_with fail
    refine (alike_any _ _ _ _ _ _ lx ly).mono ?_
    rintro e w9 ⟨rfl, B⟩
    replace BB := below_trans' BB B
    clear B lx ly
    go_wp2_with fail
    refine (mk_bool_any false _).mono ?_
    rintro e w7 ⟨gx, rfl, hgx, lx, B⟩
    replace BB := below_trans' BB B
    clear B hgx
    go_wp2_with fail
    refine (rfalse_any _).mono ?_
    rintro e w8 ⟨gy, rfl, hgy, ly, B⟩
    replace BB := below_trans' BB B
    replace lx := lx.below B lx.lt
    clear B hgy
    go_wp2_with fail
    refine (alike_any _ _ _ _ _ _ lx ly).mono ?_
    rintro e w9 ⟨rfl, B⟩
    replace BB := below_trans' BB B
    clear B lx ly
    go_wp2_with fail
    refine (none_any _).mono ?_
    rintro e w7 ⟨gx, rfl, hgx, lx, B⟩
    replace BB := below_trans' BB B
    clear B hgx
    go_wp2_with fail
    refine (rnone_any _).mono ?_
    rintro e w8 ⟨gy, rfl, hgy, ly, B⟩
    replace BB := below_trans' BB B
    replace lx := lx.below B lx.lt
    clear B hgy
    go_wp2_with fail
    refine (alike_any _ _ _ _ _ _ lx ly).mono ?_
    rintro e w9 ⟨rfl, B⟩
    replace BB := below_trans' BB B
    clear B lx ly
    go_wp2_with fail
    go_ret
    exact ⟨rfl, BB⟩
  · have T := Lib.hid (fun w => mk_text_any l hl w)
    have N := Lib.hid (fun w => mk_num_any p q P1.out P2.out hf w)
    have F := Lib.hid (show (fine64 (pl64 p) && fine64 (pl64 q)) = true by rw [pl64_fine, pl64_fine]; exact hf)
    have BB : Below w.heap.size w w := Below.refl _ _
    clear hf
    go_enter Try.func4, Try.ntmps4
    go_wp2_with fail
    refine (T.out _).mono ?_
    rintro e wt ⟨gt, rfl, hgt, lt, B⟩
    replace BB := below_trans' BB B
    clear B hgt
    go_wp2_with fail
    refine (N.out _).mono ?_
    rintro e wn ⟨gn, rfl, hgn, ln, B⟩
    replace BB := below_trans' BB B
    replace lt := lt.below B lt.lt
    clear B
    go_wp2_with fail
    refine (rtext_any l _).mono ?_
    rintro e w1 ⟨gx, rfl, hgx, lx, B⟩
    replace BB := below_trans' BB B
    replace lt := lt.below B lt.lt
    replace ln := ln.below B ln.lt
    clear B hgx
    go_wp2_with fail
    refine (alike_any _ _ _ _ _ _ lt lx).mono ?_
    rintro e w2 ⟨rfl, B⟩
    replace BB := below_trans' BB B
    replace ln := ln.below B ln.lt
    clear B lt lx
    go_wp2_with fail
    refine (rplain_any p q _).mono ?_
    rintro e w3 ⟨rfl, rfl⟩
    go_wp2_with fail
    refine (rfine_any _ _ _).mono ?_
    rintro e w3 ⟨rfl, rfl⟩
    rw [F.out]
    go_wp2_with fail
    refine (rnum_any _ _ _).mono ?_
    rintro e w3 ⟨gx, rfl, hgx, lx, B⟩
    replace BB := below_trans' BB B
    replace ln := ln.below B ln.lt
    clear B hgx
    go_wp2_with fail
    refine (alike_any _ _ _ _ _ _ ln lx).mono ?_
    rintro e w4 ⟨rfl, B⟩
    replace BB := below_trans' BB B
    replace ln := ln.below B ln.lt
    have c4 := ln.cell 4 (by omega)
    simp only [Nd.cells, List.getElem?_cons_succ, List.getElem?_cons_zero, nd0] at c4
    clear B lx ln
    go_wp2_with fail
    refine (rfine_any _ _ _).mono ?_
    rintro e w5 ⟨rfl, rfl⟩
    rw [F.out]
    clear c4
    clear T N F P1 P2
    go_wp2_with fail
    refine (mk_int_any a0 _).mono ?_
    rintro e w1 ⟨gi, rfl, hgi, li, B⟩
    have hsz : w.heap.size ≤ gi := Nat.le_trans BB.size hgi
    clear hgi
    replace BB := below_trans' BB B
    clear B
    go_wp2_with fail
    refine (mk_bool_any true _).mono ?_
    rintro e w2 ⟨gb, rfl, hgb, lb, B⟩
    have hib : gi < gb := Nat.lt_of_lt_of_le li.lt hgb
    replace BB := below_trans' BB B
    replace li := li.below B li.lt
    clear B hgb
    go_wp2_with fail
    refine (mk_bool_any false _).mono ?_
    rintro e w3 ⟨gc, rfl, hgc, lc, B⟩
    have hbc : gb < gc := Nat.lt_of_lt_of_le lb.lt hgc
    replace BB := below_trans' BB B
    replace li := li.below B li.lt
    replace lb := lb.below B lb.lt
    clear B hgc
    go_wp2_with fail
    refine (none_any _).mono ?_
    rintro e w4 ⟨gd, rfl, hgd, ld, B⟩
    have hcd : gc < gd := Nat.lt_of_lt_of_le lc.lt hgd
    replace BB := below_trans' BB B
    replace li := li.below B li.lt
    replace lb := lb.below B lb.lt
    replace lc := lc.below B lc.lt
    clear B hgd
    go_wp2_with fail
    refine (rint_any a0 _).mono ?_
    rintro e w5 ⟨gx, rfl, hgx, lx, B⟩
    replace BB := below_trans' BB B
    replace li := li.below B li.lt
    replace lb := lb.below B lb.lt
    replace lc := lc.below B lc.lt
    replace ld := ld.below B ld.lt
    clear B hgx
    go_wp2_with fail
    refine (alike_any _ _ _ _ _ _ li lx).mono ?_
    rintro e w6 ⟨rfl, B⟩
    replace BB := below_trans' BB B
    replace li := li.below B li.lt
    replace lb := lb.below B lb.lt
    replace lc := lc.below B lc.lt
    replace ld := ld.below B ld.lt
    clear B lx
    go_wp2_with fail
    refine (rtrue_any _).mono ?_
    rintro e w5 ⟨gx, rfl, hgx, lx, B⟩
    replace BB := below_trans' BB B
    replace li := li.below B li.lt
    replace lb := lb.below B lb.lt
    replace lc := lc.below B lc.lt
    replace ld := ld.below B ld.lt
    clear B hgx
    go_wp2_with fail
    refine (alike_any _ _ _ _ _ _ lb lx).mono ?_
    rintro e w6 ⟨rfl, B⟩
    replace BB := below_trans' BB B
    replace li := li.below B li.lt
    replace lb := lb.below B lb.lt
    replace lc := lc.below B lc.lt
    replace ld := ld.below B ld.lt
    clear B lx
    go_wp2_with fail
    refine (rfalse_any _).mono ?_
    rintro e w5 ⟨gx, rfl, hgx, lx, B⟩
    replace BB := below_trans' BB B
    replace li := li.below B li.lt
    replace lb := lb.below B lb.lt
    replace lc := lc.below B lc.lt
    replace ld := ld.below B ld.lt
    clear B hgx
    go_wp2_with fail
    refine (alike_any _ _ _ _ _ _ lc lx).mono ?_
    rintro e w6 ⟨rfl, B⟩
    replace BB := below_trans' BB B
    replace li := li.below B li.lt
    replace lb := lb.below B lb.lt
    replace lc := lc.below B lc.lt
    replace ld := ld.below B ld.lt
    clear B lx
    go_wp2_with fail
    refine (rnone_any _).mono ?_
    rintro e w5 ⟨gx, rfl, hgx, lx, B⟩
    replace BB := below_trans' BB B
    replace li := li.below B li.lt
    replace lb := lb.below B lb.lt
    replace lc := lc.below B lc.lt
    replace ld := ld.below B ld.lt
    clear B hgx
    go_wp2_with fail
    refine (alike_any _ _ _ _ _ _ ld lx).mono ?_
    rintro e w6 ⟨rfl, B⟩
    replace BB := below_trans' BB B
    replace li := li.below B li.lt
    replace lb := lb.below B lb.lt
    replace lc := lc.below B lc.lt
    replace ld := ld.below B ld.lt
    clear B lx
    have i2 := li.cell 2 (by omega)
    simp only [Nd.cells, List.getElem?_cons_succ, List.getElem?_cons_zero, nd0] at i2
    have f2 := li.fz 2
    have b2 := lb.cell 2 (by omega)
    simp only [Nd.cells, List.getElem?_cons_succ, List.getElem?_cons_zero, nd0] at b2
    have fb := lb.fz 2
    have k0 := lc.cell 0 (by omega)
    simp only [Nd.cells, List.getElem?_cons_succ, List.getElem?_cons_zero, nd0] at k0
    have fc := lc.fz 0
    have d0 := ld.cell 0 (by omega)
    simp only [Nd.cells, List.getElem?_cons_succ, List.getElem?_cons_zero, nd0] at d0
    have fd := ld.fz 0
    have n1 : gi ≠ gb := by omega
    have n2 : gi ≠ gc := by omega
    have n3 : gi ≠ gd := by omega
    have n4 : gb ≠ gc := by omega
    have n5 : gb ≠ gd := by omega
    have n6 : gc ≠ gd := by omega
    clear li lb lc ld
    replace BB := (((BB.setCell (p := ⟨gi, 2, none⟩) hsz (.int .i64 (wrap64 (a0 + 1)))).setCell (p := ⟨gb, 2, none⟩) (by simp only; omega) (.int .i64 7)).setCell (p := ⟨gc, 0, none⟩) (by simp only; omega) (.int .u8 9)).setCell (p := ⟨gd, 0, none⟩) (by simp only; omega) (.int .u8 9)
    go_wp2_with fail
    generalize ((((w6.setCell ⟨gi, 2, none⟩ (.int .i64 (wrap64 (a0 + 1)))).setCell ⟨gb, 2, none⟩ (.int .i64 7)).setCell ⟨gc, 0, none⟩ (.int .u8 9)).setCell ⟨gd, 0, none⟩ (.int .u8 9)) = W at BB ⊢
    clear i2 f2 b2 fb k0 fc d0 fd n1 n2 n3 n4 n5 n6 hib hbc hcd hsz
    refine (mk_int_any a0 _).mono ?_
    rintro e w7 ⟨gx, rfl, hgx, lx, B⟩
    replace BB := below_trans' BB B
    clear B hgx
    go_wp2_with fail
    refine (rint_any a0 _).mono ?_
    rintro e w8 ⟨gy, rfl, hgy, ly, B⟩
    replace BB := below_trans' BB B
    replace lx := lx.below B lx.lt
    clear B hgy
    go_wp2_with fail
    refine (alike_any _ _ _ _ _ _ lx ly).mono ?_
    rintro e w9 ⟨rfl, B⟩
    replace BB := below_trans' BB B
    clear B lx ly
    go_wp2_with fail
    refine (mk_bool_any true _).mono ?_
    rintro e w7 ⟨gx, rfl, hgx, lx, B⟩
    replace BB := below_trans' BB B
    clear B hgx
    go_wp2_with fail
    refine (rtrue_any _).mono ?_
    rintro e w8 ⟨gy, rfl, hgy, ly, B⟩
    replace BB := below_trans' BB B
    replace lx := lx.below B lx.lt
    clear B hgy
    go_wp2_with fail
    refine (alike_any _ _ _ _ _ _ lx ly).mono ?_
    rintro e w9 ⟨rfl, B⟩
    replace BB := below_trans' BB B
    clear B lx ly
    go_wp2_with fail
    refine (mk_bool_any false _).mono ?_
    rintro e w7 ⟨gx, rfl, hgx, lx, B⟩
    replace BB := below_trans' BB B
    clear B hgx
    go_wp2_with fail
    refine (rfalse_any _).mono ?_
    rintro e w8 ⟨gy, rfl, hgy, ly, B⟩
    replace BB := below_trans' BB B
    replace lx := lx.below B lx.lt
    clear B hgy
    go_wp2_with fail
    refine (alike_any _ _ _ _ _ _ lx ly).mono ?_
    rintro e w9 ⟨rfl, B⟩
    replace BB := below_trans' BB B
    clear B lx ly
    go_wp2_with fail
    refine (none_any _).mono ?_
    rintro e w7 ⟨gx, rfl, hgx, lx, B⟩
    replace BB := below_trans' BB B
    clear B hgx
    go_wp2_with fail
    refine (rnone_any _).mono ?_
    rintro e w8 ⟨gy, rfl, hgy, ly, B⟩
    replace BB := below_trans' BB B
    replace lx := lx.below B lx.lt
    clear B hgy
    go_wp2_with fail
    refine (alike_any _ _ _ _ _ _ lx ly).mono ?_
    rintro e w9 ⟨rfl, B⟩
    replace BB := below_trans' BB B
    clear B lx ly
    go_wp2_with fail
    go_ret
    exact ⟨rfl, BB⟩
  · have T := Lib.hid (fun w => mk_text_any l hl w)
    have N := Lib.hid (fun w => mk_num_bad p q P1.out P2.out (by simpa using hf) w)
    have F := Lib.hid (show (fine64 (pl64 p) && fine64 (pl64 q)) = false by rw [pl64_fine, pl64_fine]; exact (by simpa using hf))
    have BB : Below w.heap.size w w := Below.refl _ _
    clear hf
    go_enter Try.func4, Try.ntmps4
    go_wp2_with fail
    refine (T.out _).mono ?_
    rintro e wt ⟨gt, rfl, hgt, lt, B⟩
    replace BB := below_trans' BB B
    clear B hgt
    go_wp2_with fail
    refine (N.out _).mono ?_
    rintro e wn ⟨rfl, B⟩
    replace BB := below_trans' BB B
    replace lt := lt.below B lt.lt
    clear B
    go_wp2_with fail
    refine (rtext_any l _).mono ?_
    rintro e w1 ⟨gx, rfl, hgx, lx, B⟩
    replace BB := below_trans' BB B
    replace lt := lt.below B lt.lt
    clear B hgx
    go_wp2_with fail
    refine (alike_any _ _ _ _ _ _ lt lx).mono ?_
    rintro e w2 ⟨rfl, B⟩
    replace BB := below_trans' BB B
    clear B lt lx
    go_wp2_with fail
    refine (rplain_any p q _).mono ?_
    rintro e w3 ⟨rfl, rfl⟩
    go_wp2_with fail
    refine (rfine_any _ _ _).mono ?_
    rintro e w3 ⟨rfl, rfl⟩
    rw [F.out]
    clear T N F P1 P2
    go_wp2_with fail
    refine (mk_int_any a0 _).mono ?_
    rintro e w1 ⟨gi, rfl, hgi, li, B⟩
    have hsz : w.heap.size ≤ gi := Nat.le_trans BB.size hgi
    clear hgi
    replace BB := below_trans' BB B
    clear B
    go_wp2_with fail
    refine (mk_bool_any true _).mono ?_
    rintro e w2 ⟨gb, rfl, hgb, lb, B⟩
    have hib : gi < gb := Nat.lt_of_lt_of_le li.lt hgb
    replace BB := below_trans' BB B
    replace li := li.below B li.lt
    clear B hgb
    go_wp2_with fail
    refine (mk_bool_any false _).mono ?_
    rintro e w3 ⟨gc, rfl, hgc, lc, B⟩
    have hbc : gb < gc := Nat.lt_of_lt_of_le lb.lt hgc
    replace BB := below_trans' BB B
    replace li := li.below B li.lt
    replace lb := lb.below B lb.lt
    clear B hgc
    go_wp2_with fail
    refine (none_any _).mono ?_
    rintro e w4 ⟨gd, rfl, hgd, ld, B⟩
    have hcd : gc < gd := Nat.lt_of_lt_of_le lc.lt hgd
    replace BB := below_trans' BB B
    replace li := li.below B li.lt
    replace lb := lb.below B lb.lt
    replace lc := lc.below B lc.lt
    clear B hgd
    go_wp2_with fail
    refine (rint_any a0 _).mono ?_
    rintro e w5 ⟨gx, rfl, hgx, lx, B⟩
    replace BB := below_trans' BB B
    replace li := li.below B li.lt
    replace lb := lb.below B lb.lt
    replace lc := lc.below B lc.lt
    replace ld := ld.below B ld.lt
    clear B hgx
    go_wp2_with fail
    refine (alike_any _ _ _ _ _ _ li lx).mono ?_
    rintro e w6 ⟨rfl, B⟩
    replace BB := below_trans' BB B
    replace li := li.below B li.lt
    replace lb := lb.below B lb.lt
    replace lc := lc.below B lc.lt
    replace ld := ld.below B ld.lt
    clear B lx
    go_wp2_with fail
    refine (rtrue_any _).mono ?_
    rintro e w5 ⟨gx, rfl, hgx, lx, B⟩
    replace BB := below_trans' BB B
    replace li := li.below B li.lt
    replace lb := lb.below B lb.lt
    replace lc := lc.below B lc.lt
    replace ld := ld.below B ld.lt
    clear B hgx
    go_wp2_with fail
    refine (alike_any _ _ _ _ _ _ lb lx).mono ?_
    rintro e w6 ⟨rfl, B⟩
    replace BB := below_trans' BB B
    replace li := li.below B li.lt
    replace lb := lb.below B lb.lt
    replace lc := lc.below B lc.lt
    replace ld := ld.below B ld.lt
    clear B lx
    go_wp2_with fail
    refine (rfalse_any _).mono ?_
    rintro e w5 ⟨gx, rfl, hgx, lx, B⟩
    replace BB := below_trans' BB B
    replace li := li.below B li.lt
    replace lb := lb.below B lb.lt
    replace lc := lc.below B lc.lt
    replace ld := ld.below B ld.lt
    clear B hgx
    go_wp2_with fail
    refine (alike_any _ _ _ _ _ _ lc lx).mono ?_
    rintro e w6 ⟨rfl, B⟩
    replace BB := below_trans' BB B
    replace li := li.below B li.lt
    replace lb := lb.below B lb.lt
    replace lc := lc.below B lc.lt
    replace ld := ld.below B ld.lt
    clear B lx
    go_wp2_with fail
    refine (rnone_any _).mono ?_
    rintro e w5 ⟨gx, rfl, hgx, lx, B⟩
    replace BB := below_trans' BB B
    replace li := li.below B li.lt
    replace lb := lb.below B lb.lt
    replace lc := lc.below B lc.lt
    replace ld := ld.below B ld.lt
    clear B hgx
    go_wp2_with fail
    refine (alike_any _ _ _ _ _ _ ld lx).mono ?_
    rintro e w6 ⟨rfl, B⟩
    replace BB := below_trans' BB B
    replace li := li.below B li.lt
    replace lb := lb.below B lb.lt
    replace lc := lc.below B lc.lt
    replace ld := ld.below B ld.lt
    clear B lx
    have i2 := li.cell 2 (by omega)
    simp only [Nd.cells, List.getElem?_cons_succ, List.getElem?_cons_zero, nd0] at i2
    have f2 := li.fz 2
    have b2 := lb.cell 2 (by omega)
    simp only [Nd.cells, List.getElem?_cons_succ, List.getElem?_cons_zero, nd0] at b2
    have fb := lb.fz 2
    have k0 := lc.cell 0 (by omega)
    simp only [Nd.cells, List.getElem?_cons_succ, List.getElem?_cons_zero, nd0] at k0
    have fc := lc.fz 0
    have d0 := ld.cell 0 (by omega)
    simp only [Nd.cells, List.getElem?_cons_succ, List.getElem?_cons_zero, nd0] at d0
    have fd := ld.fz 0
    have n1 : gi ≠ gb := by omega
    have n2 : gi ≠ gc := by omega
    have n3 : gi ≠ gd := by omega
    have n4 : gb ≠ gc := by omega
    have n5 : gb ≠ gd := by omega
    have n6 : gc ≠ gd := by omega
    clear li lb lc ld
    replace BB := (((BB.setCell (p := ⟨gi, 2, none⟩) hsz (.int .i64 (wrap64 (a0 + 1)))).setCell (p := ⟨gb, 2, none⟩) (by simp only; omega) (.int .i64 7)).setCell (p := ⟨gc, 0, none⟩) (by simp only; omega) (.int .u8 9)).setCell (p := ⟨gd, 0, none⟩) (by simp only; omega) (.int .u8 9)
    go_wp2_with fail
    generalize ((((w6.setCell ⟨gi, 2, none⟩ (.int .i64 (wrap64 (a0 + 1)))).setCell ⟨gb, 2, none⟩ (.int .i64 7)).setCell ⟨gc, 0, none⟩ (.int .u8 9)).setCell ⟨gd, 0, none⟩ (.int .u8 9)) = W at BB ⊢
    clear i2 f2 b2 fb k0 fc d0 fd n1 n2 n3 n4 n5 n6 hib hbc hcd hsz
    refine (mk_int_any a0 _).mono ?_
    rintro e w7 ⟨gx, rfl, hgx, lx, B⟩
    replace BB := below_trans' BB B
    clear B hgx
    go_wp2_with fail
    refine (rint_any a0 _).mono ?_
    rintro e w8 ⟨gy, rfl, hgy, ly, B⟩
    replace BB := below_trans' BB B
    replace lx := lx.below B lx.lt
    clear B hgy
    go_wp2_with fail
    refine (alike_any _ _ _ _ _ _ lx ly).mono ?_
    rintro e w9 ⟨rfl, B⟩
    replace BB := below_trans' BB B
    clear B lx ly
    go_wp2_with fail
    refine (mk_bool_any true _).mono ?_
    rintro e w7 ⟨gx, rfl, hgx, lx, B⟩
    replace BB := below_trans' BB B
    clear B hgx
    go_wp2_with fail
    refine (rtrue_any _).mono ?_
    rintro e w8 ⟨gy, rfl, hgy, ly, B⟩
    replace BB := below_trans' BB B
    replace lx := lx.below B lx.lt
    clear B hgy
    go_wp2_with fail
    refine (alike_any _ _ _ _ _ _ lx ly).mono ?_
    rintro e w9 ⟨rfl, B⟩
    replace BB := below_trans' BB B
    clear B lx ly
    go_wp2_with fail
    refine (mk_bool_any false _).mono ?_
    rintro e w7 ⟨gx, rfl, hgx, lx, B⟩
    replace BB := below_trans' BB B
    clear B hgx
    go_wp2_with fail
    refine (rfalse_any _).mono ?_
    rintro e w8 ⟨gy, rfl, hgy, ly, B⟩
    replace BB := below_trans' BB B
    replace lx := lx.below B lx.lt
    clear B hgy
    go_wp2_with fail
    refine (alike_any _ _ _ _ _ _ lx ly).mono ?_
    rintro e w9 ⟨rfl, B⟩
    replace BB := below_trans' BB B
    clear B lx ly
    go_wp2_with fail
    refine (none_any _).mono ?_
    rintro e w7 ⟨gx, rfl, hgx, lx, B⟩
    replace BB := below_trans' BB B
    clear B hgx
    go_wp2_with fail
    refine (rnone_any _).mono ?_
    rintro e w8 ⟨gy, rfl, hgy, ly, B⟩
    replace BB := below_trans' BB B
    replace lx := lx.below B lx.lt
    clear B hgy
    go_wp2_with fail
    refine (alike_any _ _ _ _ _ _ lx ly).mono ?_
    rintro e w9 ⟨rfl, B⟩
    replace BB := below_trans' BB B
    clear B lx ly
    go_wp2_with fail
    go_ret
    exact ⟨rfl, BB⟩
end Go.Proofs.Ytgplmipdjehkmaa
