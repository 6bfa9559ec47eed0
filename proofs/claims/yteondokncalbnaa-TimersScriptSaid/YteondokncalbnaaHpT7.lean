/- heap: Pop, find, Remove, Change at prompter/api.Timer (written by gen_heap3.py). -/
import Derived.Test.YteondokncalbnaaHpT6
namespace Go.Proofs.Yteondokncalbnaa
open Go.RowKit

set_option maxRecDepth 20000 in
set_option maxHeartbeats 6000000 in
theorem pop0T (w : World) (p : Nat) (v : Value) (M : Nat) (nx : Nat) (h : HStT w p v M [] nx) : Calls Try.prog 31 #[.pointer (some ⟨p, 0, none⟩)] w fun e w' => e = .returned (.tuple #[.int .i64 0, .agg #[.int .i64 0, .string ⟨#[]⟩, .int .i64 0], .int .i64 0, .bool false]) ∧ Below w.heap.size w w' := by
  have W1 := Blk.new w 31 [.int .i64 0, .string ⟨#[]⟩, .int .i64 0]
  have hB1 := Below.new w (.cells #[.int .i64 0, .string ⟨#[]⟩, .int .i64 0] 31)
  have hq := Lib.hid (peek0T _ p v M nx (h.bel hB1))
  clear h
  go_enter Try.func31, Try.ntmps31
  go_wp2_with fail
  refine hq.out.mono ?_
  rintro e w1 ⟨rfl, hb⟩
  have K1 := W1.bel hb
  have hB2 := hB1.trans (hb.mono hB1.size)
  clear W1 hb
  have c0 := K1.cell 0
  have c1 := K1.cell 1
  have c2 := K1.cell 2
  have z0 := K1.fz 0
  have z1 := K1.fz 1
  have z2 := K1.fz 2
  simp only [List.getElem?_cons_succ, List.getElem?_cons_zero] at c0 c1 c2
  go_wp2_with fail
  have K2 := ((K1.set 0 (.int .i64 0)).set 1 (.string ⟨#[]⟩)).set 2 (.int .i64 0)
  refine bodyPost_ret (results_T4 (h := rfl) (g := w.heap.size) (t := 31) (cs := ([.int .i64 0, .string ⟨#[]⟩, .int .i64 0] : List Value).toArray) (fr := (0, 0)) (hp := rfl) (hg := K2) (hu := Try.underlying31) (hd := rfl) (hi := by kernel_rfl) _ _) rfl ?_
  exact ⟨rfl, ((hB2.setCell (p := ⟨w.heap.size, 0, none⟩) (Nat.le_refl _) _).setCell (p := ⟨w.heap.size, 1, none⟩) (Nat.le_refl _) _).setCell (p := ⟨w.heap.size, 2, none⟩) (Nat.le_refl _) _⟩

set_option maxRecDepth 20000 in
set_option maxHeartbeats 6000000 in
theorem pop1T (w : World) (p : Nat) (v : Value) (M : Nat) (xs : List Th) (nx : Nat) (h : HStT w p v M xs nx) (hn : 0 < xs.length) :
    Calls Try.prog 31 #[.pointer (some ⟨p, 0, none⟩)] w fun e w' => e = .returned (.tuple #[.int .i64 (gT xs 0).key, .agg #[(gT xs 0).v 0, (gT xs 0).v 1, (gT xs 0).v 2], .int .i64 ((gT xs 0).num : Int), .bool true]) ∧ ∃ zs v', (gT xs 0 :: zs).Perm xs ∧ HStT w' p v' M zs nx ∧ v'.ownBlock = v.ownBlock ∧ Turns (HS p v M) w w' := by
  have W1 := Blk.new w 31 [.int .i64 0, .string ⟨#[]⟩, .int .i64 0]
  have hB1 := Below.new w (.cells #[.int .i64 0, .string ⟨#[]⟩, .int .i64 0] 31)
  have h1 := h.bel hB1
  have hq := Lib.hid (peek1T _ p v M xs nx h1 hn)
  have hlt := Lib.hid h.lts
  have HH := Lib.hid h1
  obtain ⟨m, hm, _⟩ := h.raw
  have hone := hm.one_at hn
  generalize hx : gT xs 0 = x at *
  have s0 := store_oneT hone 0 (by omega)
  have s1 := store_oneT hone 1 (by omega)
  have s2 := store_oneT hone 2 (by omega)
  have HX := Lib.hid hx
  clear h h1 hm hone hx
  go_enter Try.func31, Try.ntmps31
  go_wp2_with fail
  refine hq.out.mono ?_
  rintro e w1 ⟨rfl, hb⟩
  have K1 := W1.bel hb
  have hB2 := hB1.trans (hb.mono hB1.size)
  have HH1 := Lib.hid (HH.out.bel hb)
  clear W1 hb HH hq
  have c0 := K1.cell 0
  have c1 := K1.cell 1
  have c2 := K1.cell 2
  have z0 := K1.fz 0
  have z1 := K1.fz 1
  have z2 := K1.fz 2
  simp only [List.getElem?_cons_succ, List.getElem?_cons_zero] at c0 c1 c2
  go_wp2_with fail
  have K2 := Lib.hid (((K1.set 0 (x.v 0)).set 1 (x.v 1)).set 2 (x.v 2))
  have hB3 := Lib.hid (((hB2.setCell (p := ⟨w.heap.size, 0, none⟩) (Nat.le_refl _) (x.v 0)).setCell (p := ⟨w.heap.size, 1, none⟩) (Nat.le_refl _) (x.v 1)).setCell (p := ⟨w.heap.size, 2, none⟩) (Nat.le_refl _) (x.v 2))
  have hT := (((Turns.refl (fun i => i = w.heap.size) w1).set ⟨w.heap.size, 0, none⟩ (x.v 0) (fun _ => rfl)).set ⟨w.heap.size, 1, none⟩ (x.v 1) (fun _ => rfl)).set ⟨w.heap.size, 2, none⟩ (x.v 2) (fun _ => rfl)
  have HH2 := Lib.hid (HH1.out.keep hT (fun i hi e => by have := hlt.out i hi; omega))
  clear K1 hB2 hT HH1 c0 c1 c2 z0 z1 z2 s0 s1 s2
  generalize ((w1.setCell ⟨w.heap.size, 0, none⟩ (x.v 0)).setCell ⟨w.heap.size, 1, none⟩ (x.v 1)).setCell ⟨w.heap.size, 2, none⟩ (x.v 2) = W at *
  refine (dropT W p v M xs nx 0 HH2.out hn).mono ?_
  rintro e w2 ⟨rfl, zs, v', h1, h2, h3, h4⟩
  rw [HX.out] at h1
  have h5 := Lib.hid h1
  have h6 := Lib.hid h2
  have h7 := Lib.hid h3
  have h8 := Lib.hid ((Turns.of_below (S := HS p v M) hB3.out).then h4)
  have K3 := Lib.hid (K2.out.turns h4 (fun hi => by have := hlt.out _ hi; omega))
  clear h1 h2 h3 h4
  go_wp2_with fail
  refine bodyPost_ret (results_T4 (h := rfl) (g := w.heap.size) (t := 31) (cs := ([x.v 0, x.v 1, x.v 2] : List Value).toArray) (fr := (0, 0)) (hp := rfl) (hg := K3.out) (hu := Try.underlying31) (hd := rfl) (hi := by kernel_rfl) _ _) rfl ?_
  exact ⟨rfl, zs, v', h5.out, h6.out, h7.out, h8.out⟩

set_option maxRecDepth 20000 in
theorem find0T (w : World) (p : Nat) (v : Value) (M : Nat) (xs : List Th) (nx : Nat) (h : HStT w p v M xs nx) (k : Int) (hk : ∀ t ∈ xs, (t.num : Int) ≠ k) : Calls Try.prog 52 #[.pointer (some ⟨p, 0, none⟩), .int .i64 k] w fun e w' => e = .returned (.tuple #[.int .i64 0, .bool false]) ∧ w' = w := by
  obtain ⟨m, hm, hp⟩ := h.raw
  obtain ⟨n6, hm6⟩ := hm.map
  have hm3 : m k = none := hp.no k (fun j hj => hk _ (mem_gT hj))
  have hlk : (Instr.lookup 94 (.map (some M)) (.int .i64 k) true).run Try.prog w = .ok (.tuple #[.int .i64 0, .bool false]) w := by
    have := MapIs.lookup (t := 94) (e := 3) hm6 (int_keys Try.underlying3) Try.underlying94 (zeroIntE _) k true
    rw [hm3] at this
    exact this
  have b2 := hm.blk.cell 2
  simp only [List.getElem?_cons_succ, List.getElem?_cons_zero] at b2
  clear h hm hp hm6 hm3 hk
  go_enter Try.func52, Try.ntmps52
  go_wp2_with fail
  go_ret2
  exact ⟨rfl, rfl⟩
set_option maxRecDepth 20000 in
theorem find1T (w : World) (p : Nat) (v : Value) (M : Nat) (xs : List Th) (nx : Nat) (h : HStT w p v M xs nx) (k : Int) (j : Nat) (hj : j < xs.length) (hk : ((gT xs j).num : Int) = k) : Calls Try.prog 52 #[.pointer (some ⟨p, 0, none⟩), .int .i64 k] w fun e w' => e = .returned (.tuple #[.int .i64 (j : Int), .bool true]) ∧ w' = w := by
  obtain ⟨m, hm, hp⟩ := h.raw
  obtain ⟨n6, hm6⟩ := hm.map
  have hm3 : m k = some (.int .i64 (j : Int)) := by rw [← hk]; exact hp.is j hj
  have hlk : (Instr.lookup 94 (.map (some M)) (.int .i64 k) true).run Try.prog w = .ok (.tuple #[.int .i64 (j : Int), .bool true]) w := by
    have := MapIs.lookup (t := 94) (e := 3) hm6 (int_keys Try.underlying3) Try.underlying94 (zeroIntE _) k true
    rw [hm3] at this
    exact this
  have b2 := hm.blk.cell 2
  simp only [List.getElem?_cons_succ, List.getElem?_cons_zero] at b2
  clear h hm hp hm6 hm3 hk
  go_enter Try.func52, Try.ntmps52
  go_wp2_with fail
  go_ret2
  exact ⟨rfl, rfl⟩
end Go.Proofs.Yteondokncalbnaa
