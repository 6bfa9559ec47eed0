/- heap: Remove at prompter/api.Timer. -/
import Derived.Test.YteondokncalbnaaHpT7
namespace Go.Proofs.Yteondokncalbnaa
open Go.RowKit

theorem HS.own' {p M : Nat} {v v' : Value} (e : v'.ownBlock = v.ownBlock) {i : Nat} : HS p v' M i ↔ HS p v M i := by unfold HS; rw [e]
set_option maxRecDepth 20000 in
set_option maxHeartbeats 4000000 in
theorem remove1T (w : World) (p : Nat) (v : Value) (M : Nat) (xs : List Th) (nx : Nat) (h : HStT w p v M xs nx) (k : Int) (j : Nat) (hj : j < xs.length) (hk : ((gT xs j).num : Int) = k) :
    Calls Try.prog 35 #[.pointer (some ⟨p, 0, none⟩), .int .i64 k] w fun e w' => e = .returned (.tuple #[.agg #[(gT xs j).v 0, (gT xs j).v 1, (gT xs j).v 2], .bool true]) ∧ ∃ zs v', (gT xs j :: zs).Perm xs ∧ HStT w' p v' M zs nx ∧ v'.ownBlock = v.ownBlock ∧ Turns (HS p v M) w w' := by
  have W1 := Blk.new w 31 [.int .i64 0, .string ⟨#[]⟩, .int .i64 0]
  have hB1 := Below.new w (.cells #[.int .i64 0, .string ⟨#[]⟩, .int .i64 0] 31)
  have h1 := h.bel hB1
  have hq := Lib.hid (find1T _ p v M xs nx h1 k j hj hk)
  have hlt := Lib.hid h.lts
  have H0 := Lib.hid h
  have HH := Lib.hid h1
  obtain ⟨m, hm, _⟩ := h1.raw
  obtain ⟨g, cap, rfl, hvb, hg, hnc, hcm⟩ := own_at hm.row (by omega)
  have hone := hm.one_at hj
  have hfew : xs.length ≤ 1000000 := by have := hm.few; omega
  obtain ⟨b0, b1⟩ : (w.alloc (.cells #[.int .i64 0, .string ⟨#[]⟩, .int .i64 0] 31)).cell? ⟨p, 1, none⟩ = some (.slice (some ⟨g, 0, none⟩) xs.length cap) ∧ True := ⟨by have := hm.blk.cell 1; simpa only [List.getElem?_cons_succ, List.getElem?_cons_zero] using this, trivial⟩
  generalize hx : gT xs j = x at *
  have s0 := store_oneT hone 0 (by omega)
  have s1 := store_oneT hone 1 (by omega)
  have s2 := store_oneT hone 2 (by omega)
  obtain ⟨r0, r1, r0', r1', r2'⟩ := row_cellsT hm rfl hj hx
  have hj' : (j : Int) < (xs.length : Int) := by omega
  have c0 := W1.cell 0
  have c1 := W1.cell 1
  have c2 := W1.cell 2
  have z0 := W1.fz 0
  have z1 := W1.fz 1
  have z2 := W1.fz 2
  simp only [List.getElem?_cons_succ, List.getElem?_cons_zero] at c0 c1 c2
  have HX := Lib.hid hx
  have HW1 := Lib.hid W1
  have HB1 := Lib.hid hB1
  unfold maxLen at hcm
  clear h h1 hm hone hx hk W1 hB1
  go_enter Try.func35, Try.ntmps35
  go_wp2_with (go_at_call 52; refine hq.out.mono ?_; rintro e w' ⟨rfl, rfl⟩)
  have K2 : Hid (Blk (w.alloc (.cells #[x.v 0, x.v 1, x.v 2] 31)) w.heap.size 31 [x.v 0, x.v 1, x.v 2]) := Lib.hid (Blk.new w 31 [x.v 0, x.v 1, x.v 2])
  have hB3 : Hid (Below w.heap.size w (w.alloc (.cells #[x.v 0, x.v 1, x.v 2] 31))) := Lib.hid (Below.new w _)
  have HH2 := Lib.hid (H0.out.bel hB3.out)
  have S0 := Lib.hid s0
  have S1 := Lib.hid s1
  have S2 := Lib.hid s2
  clear c0 c1 c2 z0 z1 z2 s0 s1 s2 r0 r1 r0' r1' r2' b0
  generalize w.alloc (.cells #[x.v 0, x.v 1, x.v 2] 31) = W at *
  refine (dropT W p _ M xs nx j HH2.out hj).mono ?_
  rintro e w2 ⟨rfl, zs, v', h1, h2, h3, h4⟩
  rw [HX.out] at h1
  have h5 := Lib.hid h1
  have h6 := Lib.hid h2
  have h7 := Lib.hid h3
  have h8 := Lib.hid ((Turns.of_below (S := HS p (.slice (some ⟨g, 0, none⟩) xs.length cap) M) hB3.out).then h4)
  have K3 := Lib.hid (K2.out.turns h4 (fun hi => by have := hlt.out _ hi; omega))
  clear h1 h2 h3 h4
  have c0 := K3.out.cell 0
  have c1 := K3.out.cell 1
  have c2 := K3.out.cell 2
  have z0 := K3.out.fz 0
  have z1 := K3.out.fz 1
  have z2 := K3.out.fz 2
  have s0 := S0.out
  have s1 := S1.out
  have s2 := S2.out
  simp only [List.getElem?_cons_succ, List.getElem?_cons_zero] at c0 c1 c2
  go_wp2_with fail
  have K4 := ((K3.out.set 0 (x.v 0)).set 1 (x.v 1)).set 2 (x.v 2)
  have hT := (((Turns.refl (fun i => i = w.heap.size) w2).set ⟨w.heap.size, 0, none⟩ (x.v 0) (fun _ => rfl)).set ⟨w.heap.size, 1, none⟩ (x.v 1) (fun _ => rfl)).set ⟨w.heap.size, 2, none⟩ (x.v 2) (fun _ => rfl)
  have hS2 := h6.out.keep hT (fun i hi e => by have := hlt.out i ((HS.own' h7.out).1 hi); omega)
  have hT8 : Turns (HS p (.slice (some ⟨g, 0, none⟩) xs.length cap) M) w (((w2.setCell ⟨w.heap.size, 0, none⟩ (x.v 0)).setCell ⟨w.heap.size, 1, none⟩ (x.v 1)).setCell ⟨w.heap.size, 2, none⟩ (x.v 2)) := h8.out.trans hT (fun i hi e => by omega)
  refine bodyPost_ret (results_T2 (h := rfl) (g := w.heap.size) (t := 31) (cs := ([x.v 0, x.v 1, x.v 2] : List Value).toArray) (fr := (0, 0)) (hp := rfl) (hg := K4) (hu := Try.underlying31) (hd := rfl) (hi := by kernel_rfl) _ _) rfl ?_
  exact ⟨rfl, zs, v', h5.out, hS2, h7.out, hT8⟩
end Go.Proofs.Yteondokncalbnaa
