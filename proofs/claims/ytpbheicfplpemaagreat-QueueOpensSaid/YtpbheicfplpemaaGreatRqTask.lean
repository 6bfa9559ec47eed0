/- The document's queue (prompterref22): waiting, away. -/
import Derived.Test.YtpbheicfplpemaaGreatRqRead
namespace Go.Proofs.YtpbheicfplpemaaGreat
open Go.RowKit

/-- a task that waits, as the document keeps it -/
def idT (t : Tk) : Ot := ⟨t, 0, ⟨#[]⟩, 0⟩
def RTaskY (w : World) (res : Except (Nat × Nat) (Ot × Nat)) (e : Ending) (w' : World) : Prop :=
  (∃ x tz en, e = .returned (.tuple #[otV x, .int .i64 ((tz : Nat) : Int), .int .i64 ((en : Nat) : Int)]) ∧
    (match res with | .ok (y, n) => x = y ∧ tz = n ∧ en = 0 | .error (p, q) => tz = p ∧ en = q)) ∧ Below w.heap.size w w'
theorem rdTk_e1 {l : List UInt8} {a p en : Nat} (hen : en ≠ 0) (h : Cd.rdText l a = .error (p, en)) : rdTk l a = .error (p, en) := by
  simp [rdTk, tk4, aft_er h, aft_idle, hen]
theorem rdTk_e2 {l : List UInt8} {a p en t1 : Nat} {x1 : List UInt8} (hen : en ≠ 0) (h1 : Cd.rdText l a = .ok (x1, t1)) (h : Cd.rdText l t1 = .error (p, en)) : rdTk l a = .error (p, en) := by
  simp [rdTk, tk4, aft_ok h1, aft_er h, aft_idle, hen]
theorem rdTk_e3 {l : List UInt8} {a p en t1 t2 : Nat} {x1 x2 : List UInt8} (hen : en ≠ 0) (h1 : Cd.rdText l a = .ok (x1, t1)) (h2 : Cd.rdText l t1 = .ok (x2, t2)) (h : Cd.rdInt l t2 = .error (p, en)) : rdTk l a = .error (p, en) := by
  simp [rdTk, tk4, aft_ok h1, aft_ok h2, aft_er h, aft_idle, hen]
theorem rdTk_e4 {l : List UInt8} {a p en t1 t2 t3 : Nat} {x1 x2 : List UInt8} {x3 : Int} (hen : en ≠ 0) (h1 : Cd.rdText l a = .ok (x1, t1)) (h2 : Cd.rdText l t1 = .ok (x2, t2)) (h3 : Cd.rdInt l t2 = .ok (x3, t3)) (h : rdNum l t3 = .error (p, en)) : rdTk l a = .error (p, en) := by
  simp [rdTk, tk4, aft_ok h1, aft_ok h2, aft_ok h3, aft_er h, hen]
theorem rdTk_ok {l : List UInt8} {a t1 t2 t3 t4 x4 : Nat} {x1 x2 : List UInt8} {x3 : Int} (h1 : Cd.rdText l a = .ok (x1, t1)) (h2 : Cd.rdText l t1 = .ok (x2, t2)) (h3 : Cd.rdInt l t2 = .ok (x3, t3)) (h : rdNum l t3 = .ok (x4, t4)) : rdTk l a = .ok (⟨⟨x1.toArray⟩, ⟨x2.toArray⟩, x3, (x4 : Int)⟩, t4) := by
  simp [rdTk, tk4, aft_ok h1, aft_ok h2, aft_ok h3, aft_ok h]
theorem rdOt_e1 {l : List UInt8} {a p en : Nat} (hen : en ≠ 0) (h : Cd.rdText l a = .error (p, en)) : rdOt l a = .error (p, en) := by
  simp [rdOt, ot5, aft_er h, aft_idle, hen]
theorem rdOt_e2 {l : List UInt8} {a p en t1 : Nat} {x1 : List UInt8} (hen : en ≠ 0) (h1 : Cd.rdText l a = .ok (x1, t1)) (h : rdNum l t1 = .error (p, en)) : rdOt l a = .error (p, en) := by
  simp [rdOt, ot5, aft_ok h1, aft_er h, aft_idle, hen]
theorem rdOt_e3 {l : List UInt8} {a p en t1 t2 x2 : Nat} {x1 : List UInt8} (hen : en ≠ 0) (h1 : Cd.rdText l a = .ok (x1, t1)) (h2 : rdNum l t1 = .ok (x2, t2)) (h : Cd.rdText l t2 = .error (p, en)) : rdOt l a = .error (p, en) := by
  simp [rdOt, ot5, aft_ok h1, aft_ok h2, aft_er h, aft_idle, hen]
theorem rdOt_e4 {l : List UInt8} {a p en t1 t2 t3 x2 : Nat} {x1 x3 : List UInt8} (hen : en ≠ 0) (h1 : Cd.rdText l a = .ok (x1, t1)) (h2 : rdNum l t1 = .ok (x2, t2)) (h3 : Cd.rdText l t2 = .ok (x3, t3)) (h : Cd.rdInt l t3 = .error (p, en)) : rdOt l a = .error (p, en) := by
  simp [rdOt, ot5, aft_ok h1, aft_ok h2, aft_ok h3, aft_er h, aft_idle, hen]
theorem rdOt_e5 {l : List UInt8} {a p en t1 t2 t3 t4 x2 : Nat} {x1 x3 : List UInt8} {x4 : Int} (hen : en ≠ 0) (h1 : Cd.rdText l a = .ok (x1, t1)) (h2 : rdNum l t1 = .ok (x2, t2)) (h3 : Cd.rdText l t2 = .ok (x3, t3)) (h4 : Cd.rdInt l t3 = .ok (x4, t4)) (h : rdNum l t4 = .error (p, en)) : rdOt l a = .error (p, en) := by
  simp [rdOt, ot5, aft_ok h1, aft_ok h2, aft_ok h3, aft_ok h4, aft_er h, hen]
theorem rdOt_ok {l : List UInt8} {a t1 t2 t3 t4 t5 x2 x5 : Nat} {x1 x3 : List UInt8} {x4 : Int} (h1 : Cd.rdText l a = .ok (x1, t1)) (h2 : rdNum l t1 = .ok (x2, t2)) (h3 : Cd.rdText l t2 = .ok (x3, t3)) (h4 : Cd.rdInt l t3 = .ok (x4, t4)) (h : rdNum l t4 = .ok (x5, t5)) : rdOt l a = .ok (⟨⟨⟨x1.toArray⟩, ⟨#[]⟩, 0, (x5 : Int)⟩, (x2 : Int), ⟨x3.toArray⟩, x4⟩, t5) := by
  simp [rdOt, ot5, aft_ok h1, aft_ok h2, aft_ok h3, aft_ok h4, aft_ok h]
theorem results_T3 {P : Program} {fn : Func} {p u v : Tmp} {ty : TypeId} (h : fn.results = #[.cell p ty, .tmp u, .tmp v]) (tmps : Array Value) (w : World) (g : Nat) (t : TypeId) (cs : Array Value) (fr : Nat × Nat) (d : TypeDesc)
    (hp : tmps.getD p undef = .pointer (some ⟨g, 0, none⟩)) (hg : w.heap[g]? = some (.cells cs t fr))
    (hu : P.underlying ty = some d) (hd : (match d with | .struct _ | .array _ _ => true | _ => false) = true) (hi : (P.info? ty).map (·.size) = some cs.size) :
    (results fn tmps).run P w = .ok (.tuple #[.agg cs, tmps.getD u undef, tmps.getD v undef]) w := by
  have hp' : tmps[p]?.getD undef = .pointer (some ⟨g, 0, none⟩) := by simpa using hp
  simp [results, h, hp', asAddr, run_loadVar_row w g t ty cs fr d hg hu hd hi]

set_option maxRecDepth 20000 in
set_option maxHeartbeats 8000000 in
theorem rqWaiting (w : World) (A : Option Addr) (cap : Nat) (l : List UInt8) (a : Nat) (h : In w A l.length cap l) (hat : a ≤ l.length) (hsz : l.length ≤ 1000000) :
    Calls Tryz.prog 27 #[.slice A l.length cap, .int .i64 (a : Int)] w (RTaskY w ((rdTk l a).map fun p => (idT p.1, p.2))) := by
  have HI := Lib.hid h
  clear h
  go_enter Tryz.func27, Tryz.ntmps27
  go_wp2_with fail
  have B0 := Lib.hid ((Blk.new w 64 (otC ot0)).alloc (.cells (otC ot0).toArray 64))
  have B1 := Lib.hid (Blk.new2 w (.cells (otC ot0).toArray 64) 64 (otC ot0))
  have BB := Lib.hid (Below.new2 w (.cells (otC ot0).toArray 64) (.cells (otC ot0).toArray 64))
  simp only [otC, ot0] at B0 B1 BB
  generalize (w.alloc (.cells #[.string ⟨#[]⟩, .string ⟨#[]⟩, .int .i64 0, .int .i64 0, .int .i64 0, .string ⟨#[]⟩, .int .i64 0] 64)).alloc (.cells #[.string ⟨#[]⟩, .string ⟨#[]⟩, .int .i64 0, .int .i64 0, .int .i64 0, .string ⟨#[]⟩, .int .i64 0] 64) = X at *
  obtain ⟨b0, hb0⟩ : ∃ b, w.heap.size = b := ⟨_, rfl⟩
  obtain ⟨b1, hb1⟩ : ∃ b, b0 + 1 = b := ⟨_, rfl⟩
  have hlow : Hid (w.heap.size ≤ b0 ∧ w.heap.size ≤ b1) := Lib.hid (by omega)
  have hnb : b0 ≠ b1 := by omega
  have hnb2 : b1 ≠ b0 := by omega
  rw [hb0] at B0 B1 ⊢
  rw [hb1] at B1 ⊢
  clear hb0 hb1
  have IX := Lib.hid (HI.out.below BB.out)
  have HC := Lib.hid (refText_any X A l.length cap l a IX.out.bs IX.out.cap_le.1 hat hsz)
  have u0 := B1.out.cell 0
  have z0 := B1.out.fz 0
  have u1 := B1.out.cell 1
  have z1 := B1.out.fz 1
  have u2 := B1.out.cell 2
  have z2 := B1.out.fz 2
  have u3 := B1.out.cell 3
  have z3 := B1.out.fz 3
  have u4 := B1.out.cell 4
  have z4 := B1.out.fz 4
  have u5 := B1.out.cell 5
  have z5 := B1.out.fz 5
  have u6 := B1.out.cell 6
  have z6 := B1.out.fz 6
  simp only [List.getElem?_cons_succ, List.getElem?_cons_zero] at u0 u1 u2 u3 u4 u5 u6
  have v0 := B0.out.cell 0
  have y0 := B0.out.fz 0
  have v1 := B0.out.cell 1
  have y1 := B0.out.fz 1
  have v2 := B0.out.cell 2
  have y2 := B0.out.fz 2
  have v3 := B0.out.cell 3
  have y3 := B0.out.fz 3
  have v4 := B0.out.cell 4
  have y4 := B0.out.fz 4
  have v5 := B0.out.cell 5
  have y5 := B0.out.fz 5
  have v6 := B0.out.cell 6
  have y6 := B0.out.fz 6
  simp only [List.getElem?_cons_succ, List.getElem?_cons_zero] at v0 v1 v2 v3 v4 v5 v6
  rcases h1 : Cd.rdText l a with ⟨p, en⟩ | ⟨x1, t1⟩
  · have hne : en ≠ 0 := by have := rdText_er hat h1; omega
    have hen : ((en : Int) != 0) = true := by rw [bne_iff_ne]; omega
    have HR := Lib.hid (rdTk_e1 hne h1)
    have HS := Lib.hid h1
    clear h1
    refine HC.out.mono ?_
    rintro e w' ⟨hs, hw⟩; subst w'
    obtain rfl := hs.of_error HS.out
    clear HC hs HS
    go_wp2_with fail
    have F1 := B1.out.set 0 (.string ⟨#[]⟩)
    have F0 := B0.out.far (p := ⟨b1, 0, none⟩) hnb (.string ⟨#[]⟩)
    have FB : Below w.heap.size w (X.setCell ⟨b1, 0, none⟩ (.string ⟨#[]⟩)) := BB.out.setCell (p := ⟨b1, 0, none⟩) hlow.out.2 _
    simp only [List.set_cons_succ, List.set_cons_zero] at F1 F0
    have F0 := F0.set 0 (.string ⟨#[]⟩)
    have FB := FB.setCell (p := ⟨b0, 0, none⟩) hlow.out.1 (.string ⟨#[]⟩)
    have F0 := F0.set 1 (.string ⟨#[]⟩)
    have FB := FB.setCell (p := ⟨b0, 1, none⟩) hlow.out.1 (.string ⟨#[]⟩)
    have F0 := F0.set 2 (.int .i64 0)
    have FB := FB.setCell (p := ⟨b0, 2, none⟩) hlow.out.1 (.int .i64 0)
    have F0 := F0.set 3 (.int .i64 0)
    have FB := FB.setCell (p := ⟨b0, 3, none⟩) hlow.out.1 (.int .i64 0)
    have F0 := F0.set 4 (.int .i64 0)
    have FB := FB.setCell (p := ⟨b0, 4, none⟩) hlow.out.1 (.int .i64 0)
    have F0 := F0.set 5 (.string ⟨#[]⟩)
    have FB := FB.setCell (p := ⟨b0, 5, none⟩) hlow.out.1 (.string ⟨#[]⟩)
    have F0 := F0.set 6 (.int .i64 0)
    have FB := FB.setCell (p := ⟨b0, 6, none⟩) hlow.out.1 (.int .i64 0)
    simp only [List.set_cons_succ, List.set_cons_zero] at F0
    refine bodyPost_ret (results_T3 (h := rfl) (g := b0) (t := 64) (cs := ([.string ⟨#[]⟩, .string ⟨#[]⟩, .int .i64 0, .int .i64 0, .int .i64 0, .string ⟨#[]⟩, .int .i64 0] : List Value).toArray) (fr := (0, 0)) (hp := rfl) (hg := F0) (hu := Tryz.underlying64) (hd := rfl) (hi := by kernel_rfl) _ _) rfl ?_
    refine ⟨⟨(⟨⟨⟨#[]⟩, ⟨#[]⟩, 0, 0⟩, 0, ⟨#[]⟩, 0⟩ : Ot), _, _, rfl, ?_⟩, FB⟩
    rw [HR.out]
    exact ⟨rfl, rfl⟩
  have HS1 := Lib.hid h1
  refine HC.out.mono ?_
  rintro e w' ⟨hs, hw⟩; subst w'
  obtain rfl := hs.of_ok HS1.out
  unfold strV
  clear HC hs
  have h1le : t1 ≤ l.length := (rdText_le h1).1
  clear u0 z0 v0 y0 u1 z1 v1 y1 u2 z2 v2 y2 u3 z3 v3 y3 u4 z4 v4 y4 u5 z5 v5 y5 u6 z6 v6 y6
  have D1 := Lib.hid (B1.out.set 0 (.string ⟨x1.toArray⟩))
  simp only [List.set_cons_succ, List.set_cons_zero] at D1
  have D0 := Lib.hid (B0.out.far (p := ⟨b1, 0, none⟩) hnb (.string ⟨x1.toArray⟩))
  have DB : Hid (Below w.heap.size w (X.setCell ⟨b1, 0, none⟩ (.string ⟨x1.toArray⟩))) := Lib.hid (BB.out.setCell (p := ⟨b1, 0, none⟩) hlow.out.2 _)
  have DI := Lib.hid (HI.out.below DB.out)
  have u0 := B1.out.cell 0
  have z0 := B1.out.fz 0
  have u1 := B1.out.cell 1
  have z1 := B1.out.fz 1
  have u2 := B1.out.cell 2
  have z2 := B1.out.fz 2
  have u3 := B1.out.cell 3
  have z3 := B1.out.fz 3
  have u4 := B1.out.cell 4
  have z4 := B1.out.fz 4
  have u5 := B1.out.cell 5
  have z5 := B1.out.fz 5
  have u6 := B1.out.cell 6
  have z6 := B1.out.fz 6
  simp only [List.getElem?_cons_succ, List.getElem?_cons_zero] at u0 u1 u2 u3 u4 u5 u6
  go_wp2_with fail
  clear u0 z0 u1 z1 u2 z2 u3 z3 u4 z4 u5 z5 u6 z6 B0 B1 BB IX
  generalize X.setCell ⟨b1, 0, none⟩ (.string ⟨x1.toArray⟩) = X1 at *
  have B1 := D1
  have B0 := D0
  have BB := DB
  have IX := DI
  clear D1 D0 DB DI
  have HC := Lib.hid (refText_any X1 A l.length cap l t1 IX.out.bs IX.out.cap_le.1 h1le hsz)
  have u0 := B1.out.cell 0
  have z0 := B1.out.fz 0
  have u1 := B1.out.cell 1
  have z1 := B1.out.fz 1
  have u2 := B1.out.cell 2
  have z2 := B1.out.fz 2
  have u3 := B1.out.cell 3
  have z3 := B1.out.fz 3
  have u4 := B1.out.cell 4
  have z4 := B1.out.fz 4
  have u5 := B1.out.cell 5
  have z5 := B1.out.fz 5
  have u6 := B1.out.cell 6
  have z6 := B1.out.fz 6
  simp only [List.getElem?_cons_succ, List.getElem?_cons_zero] at u0 u1 u2 u3 u4 u5 u6
  have v0 := B0.out.cell 0
  have y0 := B0.out.fz 0
  have v1 := B0.out.cell 1
  have y1 := B0.out.fz 1
  have v2 := B0.out.cell 2
  have y2 := B0.out.fz 2
  have v3 := B0.out.cell 3
  have y3 := B0.out.fz 3
  have v4 := B0.out.cell 4
  have y4 := B0.out.fz 4
  have v5 := B0.out.cell 5
  have y5 := B0.out.fz 5
  have v6 := B0.out.cell 6
  have y6 := B0.out.fz 6
  simp only [List.getElem?_cons_succ, List.getElem?_cons_zero] at v0 v1 v2 v3 v4 v5 v6
  rcases h2 : Cd.rdText l t1 with ⟨p, en⟩ | ⟨x2, t2⟩
  · have hne : en ≠ 0 := by have := rdText_er h1le h2; omega
    have hen : ((en : Int) != 0) = true := by rw [bne_iff_ne]; omega
    have HR := Lib.hid (rdTk_e2 hne h1 h2)
    have HS := Lib.hid h2
    clear h1 h2
    refine HC.out.mono ?_
    rintro e w' ⟨hs, hw⟩; subst w'
    obtain rfl := hs.of_error HS.out
    clear HC hs HS
    go_wp2_with fail
    have F1 := B1.out.set 1 (.string ⟨#[]⟩)
    have F0 := B0.out.far (p := ⟨b1, 1, none⟩) hnb (.string ⟨#[]⟩)
    have FB : Below w.heap.size w (X1.setCell ⟨b1, 1, none⟩ (.string ⟨#[]⟩)) := BB.out.setCell (p := ⟨b1, 1, none⟩) hlow.out.2 _
    simp only [List.set_cons_succ, List.set_cons_zero] at F1 F0
    have F0 := F0.set 0 (.string ⟨x1.toArray⟩)
    have FB := FB.setCell (p := ⟨b0, 0, none⟩) hlow.out.1 (.string ⟨x1.toArray⟩)
    have F0 := F0.set 1 (.string ⟨#[]⟩)
    have FB := FB.setCell (p := ⟨b0, 1, none⟩) hlow.out.1 (.string ⟨#[]⟩)
    have F0 := F0.set 2 (.int .i64 0)
    have FB := FB.setCell (p := ⟨b0, 2, none⟩) hlow.out.1 (.int .i64 0)
    have F0 := F0.set 3 (.int .i64 0)
    have FB := FB.setCell (p := ⟨b0, 3, none⟩) hlow.out.1 (.int .i64 0)
    have F0 := F0.set 4 (.int .i64 0)
    have FB := FB.setCell (p := ⟨b0, 4, none⟩) hlow.out.1 (.int .i64 0)
    have F0 := F0.set 5 (.string ⟨#[]⟩)
    have FB := FB.setCell (p := ⟨b0, 5, none⟩) hlow.out.1 (.string ⟨#[]⟩)
    have F0 := F0.set 6 (.int .i64 0)
    have FB := FB.setCell (p := ⟨b0, 6, none⟩) hlow.out.1 (.int .i64 0)
    simp only [List.set_cons_succ, List.set_cons_zero] at F0
    refine bodyPost_ret (results_T3 (h := rfl) (g := b0) (t := 64) (cs := ([.string ⟨x1.toArray⟩, .string ⟨#[]⟩, .int .i64 0, .int .i64 0, .int .i64 0, .string ⟨#[]⟩, .int .i64 0] : List Value).toArray) (fr := (0, 0)) (hp := rfl) (hg := F0) (hu := Tryz.underlying64) (hd := rfl) (hi := by kernel_rfl) _ _) rfl ?_
    refine ⟨⟨(⟨⟨⟨x1.toArray⟩, ⟨#[]⟩, 0, 0⟩, 0, ⟨#[]⟩, 0⟩ : Ot), _, _, rfl, ?_⟩, FB⟩
    rw [HR.out]
    exact ⟨rfl, rfl⟩
  have HS2 := Lib.hid h2
  refine HC.out.mono ?_
  rintro e w' ⟨hs, hw⟩; subst w'
  obtain rfl := hs.of_ok HS2.out
  unfold strV
  clear HC hs
  have h2le : t2 ≤ l.length := (rdText_le h2).1
  clear u0 z0 v0 y0 u1 z1 v1 y1 u2 z2 v2 y2 u3 z3 v3 y3 u4 z4 v4 y4 u5 z5 v5 y5 u6 z6 v6 y6
  have D1 := Lib.hid (B1.out.set 1 (.string ⟨x2.toArray⟩))
  simp only [List.set_cons_succ, List.set_cons_zero] at D1
  have D0 := Lib.hid (B0.out.far (p := ⟨b1, 1, none⟩) hnb (.string ⟨x2.toArray⟩))
  have DB : Hid (Below w.heap.size w (X1.setCell ⟨b1, 1, none⟩ (.string ⟨x2.toArray⟩))) := Lib.hid (BB.out.setCell (p := ⟨b1, 1, none⟩) hlow.out.2 _)
  have DI := Lib.hid (HI.out.below DB.out)
  have u0 := B1.out.cell 0
  have z0 := B1.out.fz 0
  have u1 := B1.out.cell 1
  have z1 := B1.out.fz 1
  have u2 := B1.out.cell 2
  have z2 := B1.out.fz 2
  have u3 := B1.out.cell 3
  have z3 := B1.out.fz 3
  have u4 := B1.out.cell 4
  have z4 := B1.out.fz 4
  have u5 := B1.out.cell 5
  have z5 := B1.out.fz 5
  have u6 := B1.out.cell 6
  have z6 := B1.out.fz 6
  simp only [List.getElem?_cons_succ, List.getElem?_cons_zero] at u0 u1 u2 u3 u4 u5 u6
  go_wp2_with fail
  clear u0 z0 u1 z1 u2 z2 u3 z3 u4 z4 u5 z5 u6 z6 B0 B1 BB IX
  generalize X1.setCell ⟨b1, 1, none⟩ (.string ⟨x2.toArray⟩) = X2 at *
  have B1 := D1
  have B0 := D0
  have BB := DB
  have IX := DI
  clear D1 D0 DB DI
  have HC := Lib.hid (refInt_any X2 A l.length cap l t2 IX.out.bs h2le hsz)
  have u0 := B1.out.cell 0
  have z0 := B1.out.fz 0
  have u1 := B1.out.cell 1
  have z1 := B1.out.fz 1
  have u2 := B1.out.cell 2
  have z2 := B1.out.fz 2
  have u3 := B1.out.cell 3
  have z3 := B1.out.fz 3
  have u4 := B1.out.cell 4
  have z4 := B1.out.fz 4
  have u5 := B1.out.cell 5
  have z5 := B1.out.fz 5
  have u6 := B1.out.cell 6
  have z6 := B1.out.fz 6
  simp only [List.getElem?_cons_succ, List.getElem?_cons_zero] at u0 u1 u2 u3 u4 u5 u6
  have v0 := B0.out.cell 0
  have y0 := B0.out.fz 0
  have v1 := B0.out.cell 1
  have y1 := B0.out.fz 1
  have v2 := B0.out.cell 2
  have y2 := B0.out.fz 2
  have v3 := B0.out.cell 3
  have y3 := B0.out.fz 3
  have v4 := B0.out.cell 4
  have y4 := B0.out.fz 4
  have v5 := B0.out.cell 5
  have y5 := B0.out.fz 5
  have v6 := B0.out.cell 6
  have y6 := B0.out.fz 6
  simp only [List.getElem?_cons_succ, List.getElem?_cons_zero] at v0 v1 v2 v3 v4 v5 v6
  rcases h3 : Cd.rdInt l t2 with ⟨p, en⟩ | ⟨x3, t3⟩
  · have hne : en ≠ 0 := by have := rdInt_er h2le h3; omega
    have hen : ((en : Int) != 0) = true := by rw [bne_iff_ne]; omega
    have HR := Lib.hid (rdTk_e3 hne h1 h2 h3)
    have HS := Lib.hid h3
    clear h1 h2 h3
    refine HC.out.mono ?_
    rintro e w' ⟨hs, hw⟩; subst w'
    obtain rfl := hs.of_error HS.out
    clear HC hs HS
    go_wp2_with fail
    have F1 := B1.out.set 2 (.int .i64 0)
    have F0 := B0.out.far (p := ⟨b1, 2, none⟩) hnb (.int .i64 0)
    have FB : Below w.heap.size w (X2.setCell ⟨b1, 2, none⟩ (.int .i64 0)) := BB.out.setCell (p := ⟨b1, 2, none⟩) hlow.out.2 _
    simp only [List.set_cons_succ, List.set_cons_zero] at F1 F0
    have F0 := F0.set 0 (.string ⟨x1.toArray⟩)
    have FB := FB.setCell (p := ⟨b0, 0, none⟩) hlow.out.1 (.string ⟨x1.toArray⟩)
    have F0 := F0.set 1 (.string ⟨x2.toArray⟩)
    have FB := FB.setCell (p := ⟨b0, 1, none⟩) hlow.out.1 (.string ⟨x2.toArray⟩)
    have F0 := F0.set 2 (.int .i64 0)
    have FB := FB.setCell (p := ⟨b0, 2, none⟩) hlow.out.1 (.int .i64 0)
    have F0 := F0.set 3 (.int .i64 0)
    have FB := FB.setCell (p := ⟨b0, 3, none⟩) hlow.out.1 (.int .i64 0)
    have F0 := F0.set 4 (.int .i64 0)
    have FB := FB.setCell (p := ⟨b0, 4, none⟩) hlow.out.1 (.int .i64 0)
    have F0 := F0.set 5 (.string ⟨#[]⟩)
    have FB := FB.setCell (p := ⟨b0, 5, none⟩) hlow.out.1 (.string ⟨#[]⟩)
    have F0 := F0.set 6 (.int .i64 0)
    have FB := FB.setCell (p := ⟨b0, 6, none⟩) hlow.out.1 (.int .i64 0)
    simp only [List.set_cons_succ, List.set_cons_zero] at F0
    refine bodyPost_ret (results_T3 (h := rfl) (g := b0) (t := 64) (cs := ([.string ⟨x1.toArray⟩, .string ⟨x2.toArray⟩, .int .i64 0, .int .i64 0, .int .i64 0, .string ⟨#[]⟩, .int .i64 0] : List Value).toArray) (fr := (0, 0)) (hp := rfl) (hg := F0) (hu := Tryz.underlying64) (hd := rfl) (hi := by kernel_rfl) _ _) rfl ?_
    refine ⟨⟨(⟨⟨⟨x1.toArray⟩, ⟨x2.toArray⟩, 0, 0⟩, 0, ⟨#[]⟩, 0⟩ : Ot), _, _, rfl, ?_⟩, FB⟩
    rw [HR.out]
    exact ⟨rfl, rfl⟩
  have HS3 := Lib.hid h3
  refine HC.out.mono ?_
  rintro e w' ⟨hs, hw⟩; subst w'
  obtain rfl := hs.of_ok HS3.out
  unfold i64V
  clear HC hs
  have h3le : t3 ≤ l.length := rdInt_le h3
  clear u0 z0 v0 y0 u1 z1 v1 y1 u2 z2 v2 y2 u3 z3 v3 y3 u4 z4 v4 y4 u5 z5 v5 y5 u6 z6 v6 y6
  have D1 := Lib.hid (B1.out.set 2 (.int .i64 x3))
  simp only [List.set_cons_succ, List.set_cons_zero] at D1
  have D0 := Lib.hid (B0.out.far (p := ⟨b1, 2, none⟩) hnb (.int .i64 x3))
  have DB : Hid (Below w.heap.size w (X2.setCell ⟨b1, 2, none⟩ (.int .i64 x3))) := Lib.hid (BB.out.setCell (p := ⟨b1, 2, none⟩) hlow.out.2 _)
  have DI := Lib.hid (HI.out.below DB.out)
  have u0 := B1.out.cell 0
  have z0 := B1.out.fz 0
  have u1 := B1.out.cell 1
  have z1 := B1.out.fz 1
  have u2 := B1.out.cell 2
  have z2 := B1.out.fz 2
  have u3 := B1.out.cell 3
  have z3 := B1.out.fz 3
  have u4 := B1.out.cell 4
  have z4 := B1.out.fz 4
  have u5 := B1.out.cell 5
  have z5 := B1.out.fz 5
  have u6 := B1.out.cell 6
  have z6 := B1.out.fz 6
  simp only [List.getElem?_cons_succ, List.getElem?_cons_zero] at u0 u1 u2 u3 u4 u5 u6
  go_wp2_with fail
  clear u0 z0 u1 z1 u2 z2 u3 z3 u4 z4 u5 z5 u6 z6 B0 B1 BB IX
  generalize X2.setCell ⟨b1, 2, none⟩ (.int .i64 x3) = X3 at *
  have B1 := D1
  have B0 := D0
  have BB := DB
  have IX := DI
  clear D1 D0 DB DI
  have HC := Lib.hid (rqNumber X3 A l.length cap l t3 IX.out.bs h3le hsz)
  have u0 := B1.out.cell 0
  have z0 := B1.out.fz 0
  have u1 := B1.out.cell 1
  have z1 := B1.out.fz 1
  have u2 := B1.out.cell 2
  have z2 := B1.out.fz 2
  have u3 := B1.out.cell 3
  have z3 := B1.out.fz 3
  have u4 := B1.out.cell 4
  have z4 := B1.out.fz 4
  have u5 := B1.out.cell 5
  have z5 := B1.out.fz 5
  have u6 := B1.out.cell 6
  have z6 := B1.out.fz 6
  simp only [List.getElem?_cons_succ, List.getElem?_cons_zero] at u0 u1 u2 u3 u4 u5 u6
  have v0 := B0.out.cell 0
  have y0 := B0.out.fz 0
  have v1 := B0.out.cell 1
  have y1 := B0.out.fz 1
  have v2 := B0.out.cell 2
  have y2 := B0.out.fz 2
  have v3 := B0.out.cell 3
  have y3 := B0.out.fz 3
  have v4 := B0.out.cell 4
  have y4 := B0.out.fz 4
  have v5 := B0.out.cell 5
  have y5 := B0.out.fz 5
  have v6 := B0.out.cell 6
  have y6 := B0.out.fz 6
  simp only [List.getElem?_cons_succ, List.getElem?_cons_zero] at v0 v1 v2 v3 v4 v5 v6
  rcases h4 : rdNum l t3 with ⟨p, en⟩ | ⟨x4, t4⟩
  · have hne : en ≠ 0 := by have := rdNum_er h3le h4; omega
    have hen : ((en : Int) != 0) = true := by rw [bne_iff_ne]; omega
    have HR := Lib.hid (rdTk_e4 hne h1 h2 h3 h4)
    have HS := Lib.hid h4
    clear h1 h2 h3 h4
    refine HC.out.mono ?_
    rintro e w' ⟨hs, hw⟩; subst w'
    obtain rfl := hs.of_error HS.out
    clear HC hs HS
    go_wp2_with fail
    have F1 := B1.out.set 3 (.int .i64 0)
    have F0 := B0.out.far (p := ⟨b1, 3, none⟩) hnb (.int .i64 0)
    have FB : Below w.heap.size w (X3.setCell ⟨b1, 3, none⟩ (.int .i64 0)) := BB.out.setCell (p := ⟨b1, 3, none⟩) hlow.out.2 _
    simp only [List.set_cons_succ, List.set_cons_zero] at F1 F0
    have F0 := F0.set 0 (.string ⟨x1.toArray⟩)
    have FB := FB.setCell (p := ⟨b0, 0, none⟩) hlow.out.1 (.string ⟨x1.toArray⟩)
    have F0 := F0.set 1 (.string ⟨x2.toArray⟩)
    have FB := FB.setCell (p := ⟨b0, 1, none⟩) hlow.out.1 (.string ⟨x2.toArray⟩)
    have F0 := F0.set 2 (.int .i64 x3)
    have FB := FB.setCell (p := ⟨b0, 2, none⟩) hlow.out.1 (.int .i64 x3)
    have F0 := F0.set 3 (.int .i64 0)
    have FB := FB.setCell (p := ⟨b0, 3, none⟩) hlow.out.1 (.int .i64 0)
    have F0 := F0.set 4 (.int .i64 0)
    have FB := FB.setCell (p := ⟨b0, 4, none⟩) hlow.out.1 (.int .i64 0)
    have F0 := F0.set 5 (.string ⟨#[]⟩)
    have FB := FB.setCell (p := ⟨b0, 5, none⟩) hlow.out.1 (.string ⟨#[]⟩)
    have F0 := F0.set 6 (.int .i64 0)
    have FB := FB.setCell (p := ⟨b0, 6, none⟩) hlow.out.1 (.int .i64 0)
    simp only [List.set_cons_succ, List.set_cons_zero] at F0
    refine bodyPost_ret (results_T3 (h := rfl) (g := b0) (t := 64) (cs := ([.string ⟨x1.toArray⟩, .string ⟨x2.toArray⟩, .int .i64 x3, .int .i64 0, .int .i64 0, .string ⟨#[]⟩, .int .i64 0] : List Value).toArray) (fr := (0, 0)) (hp := rfl) (hg := F0) (hu := Tryz.underlying64) (hd := rfl) (hi := by kernel_rfl) _ _) rfl ?_
    refine ⟨⟨(⟨⟨⟨x1.toArray⟩, ⟨x2.toArray⟩, x3, 0⟩, 0, ⟨#[]⟩, 0⟩ : Ot), _, _, rfl, ?_⟩, FB⟩
    rw [HR.out]
    exact ⟨rfl, rfl⟩
  have HS4 := Lib.hid h4
  refine HC.out.mono ?_
  rintro e w' ⟨hs, hw⟩; subst w'
  obtain rfl := hs.of_ok HS4.out
  unfold natV
  clear HC hs
  have HR := Lib.hid (rdTk_ok h1 h2 h3 h4)
  clear h1 h2 h3 h4
  go_wp2_with fail
  have F1 := B1.out.set 3 (.int .i64 (x4 : Int))
  have F0 := B0.out.far (p := ⟨b1, 3, none⟩) hnb (.int .i64 (x4 : Int))
  have FB : Below w.heap.size w (X3.setCell ⟨b1, 3, none⟩ (.int .i64 (x4 : Int))) := BB.out.setCell (p := ⟨b1, 3, none⟩) hlow.out.2 _
  simp only [List.set_cons_succ, List.set_cons_zero] at F1 F0
  have F0 := F0.set 0 (.string ⟨x1.toArray⟩)
  have FB := FB.setCell (p := ⟨b0, 0, none⟩) hlow.out.1 (.string ⟨x1.toArray⟩)
  have F0 := F0.set 1 (.string ⟨x2.toArray⟩)
  have FB := FB.setCell (p := ⟨b0, 1, none⟩) hlow.out.1 (.string ⟨x2.toArray⟩)
  have F0 := F0.set 2 (.int .i64 x3)
  have FB := FB.setCell (p := ⟨b0, 2, none⟩) hlow.out.1 (.int .i64 x3)
  have F0 := F0.set 3 (.int .i64 (x4 : Int))
  have FB := FB.setCell (p := ⟨b0, 3, none⟩) hlow.out.1 (.int .i64 (x4 : Int))
  have F0 := F0.set 4 (.int .i64 0)
  have FB := FB.setCell (p := ⟨b0, 4, none⟩) hlow.out.1 (.int .i64 0)
  have F0 := F0.set 5 (.string ⟨#[]⟩)
  have FB := FB.setCell (p := ⟨b0, 5, none⟩) hlow.out.1 (.string ⟨#[]⟩)
  have F0 := F0.set 6 (.int .i64 0)
  have FB := FB.setCell (p := ⟨b0, 6, none⟩) hlow.out.1 (.int .i64 0)
  simp only [List.set_cons_succ, List.set_cons_zero] at F0
  refine bodyPost_ret (results_T3 (h := rfl) (g := b0) (t := 64) (cs := ([.string ⟨x1.toArray⟩, .string ⟨x2.toArray⟩, .int .i64 x3, .int .i64 (x4 : Int), .int .i64 0, .string ⟨#[]⟩, .int .i64 0] : List Value).toArray) (fr := (0, 0)) (hp := rfl) (hg := F0) (hu := Tryz.underlying64) (hd := rfl) (hi := by kernel_rfl) _ _) rfl ?_
  refine ⟨⟨(⟨⟨⟨x1.toArray⟩, ⟨x2.toArray⟩, x3, (x4 : Int)⟩, 0, ⟨#[]⟩, 0⟩ : Ot), _, _, rfl, ?_⟩, FB⟩
  rw [HR.out]
  exact ⟨rfl, rfl, rfl⟩
set_option maxRecDepth 20000 in
set_option maxHeartbeats 8000000 in
theorem rqAway (w : World) (A : Option Addr) (cap : Nat) (l : List UInt8) (a : Nat) (h : In w A l.length cap l) (hat : a ≤ l.length) (hsz : l.length ≤ 1000000) :
    Calls Tryz.prog 29 #[.slice A l.length cap, .int .i64 (a : Int)] w (RTaskY w (rdOt l a)) := by
  have HI := Lib.hid h
  clear h
  go_enter Tryz.func29, Tryz.ntmps29
  go_wp2_with fail
  have B0 := Lib.hid ((Blk.new w 64 (otC ot0)).alloc (.cells (otC ot0).toArray 64))
  have B1 := Lib.hid (Blk.new2 w (.cells (otC ot0).toArray 64) 64 (otC ot0))
  have BB := Lib.hid (Below.new2 w (.cells (otC ot0).toArray 64) (.cells (otC ot0).toArray 64))
  simp only [otC, ot0] at B0 B1 BB
  generalize (w.alloc (.cells #[.string ⟨#[]⟩, .string ⟨#[]⟩, .int .i64 0, .int .i64 0, .int .i64 0, .string ⟨#[]⟩, .int .i64 0] 64)).alloc (.cells #[.string ⟨#[]⟩, .string ⟨#[]⟩, .int .i64 0, .int .i64 0, .int .i64 0, .string ⟨#[]⟩, .int .i64 0] 64) = X at *
  obtain ⟨b0, hb0⟩ : ∃ b, w.heap.size = b := ⟨_, rfl⟩
  obtain ⟨b1, hb1⟩ : ∃ b, b0 + 1 = b := ⟨_, rfl⟩
  have hlow : Hid (w.heap.size ≤ b0 ∧ w.heap.size ≤ b1) := Lib.hid (by omega)
  have hnb : b0 ≠ b1 := by omega
  have hnb2 : b1 ≠ b0 := by omega
  rw [hb0] at B0 B1 ⊢
  rw [hb1] at B1 ⊢
  clear hb0 hb1
  have IX := Lib.hid (HI.out.below BB.out)
  have HC := Lib.hid (refText_any X A l.length cap l a IX.out.bs IX.out.cap_le.1 hat hsz)
  have u0 := B1.out.cell 0
  have z0 := B1.out.fz 0
  have u1 := B1.out.cell 1
  have z1 := B1.out.fz 1
  have u2 := B1.out.cell 2
  have z2 := B1.out.fz 2
  have u3 := B1.out.cell 3
  have z3 := B1.out.fz 3
  have u4 := B1.out.cell 4
  have z4 := B1.out.fz 4
  have u5 := B1.out.cell 5
  have z5 := B1.out.fz 5
  have u6 := B1.out.cell 6
  have z6 := B1.out.fz 6
  simp only [List.getElem?_cons_succ, List.getElem?_cons_zero] at u0 u1 u2 u3 u4 u5 u6
  have v0 := B0.out.cell 0
  have y0 := B0.out.fz 0
  have v1 := B0.out.cell 1
  have y1 := B0.out.fz 1
  have v2 := B0.out.cell 2
  have y2 := B0.out.fz 2
  have v3 := B0.out.cell 3
  have y3 := B0.out.fz 3
  have v4 := B0.out.cell 4
  have y4 := B0.out.fz 4
  have v5 := B0.out.cell 5
  have y5 := B0.out.fz 5
  have v6 := B0.out.cell 6
  have y6 := B0.out.fz 6
  simp only [List.getElem?_cons_succ, List.getElem?_cons_zero] at v0 v1 v2 v3 v4 v5 v6
  rcases h1 : Cd.rdText l a with ⟨p, en⟩ | ⟨x1, t1⟩
  · have hne : en ≠ 0 := by have := rdText_er hat h1; omega
    have hen : ((en : Int) != 0) = true := by rw [bne_iff_ne]; omega
    have HR := Lib.hid (rdOt_e1 hne h1)
    have HS := Lib.hid h1
    clear h1
    refine HC.out.mono ?_
    rintro e w' ⟨hs, hw⟩; subst w'
    obtain rfl := hs.of_error HS.out
    clear HC hs HS
    go_wp2_with fail
    have F1 := B1.out.set 0 (.string ⟨#[]⟩)
    have F0 := B0.out.far (p := ⟨b1, 0, none⟩) hnb (.string ⟨#[]⟩)
    have FB : Below w.heap.size w (X.setCell ⟨b1, 0, none⟩ (.string ⟨#[]⟩)) := BB.out.setCell (p := ⟨b1, 0, none⟩) hlow.out.2 _
    simp only [List.set_cons_succ, List.set_cons_zero] at F1 F0
    have F0 := F0.set 0 (.string ⟨#[]⟩)
    have FB := FB.setCell (p := ⟨b0, 0, none⟩) hlow.out.1 (.string ⟨#[]⟩)
    have F0 := F0.set 1 (.string ⟨#[]⟩)
    have FB := FB.setCell (p := ⟨b0, 1, none⟩) hlow.out.1 (.string ⟨#[]⟩)
    have F0 := F0.set 2 (.int .i64 0)
    have FB := FB.setCell (p := ⟨b0, 2, none⟩) hlow.out.1 (.int .i64 0)
    have F0 := F0.set 3 (.int .i64 0)
    have FB := FB.setCell (p := ⟨b0, 3, none⟩) hlow.out.1 (.int .i64 0)
    have F0 := F0.set 4 (.int .i64 0)
    have FB := FB.setCell (p := ⟨b0, 4, none⟩) hlow.out.1 (.int .i64 0)
    have F0 := F0.set 5 (.string ⟨#[]⟩)
    have FB := FB.setCell (p := ⟨b0, 5, none⟩) hlow.out.1 (.string ⟨#[]⟩)
    have F0 := F0.set 6 (.int .i64 0)
    have FB := FB.setCell (p := ⟨b0, 6, none⟩) hlow.out.1 (.int .i64 0)
    simp only [List.set_cons_succ, List.set_cons_zero] at F0
    refine bodyPost_ret (results_T3 (h := rfl) (g := b0) (t := 64) (cs := ([.string ⟨#[]⟩, .string ⟨#[]⟩, .int .i64 0, .int .i64 0, .int .i64 0, .string ⟨#[]⟩, .int .i64 0] : List Value).toArray) (fr := (0, 0)) (hp := rfl) (hg := F0) (hu := Tryz.underlying64) (hd := rfl) (hi := by kernel_rfl) _ _) rfl ?_
    refine ⟨⟨(⟨⟨⟨#[]⟩, ⟨#[]⟩, 0, 0⟩, 0, ⟨#[]⟩, 0⟩ : Ot), _, _, rfl, ?_⟩, FB⟩
    rw [HR.out]
    exact ⟨rfl, rfl⟩
  have HS1 := Lib.hid h1
  refine HC.out.mono ?_
  rintro e w' ⟨hs, hw⟩; subst w'
  obtain rfl := hs.of_ok HS1.out
  unfold strV
  clear HC hs
  have h1le : t1 ≤ l.length := (rdText_le h1).1
  clear u0 z0 v0 y0 u1 z1 v1 y1 u2 z2 v2 y2 u3 z3 v3 y3 u4 z4 v4 y4 u5 z5 v5 y5 u6 z6 v6 y6
  have D1 := Lib.hid (B1.out.set 0 (.string ⟨x1.toArray⟩))
  simp only [List.set_cons_succ, List.set_cons_zero] at D1
  have D0 := Lib.hid (B0.out.far (p := ⟨b1, 0, none⟩) hnb (.string ⟨x1.toArray⟩))
  have DB : Hid (Below w.heap.size w (X.setCell ⟨b1, 0, none⟩ (.string ⟨x1.toArray⟩))) := Lib.hid (BB.out.setCell (p := ⟨b1, 0, none⟩) hlow.out.2 _)
  have DI := Lib.hid (HI.out.below DB.out)
  have u0 := B1.out.cell 0
  have z0 := B1.out.fz 0
  have u1 := B1.out.cell 1
  have z1 := B1.out.fz 1
  have u2 := B1.out.cell 2
  have z2 := B1.out.fz 2
  have u3 := B1.out.cell 3
  have z3 := B1.out.fz 3
  have u4 := B1.out.cell 4
  have z4 := B1.out.fz 4
  have u5 := B1.out.cell 5
  have z5 := B1.out.fz 5
  have u6 := B1.out.cell 6
  have z6 := B1.out.fz 6
  simp only [List.getElem?_cons_succ, List.getElem?_cons_zero] at u0 u1 u2 u3 u4 u5 u6
  go_wp2_with fail
  clear u0 z0 u1 z1 u2 z2 u3 z3 u4 z4 u5 z5 u6 z6 B0 B1 BB IX
  generalize X.setCell ⟨b1, 0, none⟩ (.string ⟨x1.toArray⟩) = X1 at *
  have B1 := D1
  have B0 := D0
  have BB := DB
  have IX := DI
  clear D1 D0 DB DI
  have HC := Lib.hid (rqNumber X1 A l.length cap l t1 IX.out.bs h1le hsz)
  have u0 := B1.out.cell 0
  have z0 := B1.out.fz 0
  have u1 := B1.out.cell 1
  have z1 := B1.out.fz 1
  have u2 := B1.out.cell 2
  have z2 := B1.out.fz 2
  have u3 := B1.out.cell 3
  have z3 := B1.out.fz 3
  have u4 := B1.out.cell 4
  have z4 := B1.out.fz 4
  have u5 := B1.out.cell 5
  have z5 := B1.out.fz 5
  have u6 := B1.out.cell 6
  have z6 := B1.out.fz 6
  simp only [List.getElem?_cons_succ, List.getElem?_cons_zero] at u0 u1 u2 u3 u4 u5 u6
  have v0 := B0.out.cell 0
  have y0 := B0.out.fz 0
  have v1 := B0.out.cell 1
  have y1 := B0.out.fz 1
  have v2 := B0.out.cell 2
  have y2 := B0.out.fz 2
  have v3 := B0.out.cell 3
  have y3 := B0.out.fz 3
  have v4 := B0.out.cell 4
  have y4 := B0.out.fz 4
  have v5 := B0.out.cell 5
  have y5 := B0.out.fz 5
  have v6 := B0.out.cell 6
  have y6 := B0.out.fz 6
  simp only [List.getElem?_cons_succ, List.getElem?_cons_zero] at v0 v1 v2 v3 v4 v5 v6
  rcases h2 : rdNum l t1 with ⟨p, en⟩ | ⟨x2, t2⟩
  · have hne : en ≠ 0 := by have := rdNum_er h1le h2; omega
    have hen : ((en : Int) != 0) = true := by rw [bne_iff_ne]; omega
    have HR := Lib.hid (rdOt_e2 hne h1 h2)
    have HS := Lib.hid h2
    clear h1 h2
    refine HC.out.mono ?_
    rintro e w' ⟨hs, hw⟩; subst w'
    obtain rfl := hs.of_error HS.out
    clear HC hs HS
    go_wp2_with fail
    have F1 := B1.out.set 4 (.int .i64 0)
    have F0 := B0.out.far (p := ⟨b1, 4, none⟩) hnb (.int .i64 0)
    have FB : Below w.heap.size w (X1.setCell ⟨b1, 4, none⟩ (.int .i64 0)) := BB.out.setCell (p := ⟨b1, 4, none⟩) hlow.out.2 _
    simp only [List.set_cons_succ, List.set_cons_zero] at F1 F0
    have F0 := F0.set 0 (.string ⟨x1.toArray⟩)
    have FB := FB.setCell (p := ⟨b0, 0, none⟩) hlow.out.1 (.string ⟨x1.toArray⟩)
    have F0 := F0.set 1 (.string ⟨#[]⟩)
    have FB := FB.setCell (p := ⟨b0, 1, none⟩) hlow.out.1 (.string ⟨#[]⟩)
    have F0 := F0.set 2 (.int .i64 0)
    have FB := FB.setCell (p := ⟨b0, 2, none⟩) hlow.out.1 (.int .i64 0)
    have F0 := F0.set 3 (.int .i64 0)
    have FB := FB.setCell (p := ⟨b0, 3, none⟩) hlow.out.1 (.int .i64 0)
    have F0 := F0.set 4 (.int .i64 0)
    have FB := FB.setCell (p := ⟨b0, 4, none⟩) hlow.out.1 (.int .i64 0)
    have F0 := F0.set 5 (.string ⟨#[]⟩)
    have FB := FB.setCell (p := ⟨b0, 5, none⟩) hlow.out.1 (.string ⟨#[]⟩)
    have F0 := F0.set 6 (.int .i64 0)
    have FB := FB.setCell (p := ⟨b0, 6, none⟩) hlow.out.1 (.int .i64 0)
    simp only [List.set_cons_succ, List.set_cons_zero] at F0
    refine bodyPost_ret (results_T3 (h := rfl) (g := b0) (t := 64) (cs := ([.string ⟨x1.toArray⟩, .string ⟨#[]⟩, .int .i64 0, .int .i64 0, .int .i64 0, .string ⟨#[]⟩, .int .i64 0] : List Value).toArray) (fr := (0, 0)) (hp := rfl) (hg := F0) (hu := Tryz.underlying64) (hd := rfl) (hi := by kernel_rfl) _ _) rfl ?_
    refine ⟨⟨(⟨⟨⟨x1.toArray⟩, ⟨#[]⟩, 0, 0⟩, 0, ⟨#[]⟩, 0⟩ : Ot), _, _, rfl, ?_⟩, FB⟩
    rw [HR.out]
    exact ⟨rfl, rfl⟩
  have HS2 := Lib.hid h2
  refine HC.out.mono ?_
  rintro e w' ⟨hs, hw⟩; subst w'
  obtain rfl := hs.of_ok HS2.out
  unfold natV
  clear HC hs
  have h2le : t2 ≤ l.length := (rdNum_le h2).1
  clear u0 z0 v0 y0 u1 z1 v1 y1 u2 z2 v2 y2 u3 z3 v3 y3 u4 z4 v4 y4 u5 z5 v5 y5 u6 z6 v6 y6
  have D1 := Lib.hid (B1.out.set 4 (.int .i64 (x2 : Int)))
  simp only [List.set_cons_succ, List.set_cons_zero] at D1
  have D0 := Lib.hid (B0.out.far (p := ⟨b1, 4, none⟩) hnb (.int .i64 (x2 : Int)))
  have DB : Hid (Below w.heap.size w (X1.setCell ⟨b1, 4, none⟩ (.int .i64 (x2 : Int)))) := Lib.hid (BB.out.setCell (p := ⟨b1, 4, none⟩) hlow.out.2 _)
  have DI := Lib.hid (HI.out.below DB.out)
  have u0 := B1.out.cell 0
  have z0 := B1.out.fz 0
  have u1 := B1.out.cell 1
  have z1 := B1.out.fz 1
  have u2 := B1.out.cell 2
  have z2 := B1.out.fz 2
  have u3 := B1.out.cell 3
  have z3 := B1.out.fz 3
  have u4 := B1.out.cell 4
  have z4 := B1.out.fz 4
  have u5 := B1.out.cell 5
  have z5 := B1.out.fz 5
  have u6 := B1.out.cell 6
  have z6 := B1.out.fz 6
  simp only [List.getElem?_cons_succ, List.getElem?_cons_zero] at u0 u1 u2 u3 u4 u5 u6
  go_wp2_with fail
  clear u0 z0 u1 z1 u2 z2 u3 z3 u4 z4 u5 z5 u6 z6 B0 B1 BB IX
  generalize X1.setCell ⟨b1, 4, none⟩ (.int .i64 (x2 : Int)) = X2 at *
  have B1 := D1
  have B0 := D0
  have BB := DB
  have IX := DI
  clear D1 D0 DB DI
  have HC := Lib.hid (refText_any X2 A l.length cap l t2 IX.out.bs IX.out.cap_le.1 h2le hsz)
  have u0 := B1.out.cell 0
  have z0 := B1.out.fz 0
  have u1 := B1.out.cell 1
  have z1 := B1.out.fz 1
  have u2 := B1.out.cell 2
  have z2 := B1.out.fz 2
  have u3 := B1.out.cell 3
  have z3 := B1.out.fz 3
  have u4 := B1.out.cell 4
  have z4 := B1.out.fz 4
  have u5 := B1.out.cell 5
  have z5 := B1.out.fz 5
  have u6 := B1.out.cell 6
  have z6 := B1.out.fz 6
  simp only [List.getElem?_cons_succ, List.getElem?_cons_zero] at u0 u1 u2 u3 u4 u5 u6
  have v0 := B0.out.cell 0
  have y0 := B0.out.fz 0
  have v1 := B0.out.cell 1
  have y1 := B0.out.fz 1
  have v2 := B0.out.cell 2
  have y2 := B0.out.fz 2
  have v3 := B0.out.cell 3
  have y3 := B0.out.fz 3
  have v4 := B0.out.cell 4
  have y4 := B0.out.fz 4
  have v5 := B0.out.cell 5
  have y5 := B0.out.fz 5
  have v6 := B0.out.cell 6
  have y6 := B0.out.fz 6
  simp only [List.getElem?_cons_succ, List.getElem?_cons_zero] at v0 v1 v2 v3 v4 v5 v6
  rcases h3 : Cd.rdText l t2 with ⟨p, en⟩ | ⟨x3, t3⟩
  · have hne : en ≠ 0 := by have := rdText_er h2le h3; omega
    have hen : ((en : Int) != 0) = true := by rw [bne_iff_ne]; omega
    have HR := Lib.hid (rdOt_e3 hne h1 h2 h3)
    have HS := Lib.hid h3
    clear h1 h2 h3
    refine HC.out.mono ?_
    rintro e w' ⟨hs, hw⟩; subst w'
    obtain rfl := hs.of_error HS.out
    clear HC hs HS
    go_wp2_with fail
    have F1 := B1.out.set 5 (.string ⟨#[]⟩)
    have F0 := B0.out.far (p := ⟨b1, 5, none⟩) hnb (.string ⟨#[]⟩)
    have FB : Below w.heap.size w (X2.setCell ⟨b1, 5, none⟩ (.string ⟨#[]⟩)) := BB.out.setCell (p := ⟨b1, 5, none⟩) hlow.out.2 _
    simp only [List.set_cons_succ, List.set_cons_zero] at F1 F0
    have F0 := F0.set 0 (.string ⟨x1.toArray⟩)
    have FB := FB.setCell (p := ⟨b0, 0, none⟩) hlow.out.1 (.string ⟨x1.toArray⟩)
    have F0 := F0.set 1 (.string ⟨#[]⟩)
    have FB := FB.setCell (p := ⟨b0, 1, none⟩) hlow.out.1 (.string ⟨#[]⟩)
    have F0 := F0.set 2 (.int .i64 0)
    have FB := FB.setCell (p := ⟨b0, 2, none⟩) hlow.out.1 (.int .i64 0)
    have F0 := F0.set 3 (.int .i64 0)
    have FB := FB.setCell (p := ⟨b0, 3, none⟩) hlow.out.1 (.int .i64 0)
    have F0 := F0.set 4 (.int .i64 (x2 : Int))
    have FB := FB.setCell (p := ⟨b0, 4, none⟩) hlow.out.1 (.int .i64 (x2 : Int))
    have F0 := F0.set 5 (.string ⟨#[]⟩)
    have FB := FB.setCell (p := ⟨b0, 5, none⟩) hlow.out.1 (.string ⟨#[]⟩)
    have F0 := F0.set 6 (.int .i64 0)
    have FB := FB.setCell (p := ⟨b0, 6, none⟩) hlow.out.1 (.int .i64 0)
    simp only [List.set_cons_succ, List.set_cons_zero] at F0
    refine bodyPost_ret (results_T3 (h := rfl) (g := b0) (t := 64) (cs := ([.string ⟨x1.toArray⟩, .string ⟨#[]⟩, .int .i64 0, .int .i64 0, .int .i64 (x2 : Int), .string ⟨#[]⟩, .int .i64 0] : List Value).toArray) (fr := (0, 0)) (hp := rfl) (hg := F0) (hu := Tryz.underlying64) (hd := rfl) (hi := by kernel_rfl) _ _) rfl ?_
    refine ⟨⟨(⟨⟨⟨x1.toArray⟩, ⟨#[]⟩, 0, 0⟩, (x2 : Int), ⟨#[]⟩, 0⟩ : Ot), _, _, rfl, ?_⟩, FB⟩
    rw [HR.out]
    exact ⟨rfl, rfl⟩
  have HS3 := Lib.hid h3
  refine HC.out.mono ?_
  rintro e w' ⟨hs, hw⟩; subst w'
  obtain rfl := hs.of_ok HS3.out
  unfold strV
  clear HC hs
  have h3le : t3 ≤ l.length := (rdText_le h3).1
  clear u0 z0 v0 y0 u1 z1 v1 y1 u2 z2 v2 y2 u3 z3 v3 y3 u4 z4 v4 y4 u5 z5 v5 y5 u6 z6 v6 y6
  have D1 := Lib.hid (B1.out.set 5 (.string ⟨x3.toArray⟩))
  simp only [List.set_cons_succ, List.set_cons_zero] at D1
  have D0 := Lib.hid (B0.out.far (p := ⟨b1, 5, none⟩) hnb (.string ⟨x3.toArray⟩))
  have DB : Hid (Below w.heap.size w (X2.setCell ⟨b1, 5, none⟩ (.string ⟨x3.toArray⟩))) := Lib.hid (BB.out.setCell (p := ⟨b1, 5, none⟩) hlow.out.2 _)
  have DI := Lib.hid (HI.out.below DB.out)
  have u0 := B1.out.cell 0
  have z0 := B1.out.fz 0
  have u1 := B1.out.cell 1
  have z1 := B1.out.fz 1
  have u2 := B1.out.cell 2
  have z2 := B1.out.fz 2
  have u3 := B1.out.cell 3
  have z3 := B1.out.fz 3
  have u4 := B1.out.cell 4
  have z4 := B1.out.fz 4
  have u5 := B1.out.cell 5
  have z5 := B1.out.fz 5
  have u6 := B1.out.cell 6
  have z6 := B1.out.fz 6
  simp only [List.getElem?_cons_succ, List.getElem?_cons_zero] at u0 u1 u2 u3 u4 u5 u6
  go_wp2_with fail
  clear u0 z0 u1 z1 u2 z2 u3 z3 u4 z4 u5 z5 u6 z6 B0 B1 BB IX
  generalize X2.setCell ⟨b1, 5, none⟩ (.string ⟨x3.toArray⟩) = X3 at *
  have B1 := D1
  have B0 := D0
  have BB := DB
  have IX := DI
  clear D1 D0 DB DI
  have HC := Lib.hid (refInt_any X3 A l.length cap l t3 IX.out.bs h3le hsz)
  have u0 := B1.out.cell 0
  have z0 := B1.out.fz 0
  have u1 := B1.out.cell 1
  have z1 := B1.out.fz 1
  have u2 := B1.out.cell 2
  have z2 := B1.out.fz 2
  have u3 := B1.out.cell 3
  have z3 := B1.out.fz 3
  have u4 := B1.out.cell 4
  have z4 := B1.out.fz 4
  have u5 := B1.out.cell 5
  have z5 := B1.out.fz 5
  have u6 := B1.out.cell 6
  have z6 := B1.out.fz 6
  simp only [List.getElem?_cons_succ, List.getElem?_cons_zero] at u0 u1 u2 u3 u4 u5 u6
  have v0 := B0.out.cell 0
  have y0 := B0.out.fz 0
  have v1 := B0.out.cell 1
  have y1 := B0.out.fz 1
  have v2 := B0.out.cell 2
  have y2 := B0.out.fz 2
  have v3 := B0.out.cell 3
  have y3 := B0.out.fz 3
  have v4 := B0.out.cell 4
  have y4 := B0.out.fz 4
  have v5 := B0.out.cell 5
  have y5 := B0.out.fz 5
  have v6 := B0.out.cell 6
  have y6 := B0.out.fz 6
  simp only [List.getElem?_cons_succ, List.getElem?_cons_zero] at v0 v1 v2 v3 v4 v5 v6
  rcases h4 : Cd.rdInt l t3 with ⟨p, en⟩ | ⟨x4, t4⟩
  · have hne : en ≠ 0 := by have := rdInt_er h3le h4; omega
    have hen : ((en : Int) != 0) = true := by rw [bne_iff_ne]; omega
    have HR := Lib.hid (rdOt_e4 hne h1 h2 h3 h4)
    have HS := Lib.hid h4
    clear h1 h2 h3 h4
    refine HC.out.mono ?_
    rintro e w' ⟨hs, hw⟩; subst w'
    obtain rfl := hs.of_error HS.out
    clear HC hs HS
    go_wp2_with fail
    have F1 := B1.out.set 6 (.int .i64 0)
    have F0 := B0.out.far (p := ⟨b1, 6, none⟩) hnb (.int .i64 0)
    have FB : Below w.heap.size w (X3.setCell ⟨b1, 6, none⟩ (.int .i64 0)) := BB.out.setCell (p := ⟨b1, 6, none⟩) hlow.out.2 _
    simp only [List.set_cons_succ, List.set_cons_zero] at F1 F0
    have F0 := F0.set 0 (.string ⟨x1.toArray⟩)
    have FB := FB.setCell (p := ⟨b0, 0, none⟩) hlow.out.1 (.string ⟨x1.toArray⟩)
    have F0 := F0.set 1 (.string ⟨#[]⟩)
    have FB := FB.setCell (p := ⟨b0, 1, none⟩) hlow.out.1 (.string ⟨#[]⟩)
    have F0 := F0.set 2 (.int .i64 0)
    have FB := FB.setCell (p := ⟨b0, 2, none⟩) hlow.out.1 (.int .i64 0)
    have F0 := F0.set 3 (.int .i64 0)
    have FB := FB.setCell (p := ⟨b0, 3, none⟩) hlow.out.1 (.int .i64 0)
    have F0 := F0.set 4 (.int .i64 (x2 : Int))
    have FB := FB.setCell (p := ⟨b0, 4, none⟩) hlow.out.1 (.int .i64 (x2 : Int))
    have F0 := F0.set 5 (.string ⟨x3.toArray⟩)
    have FB := FB.setCell (p := ⟨b0, 5, none⟩) hlow.out.1 (.string ⟨x3.toArray⟩)
    have F0 := F0.set 6 (.int .i64 0)
    have FB := FB.setCell (p := ⟨b0, 6, none⟩) hlow.out.1 (.int .i64 0)
    simp only [List.set_cons_succ, List.set_cons_zero] at F0
    refine bodyPost_ret (results_T3 (h := rfl) (g := b0) (t := 64) (cs := ([.string ⟨x1.toArray⟩, .string ⟨#[]⟩, .int .i64 0, .int .i64 0, .int .i64 (x2 : Int), .string ⟨x3.toArray⟩, .int .i64 0] : List Value).toArray) (fr := (0, 0)) (hp := rfl) (hg := F0) (hu := Tryz.underlying64) (hd := rfl) (hi := by kernel_rfl) _ _) rfl ?_
    refine ⟨⟨(⟨⟨⟨x1.toArray⟩, ⟨#[]⟩, 0, 0⟩, (x2 : Int), ⟨x3.toArray⟩, 0⟩ : Ot), _, _, rfl, ?_⟩, FB⟩
    rw [HR.out]
    exact ⟨rfl, rfl⟩
  have HS4 := Lib.hid h4
  refine HC.out.mono ?_
  rintro e w' ⟨hs, hw⟩; subst w'
  obtain rfl := hs.of_ok HS4.out
  unfold i64V
  clear HC hs
  have h4le : t4 ≤ l.length := rdInt_le h4
  clear u0 z0 v0 y0 u1 z1 v1 y1 u2 z2 v2 y2 u3 z3 v3 y3 u4 z4 v4 y4 u5 z5 v5 y5 u6 z6 v6 y6
  have D1 := Lib.hid (B1.out.set 6 (.int .i64 x4))
  simp only [List.set_cons_succ, List.set_cons_zero] at D1
  have D0 := Lib.hid (B0.out.far (p := ⟨b1, 6, none⟩) hnb (.int .i64 x4))
  have DB : Hid (Below w.heap.size w (X3.setCell ⟨b1, 6, none⟩ (.int .i64 x4))) := Lib.hid (BB.out.setCell (p := ⟨b1, 6, none⟩) hlow.out.2 _)
  have DI := Lib.hid (HI.out.below DB.out)
  have u0 := B1.out.cell 0
  have z0 := B1.out.fz 0
  have u1 := B1.out.cell 1
  have z1 := B1.out.fz 1
  have u2 := B1.out.cell 2
  have z2 := B1.out.fz 2
  have u3 := B1.out.cell 3
  have z3 := B1.out.fz 3
  have u4 := B1.out.cell 4
  have z4 := B1.out.fz 4
  have u5 := B1.out.cell 5
  have z5 := B1.out.fz 5
  have u6 := B1.out.cell 6
  have z6 := B1.out.fz 6
  simp only [List.getElem?_cons_succ, List.getElem?_cons_zero] at u0 u1 u2 u3 u4 u5 u6
  go_wp2_with fail
  clear u0 z0 u1 z1 u2 z2 u3 z3 u4 z4 u5 z5 u6 z6 B0 B1 BB IX
  generalize X3.setCell ⟨b1, 6, none⟩ (.int .i64 x4) = X4 at *
  have B1 := D1
  have B0 := D0
  have BB := DB
  have IX := DI
  clear D1 D0 DB DI
  have HC := Lib.hid (rqNumber X4 A l.length cap l t4 IX.out.bs h4le hsz)
  have u0 := B1.out.cell 0
  have z0 := B1.out.fz 0
  have u1 := B1.out.cell 1
  have z1 := B1.out.fz 1
  have u2 := B1.out.cell 2
  have z2 := B1.out.fz 2
  have u3 := B1.out.cell 3
  have z3 := B1.out.fz 3
  have u4 := B1.out.cell 4
  have z4 := B1.out.fz 4
  have u5 := B1.out.cell 5
  have z5 := B1.out.fz 5
  have u6 := B1.out.cell 6
  have z6 := B1.out.fz 6
  simp only [List.getElem?_cons_succ, List.getElem?_cons_zero] at u0 u1 u2 u3 u4 u5 u6
  have v0 := B0.out.cell 0
  have y0 := B0.out.fz 0
  have v1 := B0.out.cell 1
  have y1 := B0.out.fz 1
  have v2 := B0.out.cell 2
  have y2 := B0.out.fz 2
  have v3 := B0.out.cell 3
  have y3 := B0.out.fz 3
  have v4 := B0.out.cell 4
  have y4 := B0.out.fz 4
  have v5 := B0.out.cell 5
  have y5 := B0.out.fz 5
  have v6 := B0.out.cell 6
  have y6 := B0.out.fz 6
  simp only [List.getElem?_cons_succ, List.getElem?_cons_zero] at v0 v1 v2 v3 v4 v5 v6
  rcases h5 : rdNum l t4 with ⟨p, en⟩ | ⟨x5, t5⟩
  · have hne : en ≠ 0 := by have := rdNum_er h4le h5; omega
    have hen : ((en : Int) != 0) = true := by rw [bne_iff_ne]; omega
    have HR := Lib.hid (rdOt_e5 hne h1 h2 h3 h4 h5)
    have HS := Lib.hid h5
    clear h1 h2 h3 h4 h5
    refine HC.out.mono ?_
    rintro e w' ⟨hs, hw⟩; subst w'
    obtain rfl := hs.of_error HS.out
    clear HC hs HS
    go_wp2_with fail
    have F1 := B1.out.set 3 (.int .i64 0)
    have F0 := B0.out.far (p := ⟨b1, 3, none⟩) hnb (.int .i64 0)
    have FB : Below w.heap.size w (X4.setCell ⟨b1, 3, none⟩ (.int .i64 0)) := BB.out.setCell (p := ⟨b1, 3, none⟩) hlow.out.2 _
    simp only [List.set_cons_succ, List.set_cons_zero] at F1 F0
    have F0 := F0.set 0 (.string ⟨x1.toArray⟩)
    have FB := FB.setCell (p := ⟨b0, 0, none⟩) hlow.out.1 (.string ⟨x1.toArray⟩)
    have F0 := F0.set 1 (.string ⟨#[]⟩)
    have FB := FB.setCell (p := ⟨b0, 1, none⟩) hlow.out.1 (.string ⟨#[]⟩)
    have F0 := F0.set 2 (.int .i64 0)
    have FB := FB.setCell (p := ⟨b0, 2, none⟩) hlow.out.1 (.int .i64 0)
    have F0 := F0.set 3 (.int .i64 0)
    have FB := FB.setCell (p := ⟨b0, 3, none⟩) hlow.out.1 (.int .i64 0)
    have F0 := F0.set 4 (.int .i64 (x2 : Int))
    have FB := FB.setCell (p := ⟨b0, 4, none⟩) hlow.out.1 (.int .i64 (x2 : Int))
    have F0 := F0.set 5 (.string ⟨x3.toArray⟩)
    have FB := FB.setCell (p := ⟨b0, 5, none⟩) hlow.out.1 (.string ⟨x3.toArray⟩)
    have F0 := F0.set 6 (.int .i64 x4)
    have FB := FB.setCell (p := ⟨b0, 6, none⟩) hlow.out.1 (.int .i64 x4)
    simp only [List.set_cons_succ, List.set_cons_zero] at F0
    refine bodyPost_ret (results_T3 (h := rfl) (g := b0) (t := 64) (cs := ([.string ⟨x1.toArray⟩, .string ⟨#[]⟩, .int .i64 0, .int .i64 0, .int .i64 (x2 : Int), .string ⟨x3.toArray⟩, .int .i64 x4] : List Value).toArray) (fr := (0, 0)) (hp := rfl) (hg := F0) (hu := Tryz.underlying64) (hd := rfl) (hi := by kernel_rfl) _ _) rfl ?_
    refine ⟨⟨(⟨⟨⟨x1.toArray⟩, ⟨#[]⟩, 0, 0⟩, (x2 : Int), ⟨x3.toArray⟩, x4⟩ : Ot), _, _, rfl, ?_⟩, FB⟩
    rw [HR.out]
    exact ⟨rfl, rfl⟩
  have HS5 := Lib.hid h5
  refine HC.out.mono ?_
  rintro e w' ⟨hs, hw⟩; subst w'
  obtain rfl := hs.of_ok HS5.out
  unfold natV
  clear HC hs
  have HR := Lib.hid (rdOt_ok h1 h2 h3 h4 h5)
  clear h1 h2 h3 h4 h5
  go_wp2_with fail
  have F1 := B1.out.set 3 (.int .i64 (x5 : Int))
  have F0 := B0.out.far (p := ⟨b1, 3, none⟩) hnb (.int .i64 (x5 : Int))
  have FB : Below w.heap.size w (X4.setCell ⟨b1, 3, none⟩ (.int .i64 (x5 : Int))) := BB.out.setCell (p := ⟨b1, 3, none⟩) hlow.out.2 _
  simp only [List.set_cons_succ, List.set_cons_zero] at F1 F0
  have F0 := F0.set 0 (.string ⟨x1.toArray⟩)
  have FB := FB.setCell (p := ⟨b0, 0, none⟩) hlow.out.1 (.string ⟨x1.toArray⟩)
  have F0 := F0.set 1 (.string ⟨#[]⟩)
  have FB := FB.setCell (p := ⟨b0, 1, none⟩) hlow.out.1 (.string ⟨#[]⟩)
  have F0 := F0.set 2 (.int .i64 0)
  have FB := FB.setCell (p := ⟨b0, 2, none⟩) hlow.out.1 (.int .i64 0)
  have F0 := F0.set 3 (.int .i64 (x5 : Int))
  have FB := FB.setCell (p := ⟨b0, 3, none⟩) hlow.out.1 (.int .i64 (x5 : Int))
  have F0 := F0.set 4 (.int .i64 (x2 : Int))
  have FB := FB.setCell (p := ⟨b0, 4, none⟩) hlow.out.1 (.int .i64 (x2 : Int))
  have F0 := F0.set 5 (.string ⟨x3.toArray⟩)
  have FB := FB.setCell (p := ⟨b0, 5, none⟩) hlow.out.1 (.string ⟨x3.toArray⟩)
  have F0 := F0.set 6 (.int .i64 x4)
  have FB := FB.setCell (p := ⟨b0, 6, none⟩) hlow.out.1 (.int .i64 x4)
  simp only [List.set_cons_succ, List.set_cons_zero] at F0
  refine bodyPost_ret (results_T3 (h := rfl) (g := b0) (t := 64) (cs := ([.string ⟨x1.toArray⟩, .string ⟨#[]⟩, .int .i64 0, .int .i64 (x5 : Int), .int .i64 (x2 : Int), .string ⟨x3.toArray⟩, .int .i64 x4] : List Value).toArray) (fr := (0, 0)) (hp := rfl) (hg := F0) (hu := Tryz.underlying64) (hd := rfl) (hi := by kernel_rfl) _ _) rfl ?_
  refine ⟨⟨(⟨⟨⟨x1.toArray⟩, ⟨#[]⟩, 0, (x5 : Int)⟩, (x2 : Int), ⟨x3.toArray⟩, x4⟩ : Ot), _, _, rfl, ?_⟩, FB⟩
  rw [HR.out]
  exact ⟨rfl, rfl, rfl⟩
end Go.Proofs.YtpbheicfplpemaaGreat
