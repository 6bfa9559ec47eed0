/- DiskScript: a step that is done with both disks (written by gen_scone.py). -/
import Derived.Test.YtoljnklceghcdaaScBoth
namespace Go.Proofs.Ytoljnklceghcdaa
open Go.RowKit Go.Maps Go.Sort Go.Shelf

theorem short_crash (n : Nat) (z : Nat → Int) : ∀ (ks : List (List UInt8)) (i : Nat) (p : Fs) (M : Nat), Short p M → Short (crashF n z ks i p) M
  | [], _, _, _, h => h
  | x :: ks, i, p, M, h => by
    unfold crashF
    split
    · exact short_crash n z ks i p M h
    · refine short_crash n z ks (i + 1) _ M (short_upd h _ _ ?_ (Nat.le_refl _))
      rw [List.length_take]
      have := h (keyB x)
      omega
theorem short_more {p : Fs} {L M : Nat} (h : Short p L) (hM : L ≤ M) : Short p M := fun y => by have := h y; omega
def OneY (H : Nat) (w : World) (d F N r n M : Nat) (e : Ending) (w' : World) : Prop :=
  e = .returned (.bool true) ∧ ∃ v' s' L', BS H w' d F (N + 1) r v' s' L' ∧ L'.length ≤ n + 1 ∧ Short s'.p (M + 5000) ∧ Turns (fun i => H ≤ i) w w'
theorem DSet.ge {H d F : Nat} (h : H ≤ d ∧ H ≤ F) : ∀ i, DSet d F i → H ≤ i := fun i hi => by rcases hi with hi | hi <;> omega
theorem RS.ge {H : Nat} {w : World} {r : Nat} {v : Value} {off : Bool} {left : Int} {L : List RF} (h : RS H w r v off left L) : ∀ i, RSet r v i → H ≤ i := fun i hi => by
  rcases hi with rfl | hi
  · exact h.lo
  · exact (h.row_lt hi).1
theorem step_ne {Xs : Nat → Prop} {w : World} {d F N g : Nat} {off : Bool} {fuse : Int} {p : Fs} {cs : List Value} (h : Blk w g 32 cs) (hd : DS Xs w d F off fuse p N) : ¬ DSet d F g := fun e => by
  obtain ⟨mv, n0, _, hm, _⟩ := hd.files
  rcases e with e | e
  · exact blk_ne h hd.blk (by decide) e
  · exact blk_ne_map h hm e
/-- both deeds together -/
theorem BS.both {H : Nat} {w w2 w3 : World} {d F N N2 r n : Nat} {v : Value} {s s' : Dk} {L : List RF} (h : BS H w d F N r v s L) (h2 : s'.Is Ny w2 d F N2) (t2 : Turns (DSet d F) w w2)
    (h3 : ∃ v' L', RS H w3 r v' s'.off s'.fuse L' ∧ Rise L' ∧ pOf L' = s'.p ∧ L'.length ≤ n ∧ Turns (RSet r v) w2 w3) : ∃ v' L', BS H w3 d F N2 r v' s' L' ∧ L'.length ≤ n ∧ Turns (fun i => H ≤ i) w w3 := by
  obtain ⟨v', L', r3, u3, p3, l3, t3⟩ := h3
  have r2 := h.rr.byD h.dd t2
  exact ⟨v', L', ⟨DS.byR h2 r2 t3, r3, u3, p3, h.lo⟩, l3, (t2.mono (fun i _ e => DSet.ge h.lo i e)).then (t3.mono (fun i _ e => r2.ge i e))⟩
theorem OpY.wide {H : Nat} {w w' : World} {r n n2 : Nat} {v : Value} {c : Int} {s : Dk} {e : Ending} (h : OpY H w r v n c s e w') (hn : n ≤ n2) : OpY H w r v n2 c s e w' := by
  obtain ⟨h1, v', L', h2, h3, h4, h5, h6⟩ := h
  exact ⟨h1, v', L', h2, h3, h4, by omega, h6⟩
set_option maxRecDepth 20000 in
set_option maxHeartbeats 4000000 in
theorem one1 (H : Nat) (w : World) (d F N r M : Nat) (v : Value) (s : Dk) (L : List RF) (h : BS H w d F N r v s L) (hN : N ≤ 1000000) (hS : Short s.p M) (hM : M ≤ 1000000) (hL : L.length < 1000) (hH : H ≤ w.heap.size) (k k2 : ByteArray) (A : Option Addr) (m c : Nat) (num : Int) (hnum : num ≤ 9223372036854775807) (kA : Option Addr) (kn kc : Nat) :
    Calls Try.prog 23 #[.pointer (some ⟨d, 0, none⟩), .pointer (some ⟨r, 0, none⟩), .agg #[.int .u8 1, .string k, .string k2, .slice A m c, .int .i64 num, .slice kA kn kc]] w (OneY H w d F N r L.length M) := by
  have KW : Hid (Blk (w.alloc (.cells #[.int .u8 1, .string k, .string k2, .slice A m c, .int .i64 num, .slice kA kn kc] 32)) w.heap.size 32 [.int .u8 1, .string k, .string k2, .slice A m c, .int .i64 num, .slice kA kn kc]) := Lib.hid (Blk.new w 32 [.int .u8 1, .string k, .string k2, .slice A m c, .int .i64 num, .slice kA kn kc])
  have BW : Hid (Below w.heap.size w (w.alloc (.cells #[.int .u8 1, .string k, .string k2, .slice A m c, .int .i64 num, .slice kA kn kc] 32))) := Lib.hid (Below.new w (.cells #[.int .u8 1, .string k, .string k2, .slice A m c, .int .i64 num, .slice kA kn kc] 32))
  have HB := Lib.hid (h.bel BW.out)
  have TW0 : Hid (Turns (fun i => H ≤ i) w (w.alloc (.cells #[.int .u8 1, .string k, .string k2, .slice A m c, .int .i64 num, .slice kA kn kc] 32))) := Lib.hid (Turns.of_below BW.out)
  have HSh := Lib.hid hS
  clear h hS
  go_enter Try.func23, Try.ntmps23
  go_upto_region 1 with (fail)
  generalize w.alloc (.cells #[.int .u8 1, .string k, .string k2, .slice A m c, .int .i64 num, .slice kA kn kc] 32) = W at *
  generalize w.heap.size = g at *
  have HD : Hid (Calls Try.prog 11 #[.pointer (some ⟨d, 0, none⟩), .string k] W fun e w' => e = .returned (.int .i64 (chC s k)) ∧ Dk.Is (syS s k) Ny w' d F (N) ∧ Turns (DSet d F) W w') := Lib.hid (syncD W d F N s HB.out.dd k)
  have k0 := KW.out.cell 0
  have k1 := KW.out.cell 1
  have k2' := KW.out.cell 2
  have k3 := KW.out.cell 3
  have k4 := KW.out.cell 4
  have k5 := KW.out.cell 5
  simp only [List.getElem?_cons_succ, List.getElem?_cons_zero] at k0 k1 k2' k3 k4 k5
  have hSW : Short s.p 100000000 := short_more HSh.out (by omega)
  obtain ⟨cc, hcc⟩ : ∃ cc, cc = chC s k := ⟨_, rfl⟩
  rw [← hcc] at HD
  have HCc := Lib.hid hcc
  have HSW := Lib.hid hSW
  clear hcc hSW
  go_upto_region 12 with (go_at_call 11; refine HD.out.mono ?_; rintro e W2 ⟨rfl, h2, t2⟩)
  have hr2 := HB.out.rr.byD HB.out.dd t2
  have HR := Lib.hid (rsync H W2 r v s.off s.fuse L hr2 HB.out.rise (by rw [HB.out.eq]; exact HSW.out) hL k)
  rw [HB.out.eq] at HR
  have e1 : chC s k = cc := HCc.out.symm
  have K2 := Lib.hid (KW.out.turns t2 (step_ne KW.out HB.out.dd))
  have H2 := Lib.hid h2
  have T2 := Lib.hid t2
  clear h2 t2 hr2 k0 k1 k2' k3 k4 k5
  have HR2 : Hid (Calls Try.prog 38 _ W2 (OpY H W2 r v (L.length + 1) cc (syS s k))) := Lib.hid (by rw [← e1]; exact HR.out)
  clear e1 HR
  have k0 := K2.out.cell 0
  have k1 := K2.out.cell 1
  have k2' := K2.out.cell 2
  have k3 := K2.out.cell 3
  have k4 := K2.out.cell 4
  have k5 := K2.out.cell 5
  simp only [List.getElem?_cons_succ, List.getElem?_cons_zero] at k0 k1 k2' k3 k4 k5
  go_wp2_with (go_at_call 38; refine HR2.out.mono ?_; rintro e W3 ⟨rfl, h3⟩; have H3 := Lib.hid h3; clear h3)
  go_ret
  obtain ⟨v', L', b3, l3, t3⟩ := HB.out.both H2.out T2.out H3.out
  exact ⟨rfl, v', _, L', ⟨b3.dd.wide (by omega), b3.rr, b3.rise, b3.eq, b3.lo⟩, by omega, (short_op (op := 1) HSh.out k k2 [] (M + 5000) (by simp)), TW0.out.then t3⟩
set_option maxRecDepth 20000 in
set_option maxHeartbeats 4000000 in
theorem one2 (H : Nat) (w : World) (d F N r M : Nat) (v : Value) (s : Dk) (L : List RF) (h : BS H w d F N r v s L) (hN : N ≤ 1000000) (hS : Short s.p M) (hM : M ≤ 1000000) (hL : L.length < 1000) (hH : H ≤ w.heap.size) (k k2 : ByteArray) (A : Option Addr) (m c : Nat) (num : Int) (hnum : num ≤ 9223372036854775807) (kA : Option Addr) (kn kc : Nat) :
    Calls Try.prog 23 #[.pointer (some ⟨d, 0, none⟩), .pointer (some ⟨r, 0, none⟩), .agg #[.int .u8 2, .string k, .string k2, .slice A m c, .int .i64 num, .slice kA kn kc]] w (OneY H w d F N r L.length M) := by
  have KW : Hid (Blk (w.alloc (.cells #[.int .u8 2, .string k, .string k2, .slice A m c, .int .i64 num, .slice kA kn kc] 32)) w.heap.size 32 [.int .u8 2, .string k, .string k2, .slice A m c, .int .i64 num, .slice kA kn kc]) := Lib.hid (Blk.new w 32 [.int .u8 2, .string k, .string k2, .slice A m c, .int .i64 num, .slice kA kn kc])
  have BW : Hid (Below w.heap.size w (w.alloc (.cells #[.int .u8 2, .string k, .string k2, .slice A m c, .int .i64 num, .slice kA kn kc] 32))) := Lib.hid (Below.new w (.cells #[.int .u8 2, .string k, .string k2, .slice A m c, .int .i64 num, .slice kA kn kc] 32))
  have HB := Lib.hid (h.bel BW.out)
  have TW0 : Hid (Turns (fun i => H ≤ i) w (w.alloc (.cells #[.int .u8 2, .string k, .string k2, .slice A m c, .int .i64 num, .slice kA kn kc] 32))) := Lib.hid (Turns.of_below BW.out)
  have HSh := Lib.hid hS
  clear h hS
  go_enter Try.func23, Try.ntmps23
  go_upto_region 1 with (fail)
  generalize w.alloc (.cells #[.int .u8 2, .string k, .string k2, .slice A m c, .int .i64 num, .slice kA kn kc] 32) = W at *
  generalize w.heap.size = g at *
  have HD : Hid (Calls Try.prog 25 #[.pointer (some ⟨d, 0, none⟩), .string k, .string k2] W fun e w' => e = .returned (.int .i64 (chC s k)) ∧ Dk.Is (mvS s k k2) Ny w' d F (N + 1) ∧ Turns (DSet d F) W w') := Lib.hid (renameD W d F N s HB.out.dd k k2)
  have k0 := KW.out.cell 0
  have k1 := KW.out.cell 1
  have k2' := KW.out.cell 2
  have k3 := KW.out.cell 3
  have k4 := KW.out.cell 4
  have k5 := KW.out.cell 5
  simp only [List.getElem?_cons_succ, List.getElem?_cons_zero] at k0 k1 k2' k3 k4 k5
  have hSW : Short s.p 100000000 := short_more HSh.out (by omega)
  obtain ⟨cc, hcc⟩ : ∃ cc, cc = chC s k := ⟨_, rfl⟩
  rw [← hcc] at HD
  have HCc := Lib.hid hcc
  have HSW := Lib.hid hSW
  clear hcc hSW
  go_upto_region 15 with (go_at_call 25; refine HD.out.mono ?_; rintro e W2 ⟨rfl, h2, t2⟩)
  have hr2 := HB.out.rr.byD HB.out.dd t2
  have HR := Lib.hid (rrename H W2 r v s.off s.fuse L hr2 HB.out.rise (by rw [HB.out.eq]; exact HSW.out) hL k k2)
  rw [HB.out.eq] at HR
  have e1 : chC s k = cc := HCc.out.symm
  have K2 := Lib.hid (KW.out.turns t2 (step_ne KW.out HB.out.dd))
  have H2 := Lib.hid h2
  have T2 := Lib.hid t2
  clear h2 t2 hr2 k0 k1 k2' k3 k4 k5
  have HR2 : Hid (Calls Try.prog 39 _ W2 (OpY H W2 r v (L.length + 1) cc (mvS s k k2))) := Lib.hid (by rw [← e1]; exact HR.out)
  clear e1 HR
  have k0 := K2.out.cell 0
  have k1 := K2.out.cell 1
  have k2' := K2.out.cell 2
  have k3 := K2.out.cell 3
  have k4 := K2.out.cell 4
  have k5 := K2.out.cell 5
  simp only [List.getElem?_cons_succ, List.getElem?_cons_zero] at k0 k1 k2' k3 k4 k5
  go_wp2_with (go_at_call 39; refine HR2.out.mono ?_; rintro e W3 ⟨rfl, h3⟩; have H3 := Lib.hid h3; clear h3)
  go_ret
  obtain ⟨v', L', b3, l3, t3⟩ := HB.out.both H2.out T2.out H3.out
  exact ⟨rfl, v', _, L', ⟨b3.dd.wide (by omega), b3.rr, b3.rise, b3.eq, b3.lo⟩, by omega, (short_op (op := 2) HSh.out k k2 [] (M + 5000) (by simp)), TW0.out.then t3⟩
set_option maxRecDepth 20000 in
set_option maxHeartbeats 4000000 in
theorem one3 (H : Nat) (w : World) (d F N r M : Nat) (v : Value) (s : Dk) (L : List RF) (h : BS H w d F N r v s L) (hN : N ≤ 1000000) (hS : Short s.p M) (hM : M ≤ 1000000) (hL : L.length < 1000) (hH : H ≤ w.heap.size) (k k2 : ByteArray) (A : Option Addr) (m c : Nat) (num : Int) (hnum : num ≤ 9223372036854775807) (kA : Option Addr) (kn kc : Nat) :
    Calls Try.prog 23 #[.pointer (some ⟨d, 0, none⟩), .pointer (some ⟨r, 0, none⟩), .agg #[.int .u8 3, .string k, .string k2, .slice A m c, .int .i64 num, .slice kA kn kc]] w (OneY H w d F N r L.length M) := by
  have KW : Hid (Blk (w.alloc (.cells #[.int .u8 3, .string k, .string k2, .slice A m c, .int .i64 num, .slice kA kn kc] 32)) w.heap.size 32 [.int .u8 3, .string k, .string k2, .slice A m c, .int .i64 num, .slice kA kn kc]) := Lib.hid (Blk.new w 32 [.int .u8 3, .string k, .string k2, .slice A m c, .int .i64 num, .slice kA kn kc])
  have BW : Hid (Below w.heap.size w (w.alloc (.cells #[.int .u8 3, .string k, .string k2, .slice A m c, .int .i64 num, .slice kA kn kc] 32))) := Lib.hid (Below.new w (.cells #[.int .u8 3, .string k, .string k2, .slice A m c, .int .i64 num, .slice kA kn kc] 32))
  have HB := Lib.hid (h.bel BW.out)
  have TW0 : Hid (Turns (fun i => H ≤ i) w (w.alloc (.cells #[.int .u8 3, .string k, .string k2, .slice A m c, .int .i64 num, .slice kA kn kc] 32))) := Lib.hid (Turns.of_below BW.out)
  have HSh := Lib.hid hS
  clear h hS
  go_enter Try.func23, Try.ntmps23
  go_upto_region 1 with (fail)
  generalize w.alloc (.cells #[.int .u8 3, .string k, .string k2, .slice A m c, .int .i64 num, .slice kA kn kc] 32) = W at *
  generalize w.heap.size = g at *
  have HD : Hid (Calls Try.prog 22 #[.pointer (some ⟨d, 0, none⟩), .string k] W fun e w' => e = .returned (.int .i64 (chC s k)) ∧ Dk.Is (rmS s k) Ny w' d F (N) ∧ Turns (DSet d F) W w') := Lib.hid (removeD W d F N s HB.out.dd k)
  have k0 := KW.out.cell 0
  have k1 := KW.out.cell 1
  have k2' := KW.out.cell 2
  have k3 := KW.out.cell 3
  have k4 := KW.out.cell 4
  have k5 := KW.out.cell 5
  simp only [List.getElem?_cons_succ, List.getElem?_cons_zero] at k0 k1 k2' k3 k4 k5
  have hSW : Short s.p 100000000 := short_more HSh.out (by omega)
  obtain ⟨cc, hcc⟩ : ∃ cc, cc = chC s k := ⟨_, rfl⟩
  rw [← hcc] at HD
  have HCc := Lib.hid hcc
  have HSW := Lib.hid hSW
  clear hcc hSW
  go_upto_region 18 with (go_at_call 22; refine HD.out.mono ?_; rintro e W2 ⟨rfl, h2, t2⟩)
  have hr2 := HB.out.rr.byD HB.out.dd t2
  have HR := Lib.hid ((rremove H W2 r v s.off s.fuse L hr2 HB.out.rise k).mono fun _ _ hq => hq.wide (Nat.le_succ _))
  rw [HB.out.eq] at HR
  have e1 : chC s k = cc := HCc.out.symm
  have K2 := Lib.hid (KW.out.turns t2 (step_ne KW.out HB.out.dd))
  have H2 := Lib.hid h2
  have T2 := Lib.hid t2
  clear h2 t2 hr2 k0 k1 k2' k3 k4 k5
  have HR2 : Hid (Calls Try.prog 40 _ W2 (OpY H W2 r v (L.length + 1) cc (rmS s k))) := Lib.hid (by rw [← e1]; exact HR.out)
  clear e1 HR
  have k0 := K2.out.cell 0
  have k1 := K2.out.cell 1
  have k2' := K2.out.cell 2
  have k3 := K2.out.cell 3
  have k4 := K2.out.cell 4
  have k5 := K2.out.cell 5
  simp only [List.getElem?_cons_succ, List.getElem?_cons_zero] at k0 k1 k2' k3 k4 k5
  go_wp2_with (go_at_call 40; refine HR2.out.mono ?_; rintro e W3 ⟨rfl, h3⟩; have H3 := Lib.hid h3; clear h3)
  go_ret
  obtain ⟨v', L', b3, l3, t3⟩ := HB.out.both H2.out T2.out H3.out
  exact ⟨rfl, v', _, L', ⟨b3.dd.wide (by omega), b3.rr, b3.rise, b3.eq, b3.lo⟩, by omega, (short_op (op := 3) HSh.out k k2 [] (M + 5000) (by simp)), TW0.out.then t3⟩
set_option maxRecDepth 20000 in
set_option maxHeartbeats 4000000 in
theorem one4 (H : Nat) (w : World) (d F N r M : Nat) (v : Value) (s : Dk) (L : List RF) (h : BS H w d F N r v s L) (hN : N ≤ 1000000) (hS : Short s.p M) (hM : M ≤ 1000000) (hL : L.length < 1000) (hH : H ≤ w.heap.size) (k k2 : ByteArray) (A : Option Addr) (m c : Nat) (num : Int) (hnum : num ≤ 9223372036854775807) (kA : Option Addr) (kn kc : Nat) :
    Calls Try.prog 23 #[.pointer (some ⟨d, 0, none⟩), .pointer (some ⟨r, 0, none⟩), .agg #[.int .u8 4, .string k, .string k2, .slice A m c, .int .i64 num, .slice kA kn kc]] w (OneY H w d F N r L.length M) := by
  have KW : Hid (Blk (w.alloc (.cells #[.int .u8 4, .string k, .string k2, .slice A m c, .int .i64 num, .slice kA kn kc] 32)) w.heap.size 32 [.int .u8 4, .string k, .string k2, .slice A m c, .int .i64 num, .slice kA kn kc]) := Lib.hid (Blk.new w 32 [.int .u8 4, .string k, .string k2, .slice A m c, .int .i64 num, .slice kA kn kc])
  have BW : Hid (Below w.heap.size w (w.alloc (.cells #[.int .u8 4, .string k, .string k2, .slice A m c, .int .i64 num, .slice kA kn kc] 32))) := Lib.hid (Below.new w (.cells #[.int .u8 4, .string k, .string k2, .slice A m c, .int .i64 num, .slice kA kn kc] 32))
  have HB := Lib.hid (h.bel BW.out)
  have TW0 : Hid (Turns (fun i => H ≤ i) w (w.alloc (.cells #[.int .u8 4, .string k, .string k2, .slice A m c, .int .i64 num, .slice kA kn kc] 32))) := Lib.hid (Turns.of_below BW.out)
  have HSh := Lib.hid hS
  clear h hS
  go_enter Try.func23, Try.ntmps23
  go_upto_region 1 with (fail)
  generalize w.alloc (.cells #[.int .u8 4, .string k, .string k2, .slice A m c, .int .i64 num, .slice kA kn kc] 32) = W at *
  generalize w.heap.size = g at *
  have HD : Hid (Calls Try.prog 16 #[.pointer (some ⟨d, 0, none⟩), .int .i64 num] W fun e w' => e = .returned (.int .i64 (fuC s.off num)) ∧ Dk.Is (⟨s.off, fuN s.off s.fuse num, s.p⟩) Ny w' d F (N) ∧ Turns (DSet d F) W w') := Lib.hid (fuseD W d F N s.off s.fuse s.p HB.out.dd num hnum)
  have k0 := KW.out.cell 0
  have k1 := KW.out.cell 1
  have k2' := KW.out.cell 2
  have k3 := KW.out.cell 3
  have k4 := KW.out.cell 4
  have k5 := KW.out.cell 5
  simp only [List.getElem?_cons_succ, List.getElem?_cons_zero] at k0 k1 k2' k3 k4 k5
  have hSW : Short s.p 100000000 := short_more HSh.out (by omega)
  obtain ⟨cc, hcc⟩ : ∃ cc, cc = fuC s.off num := ⟨_, rfl⟩
  rw [← hcc] at HD
  have HCc := Lib.hid hcc
  have HSW := Lib.hid hSW
  clear hcc hSW
  go_upto_region 21 with (go_at_call 16; refine HD.out.mono ?_; rintro e W2 ⟨rfl, h2, t2⟩)
  have hr2 := HB.out.rr.byD HB.out.dd t2
  have HR := Lib.hid ((rfuse H W2 r v s.off s.fuse L hr2 HB.out.rise num hnum).mono fun _ _ hq => hq.wide (Nat.le_succ _))
  rw [HB.out.eq] at HR
  have e1 : fuC s.off num = cc := HCc.out.symm
  have K2 := Lib.hid (KW.out.turns t2 (step_ne KW.out HB.out.dd))
  have H2 := Lib.hid h2
  have T2 := Lib.hid t2
  clear h2 t2 hr2 k0 k1 k2' k3 k4 k5
  have HR2 : Hid (Calls Try.prog 41 _ W2 (OpY H W2 r v (L.length + 1) cc (⟨s.off, fuN s.off s.fuse num, s.p⟩))) := Lib.hid (by rw [← e1]; exact HR.out)
  clear e1 HR
  have k0 := K2.out.cell 0
  have k1 := K2.out.cell 1
  have k2' := K2.out.cell 2
  have k3 := K2.out.cell 3
  have k4 := K2.out.cell 4
  have k5 := K2.out.cell 5
  simp only [List.getElem?_cons_succ, List.getElem?_cons_zero] at k0 k1 k2' k3 k4 k5
  go_wp2_with (go_at_call 41; refine HR2.out.mono ?_; rintro e W3 ⟨rfl, h3⟩; have H3 := Lib.hid h3; clear h3)
  go_ret
  obtain ⟨v', L', b3, l3, t3⟩ := HB.out.both H2.out T2.out H3.out
  exact ⟨rfl, v', _, L', ⟨b3.dd.wide (by omega), b3.rr, b3.rise, b3.eq, b3.lo⟩, by omega, short_more HSh.out (by omega), TW0.out.then t3⟩
end Go.Proofs.Ytoljnklceghcdaa
