/- The document's readers of values. -/
import Derived.Test.YticipdjfkpakpaaNodeRef
namespace Go.Proofs.Yticipdjfkpakpaa
open Go.RowKit

theorem rdNode_errno {l : List UInt8} {a size p en : Nat} (h : rdNode l a size = .error (p, en)) : en ≠ 0 := by
  intro h0
  subst h0
  unfold rdNode at h
  by_cases ha : a < l.length
  · rw [dif_pos ha] at h
    split at h
    · cases h
    · split at h
      · split at h
        · split at h
          · injection h with h; injection h with h1 h2; cases h2
          · cases h
        · injection h with h; injection h with h1 h2; cases h2
      · split at h
        · cases hr : Cd.rdInt l (a + 1) with
          | ok q => rw [hr] at h; cases h
          | error q =>
            rw [hr] at h
            injection h with h
            subst h
            unfold Cd.rdInt at hr
            cases hu : Cd.rdUint l (a + 1) with
            | ok q => rw [hu] at hr; cases hr
            | error q =>
              rw [hu] at hr
              injection hr with hr
              subst hr
              have := rdUint_errno hu
              omega
        · split at h
          · cases hu : Cd.rdUint l (a + 1) with
            | error q =>
              rw [hu] at h
              injection h with h
              subst h
              have := rdUint_errno hu
              omega
            | ok q =>
              obtain ⟨n, t2⟩ := q
              rw [hu] at h
              simp only [] at h
              split at h
              · injection h with h; injection h with h1 h2; cases h2
              · unfold Cd.rdBytes at h
                by_cases hb : n ≤ l.length - t2
                · rw [if_pos hb] at h; cases h
                · rw [if_neg hb] at h; injection h with h; injection h with h1 h2; cases h2
          · split at h
            · unfold rdNum at h
              by_cases hb : 16 ≤ l.length - (a + 1)
              · rw [if_pos hb] at h
                split at h
                · cases h
                · rename_i hq
                  split at hq
                  · cases hq
                  · injection hq with hq; injection h with h; subst hq; injection h with h1 h2; cases h2
              · rw [if_neg hb] at h; injection h with h; injection h with h1 h2; cases h2
            · split at h
              · cases hu : Cd.rdUint l (a + 1) with
                | error q =>
                  rw [hu] at h
                  injection h with h
                  subst h
                  have := rdUint_errno hu
                  omega
                | ok q =>
                  obtain ⟨n, t2⟩ := q
                  rw [hu] at h
                  simp only [] at h
                  split at h
                  · injection h with h; injection h with h1 h2; cases h2
                  · cases h
              · injection h with h; injection h with h1 h2; cases h2
  · rw [dif_neg ha] at h; injection h with h; injection h with h1 h2; cases h2

theorem rdNds_errno (l : List UInt8) : ∀ (f a size todo : Nat) (acc : List Nd) (p en : Nat), acc.length + f = 1025 → acc.length ≤ 1024 → rdNds l f a size todo acc = .error (p, en) → en ≠ 0 := by
  intro f
  induction f with
  | zero =>
    intro a size todo acc p en hf hc h
    cases todo with
    | zero => simp [rdNds] at h
    | succ t => omega
  | succ f ih =>
    intro a size todo acc p en hf hc h
    cases todo with
    | zero => simp [rdNds] at h
    | succ t =>
      rw [rdNds] at h
      by_cases ha : a < l.length
      · rw [if_pos ha] at h
        by_cases hl : 1024 ≤ acc.length ∨ 4096 < size + 1
        · rw [if_pos hl] at h; injection h with h; injection h with h1 h2; omega
        · rw [if_neg hl] at h
          cases hx : rdNode l a size with
          | error q =>
            rw [hx] at h
            injection h with h
            subst h
            exact rdNode_errno hx
          | ok q =>
            rw [hx] at h
            exact ih _ _ _ _ _ _ (by simp; omega) (by simp; omega) h
      · rw [if_neg ha] at h; injection h with h; injection h with h1 h2; omega
theorem rdValue_errno {l : List UInt8} {p en : Nat} (h : rdValue l = .error (p, en)) : en ≠ 0 := rdNds_errno l 1025 0 0 1 [] _ _ (by simp) (by simp) h
theorem two_second (w : World) (o1 o2 : Obj) : ((w.alloc o1).alloc o2).heap[w.heap.size + 1]? = some o2 := new_at (by simp)
theorem two_size (w : World) (o1 o2 : Obj) : w.heap.size ≤ ((w.alloc o1).alloc o2).heap.size := by rw [World.size_alloc, World.size_alloc]; omega
theorem kept_first {w w' : World} {cs : Array Value} {t : TypeId} {o2 : Obj} {row : Option Nat} (hg : ((w.alloc (.cells cs t (0, 0))).alloc o2).grownBy w' row) (hr : ¬ row = some w.heap.size) (o : Nat) : w'.cell? ⟨w.heap.size, o, none⟩ = cs[o]? := by
  refine cell_of_row w' w.heap.size o cs t (0, 0) ?_
  rw [hg.block _ (by rw [World.size_alloc, World.size_alloc]; omega) (fun e => hr e.symm)]
  exact two_first w _ _
theorem own_below {w w' : World} {base : Nat} {e : TypeId} {size n : Nat} {v : Value} {xs : List Value} (h : w.ownsRow base e size v n xs) (hb : Below w.heap.size w w') : w'.ownsRow base e size v n xs :=
  own_none h ⟨hb.os, hb.tape, hb.output, hb.size, fun i hi _ => hb.block i hi⟩

attribute [local go_sem] run_store_cx'
structure VR (w wr : World) (l : List UInt8) (v : Value) (a size todo : Nat) (acc : List Nd) : Prop where
  own : wr.ownsRow w.heap.size 40 5 v acc.length (ndsV acc)
  below : Below w.heap.size w wr
  eq : rdValue l = rdNds l (1025 - acc.length) a size todo acc
  few : acc.length ≤ 1024
  size_le : size ≤ 4096
  todo_le : todo ≤ 1 + 1024 * acc.length
  at_le : a ≤ l.length
section
variable {w wr : World} {l : List UInt8} {v : Value} {a size todo : Nat} {acc : List Nd}
theorem VR.done (h : VR w wr l v a size 0 acc) : GetsV w (rdValue l) (.returned (.tuple #[v, .int .i64 a, .int .i64 0])) wr := by
  rw [h.eq]
  have e : rdNds l (1025 - acc.length) a size 0 acc = .ok (acc, a) := by unfold rdNds; cases 1025 - acc.length <;> rfl
  rw [e]
  exact ⟨⟨v, rfl, h.own⟩, h.below⟩
theorem VR.short (h : VR w wr l v a size (todo + 1) acc) (ha : ¬ a < l.length) : rdValue l = .error (l.length, 4) := by
  rw [h.eq, show 1025 - acc.length = (1024 - acc.length) + 1 from by have := h.few; omega]
  simp [rdNds, ha]
theorem VR.long (h : VR w wr l v a size (todo + 1) acc) (ha : a < l.length) (hl : 1024 ≤ acc.length ∨ 4096 < size + 1) : rdValue l = .error (a, 2) := by
  rw [h.eq, show 1025 - acc.length = (1024 - acc.length) + 1 from by have := h.few; omega]
  simp [rdNds, ha, hl]
theorem VR.bad (h : VR w wr l v a size (todo + 1) acc) (ha : a < l.length) (hl : ¬ (1024 ≤ acc.length ∨ 4096 < size + 1)) {e : Nat × Nat} (hx : rdNode l a size = .error e) : rdValue l = .error e := by
  rw [h.eq, show 1025 - acc.length = (1024 - acc.length) + 1 from by have := h.few; omega]
  simp [rdNds, ha, hl, hx]
theorem VR.step {w' : World} {v' : Value} {x : Nd} {tn : Nat} (h : VR w wr l v a size (todo + 1) acc) (ha : a < l.length) (hl : ¬ (1024 ≤ acc.length ∨ 4096 < size + 1)) (hx : rdNode l a size = .ok (x, tn))
    (ho : w'.ownsRow w.heap.size 40 5 v' (acc.length + 1) (ndsV acc ++ x.cells)) (hg : Below w.heap.size w w') :
    VR w w' l v' tn (size + 1 + x.text.length) (todo + x.kids) (acc ++ [x]) where
  own := by rw [ndsV_snoc, List.length_append]; exact ho
  below := hg
  eq := by
    rw [h.eq, show 1025 - acc.length = (1025 - (acc ++ [x]).length) + 1 from by have := h.few; simp; omega]
    simp only [rdNds, ha, hl, hx, if_true, if_false]
  few := by simp; omega
  size_le := by have := (rdNode_lt hx).2.2.2; omega
  todo_le := by have := (rdNode_lt hx).2.2.1; have := h.todo_le; simp; omega
  at_le := (rdNode_lt hx).2.1
end

set_option maxRecDepth 100000 in
set_option maxHeartbeats 8000000 in
theorem refValue_any (w : World) (A : Option Addr) (len cap : Nat) (l : List UInt8) (h : In w A len cap l) (hsz : l.length ≤ 1000000) :
    Calls Try.prog 25 #[.slice A len cap] w (GetsV w (rdValue l)) := by
  obtain rfl := h.bs.len
  have H := Lib.hid h
  clear h
  obtain ⟨i0, hi, hz0, hz1, hz2⟩ : ∃ i, Try.prog.info? 40 = some i ∧ i.zero = some (.agg #[.int .u8 0, .int .i64 0, .int .i64 0, .string ⟨#[]⟩, .complex .f64 0 0]) ∧ i.size = 5 ∧ i.bytes = 56 := by
    have hq := info_nd
    cases hx : Try.prog.info? 40 with
    | none => rw [hx] at hq; cases hq
    | some i => rw [hx] at hq; simp at hq; exact ⟨i, rfl, hq.1, hq.2.1, hq.2.2⟩
  go_enter Try.func25, Try.ntmps25
  go_wp2_with fail
  go_loopw [5, 6, 7, 8, 9, 10, 11] (fun v at_ sz td _ _ _ wr => ∃ (a size todo : Nat) (acc : List Nd), at_ = .int .i64 a ∧ sz = .int .i64 size ∧ td = .int .i64 todo ∧ Hid (VR w wr l v a size todo acc)) (fun v _ _ _ _ _ _ _ => 1025 - vlen v)
  case atStart => exact ⟨0, 0, 1, [], rfl, rfl, rfl, World.ownsRow_nil _ _ _ _, Below.refl _ _, rfl, by simp, by omega, by simp, by omega⟩
  case round =>
    obtain ⟨a, size, todo, acc, rfl, rfl, rfl, HS⟩ := hrel
    obtain ⟨Av, cv, rfl⟩ := own_slice HS.out.own
    have hsn : size ≤ 4096 := HS.out.size_le
    have hfn : acc.length ≤ 1024 := HS.out.few
    have hal : a ≤ l.length := HS.out.at_le
    have hsz' : (size : Int) ≤ 4096 := by omega
    have hai : (a : Int) ≤ 1000000 := by omega
    have htd : (todo : Int) ≤ 2000000 := by have := HS.out.todo_le; omega
    by_cases htz : todo = 0
    · subst htz
      go_wp2_with fail
      go_ret3
      exact HS.out.done
    · have ht : 0 < (todo : Int) := by omega
      obtain ⟨td, htd1⟩ : ∃ td, todo = td + 1 := ⟨todo - 1, by omega⟩
      have HT := Lib.hid htd1
      have HS' := HS
      rw [htd1] at HS'
      clear htz htd1
      by_cases ha : a < l.length
      · have ha1 : ¬ ((l.length : Int) ≤ (a : Int)) := by omega
        have hl1 : ¬ (l.length ≤ a) := by omega
        by_cases hl : 1024 ≤ acc.length ∨ 4096 < size + 1
        · have HX := Lib.hid (HS'.out.long ha hl)
          by_cases h1 : 1024 ≤ acc.length
          · have h1' : (1024 : Int) ≤ (acc.length : Int) := by omega
            go_wp2_with fail
            go_ret3
            show GetsV w (rdValue l) _ _
            rw [HX.out]
            exact ⟨rfl, HS.out.below⟩
          · have h1' : ¬ ((1024 : Int) ≤ (acc.length : Int)) := by omega
            have h2' : (4096 : Int) < (size : Int) + 1 := by omega
            go_wp2_with fail
            go_ret3
            show GetsV w (rdValue l) _ _
            rw [HX.out]
            exact ⟨rfl, HS.out.below⟩
        · have h1' : ¬ ((1024 : Int) ≤ (acc.length : Int)) := by omega
          have h2' : ¬ ((4096 : Int) < (size : Int) + 1) := by omega
          have HL := Lib.hid hl
          clear hl
          have HB : Hid (Bs wr A l.length l) := Lib.hid (H.out.bs.below HS.out.below)
          go_wp2_with fail
          refine (refNode_any wr A l.length cap l a size HB.out H.out.cap_le.1 ha (by omega) hsz).mono ?_
          intro e w1 hn
          rcases hres : rdNode l a size with ⟨p, en⟩ | ⟨x, tn⟩
          · rw [hres] at hn
            obtain ⟨⟨y, rfl⟩, hb1⟩ := hn
            have hen : ((en : Int) != 0) = true := by rw [bne_iff_ne]; have := rdNode_errno hres; omega
            have HX := Lib.hid (HS'.out.bad ha HL.out hres)
            clear hres
            unfold ndV strV
            go_wp2_with fail
            go_ret3
            show GetsV w (rdValue l) _ _
            rw [HX.out]
            exact ⟨rfl, (HS.out.below.trans (hb1.mono HS.out.below.size)).alloc (Nat.le_trans HS.out.below.size hb1.size) _⟩
          · rw [hres] at hn
            obtain ⟨rfl, hb1⟩ := hn
            have HX := Lib.hid hres
            clear hres
            have hown1 : Hid (w1.ownsRow w.heap.size 40 5 (.slice Av acc.length cv) acc.length (ndsV acc)) := Lib.hid (own_below HS.out.own hb1)
            have hbw : Hid (Below w.heap.size w w1) := Lib.hid (HS.out.below.trans (hb1.mono HS.out.below.size))
            have B1 : Hid (acc.length + 1 ≤ maxLen) := Lib.hid (by have := HS.out.few; unfold maxLen; omega)
            have B2 : Hid ((acc.length + 1) * 56 ≤ 140737488355328) := Lib.hid (by have := HS.out.few; omega)
            have hx1 : x.kids ≤ 1024 := (rdNode_lt HX.out).2.2.1
            have hx2 : x.text.length ≤ 4096 - (size + 1) := (rdNode_lt HX.out).2.2.2
            have hz : (ByteArray.mk x.text.toArray).size = x.text.length := by simp [ByteArray.size]
            have hw1 : IntKind.i64.wrap ((size : Int) + 1) = (size : Int) + 1 := wrap_i64' _ (by omega) (by omega)
            have hw2 : IntKind.i64.wrap ((size : Int) + 1 + (x.text.length : Int)) = (size : Int) + 1 + (x.text.length : Int) := wrap_i64' _ (by omega) (by omega)
            have hw3 : IntKind.i64.wrap ((todo : Int) - 1) = (todo : Int) - 1 := wrap_i64' _ (by omega) (by omega)
            have hw4 : IntKind.i64.wrap ((todo : Int) - 1 + (x.kids : Int)) = (todo : Int) - 1 + (x.kids : Int) := wrap_i64' _ (by omega) (by omega)
            have B3 : Hid (w.heap.size ≤ w1.heap.size) := Lib.hid hbw.out.size
            clear hb1
            unfold ndV strV
            go_wp2_with (at_builtin; refine wpList_append_own_at _ rfl _ _ 25 rfl w.heap.size 40 i0 (.agg #[.int .u8 0, .int .i64 0, .int .i64 0, .string ⟨#[]⟩, .complex .f64 0 0]) 5 56 Try.underlying25 hi hz0 hz1 hz2 rfl (by decide) _ _ _ rfl ((hown1.out.alloc _).alloc _) ⟨w1.heap.size + 1, 0, none⟩ 1 1 [.int .u8 x.kind, .int .i64 x.kids, .int .i64 x.int, strV x.text, .complex .f64 x.re x.im] rfl rfl (World.news_of_block (two_second w1 _ _)) (nd_one x) B1.out B2.out (Nat.le_trans B3.out (two_size w1 _ _)) ?_; intro v1 w2 hown2 hg2 _ hat2; have n1 := kept_first hg2 (fun e => by have := (hown1.out.lt _ e).2; omega) 1; have n3 := kept_first hg2 (fun e => by have := (hown1.out.lt _ e).2; omega) 3; simp only [List.getElem?_toArray, List.getElem?_cons_succ, List.getElem?_cons_zero] at n1 n3)
            have hlen : vlen v1 = acc.length + 1 := vlen_own hown2
            have hob : ∀ k, (Value.slice Av acc.length cv).ownBlock = some k → w.heap.size ≤ k := fun k e => (hown1.out.lt k e).1
            refine ⟨⟨tn, size + 1 + x.text.length, td + x.kids, acc ++ [x], rfl, rfl, by rw [HT.out]; congr 1; omega, Lib.hid (HS'.out.step ha HL.out HX.out hown2 ?_)⟩, ?_⟩
            · exact ((hbw.out.alloc B3.out _).alloc (by rw [World.size_alloc]; have := B3.out; omega) _).grown hg2 (Nat.le_trans B3.out (two_size _ _ _)) hob
            · rw [hlen]
              show _ < 1025 - acc.length
              have := HL.out
              omega
      · have HX := Lib.hid (HS'.out.short ha)
        have ha1 : ((l.length : Int) ≤ (a : Int)) := by omega
        have hl1 : l.length ≤ a := by omega
        go_wp2_with fail
        go_ret3
        show GetsV w (rdValue l) _ _
        rw [HX.out]
        exact ⟨rfl, HS.out.below⟩

end Go.Proofs.Yticipdjfkpakpaa
