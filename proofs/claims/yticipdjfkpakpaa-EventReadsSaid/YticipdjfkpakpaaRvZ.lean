/- EventReads: event.Unpack, the document's Unpack, Same, the law (texts put together). -/
import Derived.Test.YticipdjfkpakpaaEvHist
import Derived.Test.YticipdjfkpakpaaRvRd
import Derived.Test.YticipdjfkpakpaaEvAwake
import Derived.Test.YticipdjfkpakpaaCodeCame
namespace Go.Proofs.Yticipdjfkpakpaa
open Go.RowKit
attribute [local go_sem] run_store_cx'

/-- what event.Unpack gives -/
def UnpSays (w : World) (l : List UInt8) (e : Ending) (w' : World) : Prop :=
  Below w.heap.size w w' ∧ ((∃ (rs : Rs) (v : Value), e = .returned (.tuple #[v, .int .i64 (l.length : Int), .int .i64 0]) ∧ rdHist l = .ok (rs.map (·.1), l.length) ∧
      w'.ownsRow w.heap.size 27 5 v rs.length (rs.flatMap evC) ∧ ∀ q ∈ rs, w'.ownsRow w.heap.size 40 5 (.slice q.2.1 q.1.val.length q.2.2) q.1.val.length (ndsV q.1.val)) ∨
    ∃ p en : Nat, en ≠ 0 ∧ e = .returned (.tuple #[.slice none 0 0, .int .i64 (p : Int), .int .i64 (en : Int)]) ∧ rdHist l = .error (p, en))

set_option maxRecDepth 20000 in
set_option maxHeartbeats 2000000 in
theorem unpack_any (w : World) (A : Option Addr) (len cap : Nat) (l : List UInt8) (h : In w A len cap l) (hsz : l.length ≤ 1000000) :
    Calls Try.prog 10 #[.slice A len cap] w (UnpSays w l) := by
  have H := Lib.hid h
  clear h
  go_enter Try.func10, Try.ntmps10
  go_wp2_with fail
  have hB : Below w.heap.size w (w.alloc (.cells #[.slice A len cap, .int .i64 0, .int .i64 0, .slice none 0 0] 63)) := (Below.refl _ _).alloc (Nat.le_refl _) _
  have hE : ER (w.alloc (.cells #[.slice A len cap, .int .i64 0, .int .i64 0, .slice none 0 0] 63)) w.heap.size 63 [.slice none 0 0] A len cap l 0 0 :=
    ⟨heap_alloc_new w _, H.out.below hB, fun ad e h0 => by have := H.out.lt ad e h0; omega, Nat.zero_le _⟩
  have hs : w.heap.size < (w.alloc (.cells #[.slice A len cap, .int .i64 0, .int .i64 0, .slice none 0 0] 63)).heap.size := by simp
  generalize (w.alloc (.cells #[.slice A len cap, .int .i64 0, .int .i64 0, .slice none 0 0] 63)) = W at hB hE hs ⊢
  refine (all_any W w.heap.size A len cap l hE hsz).mono ?_
  rintro e w1 ⟨rfl, g, hh⟩
  have hB1 : Below w.heap.size w w1 := hB.grown g (Nat.le_of_lt hs) (fun k hk => by injection hk with hk; omega)
  have HB := Lib.hid hB1
  have HS := Lib.hid hs
  clear hB hE hs g hB1
  rcases hh with ⟨rs, v, hH, hR⟩ | ⟨p, en, v, hne, hE, hR⟩
  · obtain ⟨Av, cv, rfl⟩ := own_slice hH.own
    have HE := Lib.hid hH.er
    have HO := Lib.hid (hH.own.mono (Nat.le_of_lt HS.out))
    have HN : Hid (∀ q ∈ rs, w1.ownsRow w.heap.size 40 5 (.slice q.2.1 q.1.val.length q.2.2) q.1.val.length (ndsV q.1.val)) := Lib.hid fun q hq => (hH.nds q hq).mono (Nat.le_of_lt HS.out)
    have HR := Lib.hid hR
    have c1 := HE.out.c1
    have c2 := HE.out.c2
    have c3 := HE.out.c3
    clear hH hR
    go_wp2_with fail
    go_quiet (fail)
    go_wp2_with fail
    go_ret3
    exact ⟨below_drewN HB.out _, .inl ⟨rs, _, rfl, HR.out, own_none HO.out (grown_drewN (World.grownBy.refl _ _) _), fun q hq => own_none (HN.out q hq) (grown_drewN (World.grownBy.refl _ _) _)⟩⟩
  · have hen : ((en : Int) == 0) = false := beq_eq_false_iff_ne.2 (by omega)
    have hen2 : ((en : Int) != 0) = true := by rw [bne_iff_ne]; omega
    have HE := Lib.hid hE
    have HR := Lib.hid hR
    have HNE := Lib.hid hne
    have c1 := HE.out.c1
    have c2 := HE.out.c2
    clear hE hR hne
    go_wp2_with fail
    go_quiet (fail)
    go_wp2_with fail
    go_ret3
    exact ⟨below_drewN HB.out _, .inr ⟨p, en, HNE.out, rfl, HR.out⟩⟩
end Go.Proofs.Yticipdjfkpakpaa

namespace Go.Proofs.Yticipdjfkpakpaa
open Go.RowKit
attribute [local go_sem] run_store_cx'

theorem rvRead_any (w : World) (A : Option Addr) (len cap : Nat) (l : List UInt8) (a : Nat) (h : In w A len cap l) (hsz : l.length ≤ 1000000) (ha : a ≤ l.length) :
    Calls Try.prog 8 #[.slice A len cap, .int .i64 (a : Int)] w (EvGets w (rdEv l a)) := by
  by_cases hlt : a < l.length
  · by_cases hk : 1 ≤ l[a].toNat ∧ l[a].toNat ≤ 12
    · obtain ⟨k, hkl⟩ : ∃ k, l[a].toNat = k := ⟨_, rfl⟩
      rw [hkl] at hk
      have hk' := hk
      have e : k = 1 ∨ k = 2 ∨ k = 3 ∨ k = 4 ∨ k = 5 ∨ k = 6 ∨ k = 7 ∨ k = 8 ∨ k = 9 ∨ k = 10 ∨ k = 11 ∨ k = 12 := by omega
      rcases e with rfl | rfl | rfl | rfl | rfl | rfl | rfl | rfl | rfl | rfl | rfl | rfl
      · exact rvRead_NVF w A len cap l a 1 h hsz hlt hkl hk' rfl rfl rfl rfl
      · exact rvRead_F w A len cap l a 2 h hsz hlt hkl hk' rfl rfl rfl rfl
      · exact rvRead_INV w A len cap l a 3 h hsz hlt hkl hk' rfl rfl rfl rfl
      · exact rvRead_IF w A len cap l a 4 h hsz hlt hkl hk' rfl rfl rfl rfl
      · exact rvRead_INV w A len cap l a 5 h hsz hlt hkl hk' rfl rfl rfl rfl
      · exact rvRead_V w A len cap l a 6 h hsz hlt hkl hk' rfl rfl rfl rfl
      · exact rvRead_V w A len cap l a 7 h hsz hlt hkl hk' rfl rfl rfl rfl
      · exact rvRead_F w A len cap l a 8 h hsz hlt hkl hk' rfl rfl rfl rfl
      · exact rvRead_IV w A len cap l a 9 h hsz hlt hkl hk' rfl rfl rfl rfl
      · exact rvRead_IF w A len cap l a 10 h hsz hlt hkl hk' rfl rfl rfl rfl
      · exact rvRead_I w A len cap l a 11 h hsz hlt hkl hk' rfl rfl rfl rfl
      · exact rvRead_NV w A len cap l a 12 h hsz hlt hkl hk' rfl rfl rfl rfl
    · exact rvRead_bad w A len cap l a h hsz hlt hk
  · obtain rfl : a = l.length := by omega
    exact rvRead_end w A len cap l h hsz

/-- how far the document's Unpack is -/
structure UI (w wr : World) (l : List UInt8) (n i : Nat) (rs : Rs) (a : Nat) (v : Value) : Prop where
  own : wr.ownsRow w.heap.size 27 5 v rs.length (rs.flatMap evC)
  nds : ∀ q ∈ rs, wr.ownsRow w.heap.size 40 5 (.slice q.2.1 q.1.val.length q.2.2) q.1.val.length (ndsV q.1.val)
  B : Below w.heap.size w wr
  eq : rdHist l = rdEvs l (n - i) a (rs.map (·.1))
  i_is : i = rs.length
  i_le : i ≤ n
  at_ : a ≤ l.length
theorem UI.step {w wr w1 w2 : World} {l : List UInt8} {n i a t : Nat} {rs : Rs} {v v2 : Value} {x : Ev} {A2 : Option Addr} {c2 : Nat} {o1 o2 : Obj} (h : UI w wr l n i rs a v) (hi : i < n) (hr : rdEv l a = .ok (x, t)) (ht : t ≤ l.length) (hB : Below wr.heap.size wr w1)
    (ho : w1.ownsRow wr.heap.size 40 5 (.slice A2 x.val.length c2) x.val.length (ndsV x.val)) (hown : w2.ownsRow w.heap.size 27 5 v2 (rs.length + 1) (rs.flatMap evC ++ evC (x, A2, c2))) (hg : ((w1.alloc o1).alloc o2).grownBy w2 v.ownBlock) :
    UI w w2 l n (i + 1) (rs ++ [(x, A2, c2)]) t v2 where
  own := by rw [List.flatMap_append, List.length_append]; simpa using hown
  nds := fun q hq => by
    have hv : ((w1.alloc o1).alloc o2).ownsRow w.heap.size 27 5 v rs.length (rs.flatMap evC) := ((own_below h.own hB).alloc _).alloc _
    rcases List.mem_append.1 hq with hq | hq
    · have h1 : ((w1.alloc o1).alloc o2).ownsRow w.heap.size 40 5 (.slice q.2.1 q.1.val.length q.2.2) q.1.val.length (ndsV q.1.val) := ((own_below (h.nds q hq) hB).alloc _).alloc _
      exact h1.kept hg (own_apart' hv h1 (by decide))
    · simp only [List.mem_singleton] at hq
      subst hq
      have h1 : ((w1.alloc o1).alloc o2).ownsRow w.heap.size 40 5 (.slice A2 x.val.length c2) x.val.length (ndsV x.val) := World.ownsRow.mono ((ho.alloc _).alloc _) h.B.size
      exact h1.kept hg (own_apart' hv h1 (by decide))
  B := by
    have hb1 : Below w.heap.size w w1 := h.B.trans (hB.mono h.B.size)
    refine ((hb1.alloc hb1.size o1).alloc (by simp; have := hb1.size; omega) o2).grown hg (by simp; have := hb1.size; omega) (fun k e => (h.own.lt k e).1)
  eq := by
    rw [h.eq, show n - i = (n - (i + 1)) + 1 from by omega]
    conv => lhs; unfold rdEvs; rw [hr]
    simp
  i_is := by simp [h.i_is]
  i_le := hi
  at_ := ht

set_option maxRecDepth 20000 in
set_option maxHeartbeats 4000000 in
theorem rvUnpack_any (w : World) (A : Option Addr) (len cap : Nat) (l : List UInt8) (h : In w A len cap l) (hsz : l.length ≤ 1000000) :
    Calls Try.prog 11 #[.slice A len cap] w (UnpSays w l) := by
  obtain ⟨iE, hi, hz0, hz1, hz2⟩ := info_parts info_ev
  obtain rfl := h.bs.len
  have II := Lib.hid h
  have HC := Lib.hid (refUint_any w A l.length cap l 0 h.bs (Nat.zero_le _) hsz)
  have hl3 : (l.length : Int) ≤ 1000000 := by omega
  clear h
  rcases hu : Cd.rdUint l 0 with ⟨p, en⟩ | ⟨n, t⟩
  · have hen : ((en : Int) != 0) = true := by rw [bne_iff_ne]; have := rdUint_errno' hu; omega
    have HNE : Hid (en ≠ 0) := Lib.hid (rdUint_errno' hu)
    have HR : Hid (rdHist l = .error (p, en)) := Lib.hid (by unfold rdHist; rw [hu])
    have HS := Lib.hid hu
    clear hu
    go_enter Try.func11, Try.ntmps11
    go_wp2_with fail
    refine HC.out.mono ?_
    rintro e w' ⟨hs, rfl⟩
    obtain rfl := hs.of_error HS.out
    go_wp2_with fail
    go_ret3
    exact ⟨Below.refl _ _, .inr ⟨p, en, HNE.out, rfl, HR.out⟩⟩
  · have hlt := Cd.rdUint_lt hu
    have HS := Lib.hid hu
    by_cases hn : 4096 < n
    · have HR : Hid (rdHist l = .error (0, 2)) := Lib.hid (by unfold rdHist; rw [hu]; simp only; rw [if_pos hn])
      have hn1 : (4096 : Int) < (n : Int) := by omega
      clear hu hn hlt
      go_enter Try.func11, Try.ntmps11
      go_wp2_with fail
      refine HC.out.mono ?_
      rintro e w' ⟨hs, rfl⟩
      obtain rfl := hs.of_ok HS.out
      unfold u64V
      go_wp2_with fail
      go_ret3
      exact ⟨Below.refl _ _, .inr ⟨0, 2, by omega, rfl, HR.out⟩⟩
    · have HR : Hid (rdHist l = rdEvs l n t []) := Lib.hid (by unfold rdHist; rw [hu]; simp only; rw [if_neg hn])
      have hn1 : ¬ (4096 : Int) < (n : Int) := by omega
      have hn2 : n ≤ 4096 := by omega
      have hcv : IntKind.i64.wrap (n : Int) = (n : Int) := wrap_i64' _ (by omega) (by omega)
      have ht := hlt.2.2
      clear hu hn hlt
      go_enter Try.func11, Try.ntmps11
      go_wp2_with fail
      refine HC.out.mono ?_
      rintro e w' ⟨hs, rfl⟩
      obtain rfl := hs.of_ok HS.out
      unfold u64V
      clear HC hs
      go_wp2_with fail
      go_loopw [6, 8, 9] (fun at_ v i wr => ∃ (a k : Nat) (rs : Rs), at_ = .int .i64 (a : Int) ∧ i = .int .i64 (k : Int) ∧ Hid (UI w wr l n k rs a v)) (fun _ _ i _ => n - (intOf i).toNat)
      case atStart => exact ⟨t, 0, [], rfl, rfl, Lib.hid ⟨World.ownsRow_nil _ _ _ _, by simp, Below.refl _ _, HR.out, rfl, Nat.zero_le _, ht⟩⟩
      case round =>
        obtain ⟨a, k, rs, rfl, rfl, HU⟩ := hrel
        obtain ⟨Av, cv, rfl⟩ := own_slice HU.out.own
        have hkn := HU.out.i_le
        have hal := HU.out.at_
        have hk1 : (k : Int) ≤ 4096 := by omega
        have ha1 : (a : Int) ≤ 1000000 := by omega
        by_cases hlt : k < n
        · have hlt1 : (k : Int) < (n : Int) := by omega
          have HC := Lib.hid (rvRead_any wr A l.length cap l a (II.out.below HU.out.B) hsz hal)
          go_wp2_with fail
          refine HC.out.mono ?_
          rintro e w1 ⟨he, B1⟩
          rcases hr : rdEv l a with ⟨p, en⟩ | ⟨x, tn⟩
          · rw [hr] at he
            obtain rfl := he
            have hne := rdEv_errno hr
            have hen : ((en : Int) != 0) = true := by rw [bne_iff_ne]; omega
            have HNE := Lib.hid hne
            have HX : Hid (rdHist l = .error (p, en)) := Lib.hid (by rw [HU.out.eq, show n - k = (n - (k + 1)) + 1 from by omega]; unfold rdEvs; rw [hr])
            have HB := Lib.hid (HU.out.B.trans (B1.mono HU.out.B.size))
            clear hr hne B1 HC
            unfold evV ev0
            go_wp2_with fail
            go_ret3
            exact ⟨HB.out.alloc HB.out.size _, .inr ⟨p, en, HNE.out, rfl, HX.out⟩⟩
          · rw [hr] at he
            obtain ⟨A2, c2, rfl, ho⟩ := he
            have htl := (rdEv_ok hsz hr).2.2.2.2
            have HRD := Lib.hid hr
            have HB := Lib.hid B1
            have HO := Lib.hid ho
            have hown1 : Hid (w1.ownsRow w.heap.size 27 5 (.slice Av rs.length cv) rs.length (rs.flatMap evC)) := Lib.hid (own_below HU.out.own B1)
            have hik := HU.out.i_is
            have L1 : Hid (rs.length + 1 ≤ maxLen) := Lib.hid (by unfold maxLen; omega)
            have L2 : Hid ((rs.length + 1) * 64 ≤ 140737488355328) := Lib.hid (by omega)
            have L3 : Hid (w.heap.size ≤ w1.heap.size) := Lib.hid (Nat.le_trans HU.out.B.size B1.size)
            clear hr ho B1 HC hik
            unfold evV
            go_wp2_with (at_builtin; refine wpList_append_own_at _ rfl _ _ 33 rfl w.heap.size 27 iE (.agg #[.int .u8 0, .int .i64 0, .string ⟨#[]⟩, .slice none 0 0, .int .i64 0]) 5 64 Try.underlying33 hi hz0 hz1 hz2 rfl (by decide) _ _ _ rfl ((hown1.out.alloc _).alloc _) ⟨w1.heap.size + 1, 0, none⟩ 1 1 [.int .u8 (x.kind : Int), .int .i64 (x.id : Int), .string ⟨x.name.toArray⟩, .slice A2 x.val.length c2, .int .i64 x.int] rfl rfl (World.news_of_block (two_second w1 _ _)) (by simp [Value.oneCell']) L1.out L2.out (Nat.le_trans L3.out (two_size w1 _ _)) ?_; intro v1 w2 hown2 hg2 _ hat2)
            go_roundw
            case rel => exact ⟨tn, k + 1, rs ++ [(x, A2, c2)], rfl, by go_num, Lib.hid (HU.out.step hlt HRD.out htl HB.out HO.out hown2 hg2)⟩
            case measure => simp [intOf]; omega
        · obtain rfl : k = n := by omega
          have hlt1 : ¬ (k : Int) < (k : Int) := by omega
          have hik := HU.out.i_is
          have HIK := Lib.hid hik
          have HEQ2 : Hid (rdHist l = if a < l.length then .error (a, 3) else .ok (rs.map (·.1), a)) := Lib.hid (by rw [HU.out.eq, Nat.sub_self]; rfl)
          clear hik
          by_cases hae : a < l.length
          · have hae1 : (a : Int) < (l.length : Int) := by omega
            go_wp2_with fail
            go_ret3
            exact ⟨HU.out.B, .inr ⟨a, 3, by omega, rfl, by rw [HEQ2.out, if_pos hae]⟩⟩
          · have hae1 : ¬ (a : Int) < (l.length : Int) := by omega
            have HAE : Hid (a = l.length) := Lib.hid (by omega)
            have HX : Hid (rdHist l = .ok (rs.map (·.1), a)) := Lib.hid (by rw [HEQ2.out, if_neg hae])
            clear hae HEQ2
            go_wp2_with fail
            go_ret3
            refine ⟨HU.out.B, .inl ⟨rs, .slice Av rs.length cv, congrArg (fun n : Nat => Ending.returned (.tuple #[.slice Av rs.length cv, .int .i64 (n : Int), .int .i64 0])) HAE.out, by rw [HX.out, HAE.out], HU.out.own, HU.out.nds⟩⟩
end Go.Proofs.Yticipdjfkpakpaa

namespace Go.Proofs.Yticipdjfkpakpaa
open Go.RowKit
attribute [local go_sem] run_store_cx'

set_option maxRecDepth 20000 in
set_option maxHeartbeats 1600000 in
theorem equal_drew (w : World) (b1 b2 : Nat) (A1 A2 : Option Addr) (c1 c2 : Nat) (xs : List Nd) (h1 : w.ownsRow b1 40 5 (.slice A1 xs.length c1) xs.length (ndsV xs)) (h2 : w.ownsRow b2 40 5 (.slice A2 xs.length c2) xs.length (ndsV xs)) (hf : ∀ x ∈ xs, x.fine) (hn : xs.length ≤ 1024) :
    Calls Try.prog 29 #[.slice A1 xs.length c1, .slice A2 xs.length c2] w fun e w' => e = .returned (.bool true) ∧ ∃ n, w' = w.drewN n := by
  go_enter Try.func29, Try.ntmps29
  go_wp2_with fail
  go_loopw [5] (fun i wr => ∃ (k m : Nat), i = .int .i64 k ∧ k ≤ xs.length ∧ wr = w.drewN m) (fun i _ => 1025 - (intOf i).toNat)
  case atStart => exact ⟨0, 0, rfl, by omega, rfl⟩
  case round =>
    obtain ⟨k, m, rfl, hk, rfl⟩ := hrel
    have hk1 : (k : Int) ≤ 1024 := by omega
    by_cases hlt : k < xs.length
    · have hlt1 : (k : Int) < (xs.length : Int) := by omega
      have n0 : ¬ ((k : Int) < 0) := by omega
      obtain ⟨g1, d1, e1⟩ : ∃ g cap, (Value.slice A1 xs.length c1) = .slice (some ⟨g, 0, none⟩) xs.length cap := by
        rcases h1.2 with ⟨_, h0⟩ | ⟨g, cap, cur, hv, _⟩
        · omega
        · exact ⟨g, cap, hv⟩
      obtain ⟨g2, d2, e2⟩ : ∃ g cap, (Value.slice A2 xs.length c2) = .slice (some ⟨g, 0, none⟩) xs.length cap := by
        rcases h2.2 with ⟨_, h0⟩ | ⟨g, cap, cur, hv, _⟩
        · omega
        · exact ⟨g, cap, hv⟩
      injection e1 with e1 _ e1'
      injection e2 with e2 _ e2'
      subst e1 e1' e2 e2'
      go_wp2_with fail
      have hm1 : ∀ j, j < 5 → w.cell? ⟨g1, k * 5 + j, none⟩ = (xs[k]).cells[j]? := fun j hj => (h1.cellAt (k * 5 + j) (by omega)).trans (ndsV_at xs k j hlt hj)
      have hm2 : ∀ j, j < 5 → w.cell? ⟨g2, k * 5 + j, none⟩ = (xs[k]).cells[j]? := fun j hj => (h2.cellAt (k * 5 + j) (by omega)).trans (ndsV_at xs k j hlt hj)
      have p0 := hm1 0 (by omega)
      have p1 := hm1 1 (by omega)
      have p2 := hm1 2 (by omega)
      have p3 := hm1 3 (by omega)
      have p4 := hm1 4 (by omega)
      have r0 := hm2 0 (by omega)
      have r1 := hm2 1 (by omega)
      have r2 := hm2 2 (by omega)
      have r3 := hm2 3 (by omega)
      have r4 := hm2 4 (by omega)
      rw [Nat.add_zero] at p0 r0
      simp only [Nd.cells, List.getElem?_cons_succ, List.getElem?_cons_zero] at p0 p1 p2 p3 p4 r0 r1 r2 r3 r4
      clear hm1 hm2
      have hq := eq_node xs[k] (hf _ (List.getElem_mem hlt))
      unfold ndV at hq
      go_quiet (fail)
      go_wp2_with fail
      refine ⟨⟨k + 1, m + nq, rfl, by omega, rfl⟩, ?_⟩
      show 1025 - ((k : Int) + 1).toNat < 1025 - (k : Int).toNat
      omega
    · have hlt1 : ¬ (k : Int) < (xs.length : Int) := by omega
      go_wp2_with fail
      go_ret
      exact ⟨rfl, m, rfl⟩

/-- a row of events that can be read -/
def EvsAt (w : World) (A : Option Addr) (es : List Ev) : Prop := ∀ k (hk : k < es.length), ∃ g Av cv base, A = some ⟨g, 0, none⟩ ∧ g < w.heap.size ∧
  (∀ j, j < 5 → w.cell? ⟨g, k * 5 + j, none⟩ = (evC (es[k], Av, cv))[j]?) ∧ w.ownsRow base 40 5 (.slice Av es[k].val.length cv) es[k].val.length (ndsV es[k].val)
theorem EvsAt.below {w w' : World} {A : Option Addr} {es : List Ev} (h : EvsAt w A es) (hb : Below w.heap.size w w') : EvsAt w' A es := fun k hk => by
  obtain ⟨g, Av, cv, base, e, hg, hc, ho⟩ := h k hk
  exact ⟨g, Av, cv, base, e, Nat.lt_of_lt_of_le hg hb.size, fun j hj => (hb.cell (p := ⟨g, k * 5 + j, none⟩) hg).trans (hc j hj), own_below ho hb⟩
set_option maxRecDepth 20000 in
set_option maxHeartbeats 4000000 in
theorem rvSame_any (w : World) (A1 A2 : Option Addr) (c1 c2 : Nat) (es : List Ev) (h1 : EvsAt w A1 es) (h2 : EvsAt w A2 es) (hf : ∀ x ∈ es, (∀ y ∈ x.val, y.fine) ∧ x.val.length ≤ 1024) (hl : es.length ≤ 1000000) :
    Calls Try.prog 9 #[.slice A1 es.length c1, .slice A2 es.length c2] w fun e w' => e = .returned (.bool true) ∧ ∃ n, w' = w.drewN n := by
  have H1 := Lib.hid h1
  have H2 := Lib.hid h2
  clear h1 h2
  go_enter Try.func9, Try.ntmps9
  go_wp2_with fail
  go_loopw [5] (fun i wr => ∃ (k m : Nat), i = .int .i64 k ∧ k ≤ es.length ∧ wr = w.drewN m) (fun i _ => es.length - (intOf i).toNat)
  case atStart => exact ⟨0, 0, rfl, by omega, rfl⟩
  case round =>
    obtain ⟨k, m, rfl, hk, rfl⟩ := hrel
    by_cases hlt : k < es.length
    · have hlt1 : (k : Int) < (es.length : Int) := by omega
      have n0 : ¬ ((k : Int) < 0) := by omega
      obtain ⟨g1, B1, d1, b1, rfl, hg1, hc1, ho1⟩ := H1.out k hlt
      obtain ⟨g2, B2, d2, b2, rfl, hg2, hc2, ho2⟩ := H2.out k hlt
      have p0 := hc1 0 (by omega)
      have p1 := hc1 1 (by omega)
      have p2 := hc1 2 (by omega)
      have p3 := hc1 3 (by omega)
      have p4 := hc1 4 (by omega)
      have r0 := hc2 0 (by omega)
      have r1 := hc2 1 (by omega)
      have r2 := hc2 2 (by omega)
      have r3 := hc2 3 (by omega)
      have r4 := hc2 4 (by omega)
      rw [Nat.add_zero] at p0 r0
      simp only [evC, List.getElem?_cons_succ, List.getElem?_cons_zero] at p0 p1 p2 p3 p4 r0 r1 r2 r3 r4
      clear hc1 hc2
      have hq := hf _ (List.getElem_mem hlt)
      have HE : Hid (∀ n, Calls Try.prog 29 #[.slice B1 es[k].val.length d1, .slice B2 es[k].val.length d2] (w.drewN (m + n)) fun e w'' => e = .returned (.bool true) ∧ ∃ j, w'' = w.drewN (m + j)) :=
        Lib.hid (fun n => (equal_drew (w.drewN (m + n)) b1 b2 B1 B2 d1 d2 es[k].val (own_none ho1 (grown_drewN (World.grownBy.refl _ _) _)) (own_none ho2 (grown_drewN (World.grownBy.refl _ _) _)) hq.1 hq.2).mono fun _ _ ⟨he, j, hj⟩ => ⟨he, n + j, by rw [hj, World.drewN_drewN, Nat.add_assoc]⟩)
      clear ho1 ho2 hq
      generalize es[k] = x at *
      go_wp2_with fail
      go_quiet ((go_at_call 29; exact HE.out _))
      go_wp2_with fail
      go_roundw
      case rel => exact ⟨k + 1, m + nq, by go_num, by omega, rfl⟩
      case measure => simp [intOf]; omega
    · have hlt1 : ¬ (k : Int) < (es.length : Int) := by omega
      go_wp2_with fail
      go_ret
      exact ⟨rfl, m, rfl⟩
end Go.Proofs.Yticipdjfkpakpaa

namespace Go.Proofs.Yticipdjfkpakpaa
open Go.RowKit
attribute [local go_sem] run_store_cx'

def evOf : Except (Nat × Nat) (Ev × Nat) → Ev | .ok (x, _) => x | .error _ => ev0
def esOf : Except (Nat × Nat) (List Ev × Nat) → List Ev | .ok (x, _) => x | .error _ => []
def atOf {α : Type} : Except (Nat × Nat) (α × Nat) → Nat | .ok (_, n) => n | .error (p, _) => p
def enOf {α : Type} : Except (Nat × Nat) (α × Nat) → Nat | .ok _ => 0 | .error (_, en) => en
def OneSays (w : World) (x : Ev) (p en : Nat) (e : Ending) (w' : World) : Prop :=
  ∃ A2 c2, e = .returned (.tuple #[.agg #[.int .u8 (x.kind : Int), .int .i64 (x.id : Int), .string ⟨x.name.toArray⟩, .slice A2 x.val.length c2, .int .i64 x.int], .int .i64 (p : Int), .int .i64 (en : Int)]) ∧
    w'.ownsRow w.heap.size 40 5 (.slice A2 x.val.length c2) x.val.length (ndsV x.val) ∧ Below w.heap.size w w'
theorem EvGets.uni {w w' : World} {res : Except (Nat × Nat) (Ev × Nat)} {e : Ending} (h : EvGets w res e w') : OneSays w (evOf res) (atOf res) (enOf res) e w' := by
  rcases res with ⟨p, en⟩ | ⟨x, n⟩
  · obtain ⟨rfl, hB⟩ := h
    exact ⟨none, 0, rfl, World.ownsRow_nil _ _ _ _, hB⟩
  · obtain ⟨⟨A2, c2, rfl, ho⟩, hB⟩ := h
    exact ⟨A2, c2, rfl, ho, hB⟩
def AllSays (w : World) (es : List Ev) (p en : Nat) (e : Ending) (w' : World) : Prop :=
  ∃ A c, e = .returned (.tuple #[.slice A es.length c, .int .i64 (p : Int), .int .i64 (en : Int)]) ∧ EvsAt w' A es ∧ Below w.heap.size w w'
theorem evsAt_rows {w : World} {base bn cap : Nat} {A : Option Addr} {rs : Rs} (h : w.ownsRow base 27 5 (.slice A rs.length cap) rs.length (rs.flatMap evC))
    (hn : ∀ q ∈ rs, w.ownsRow bn 40 5 (.slice q.2.1 q.1.val.length q.2.2) q.1.val.length (ndsV q.1.val)) : EvsAt w A (rs.map (·.1)) := fun k hk => by
  have hk' : k < rs.length := by simpa using hk
  rcases h.2 with ⟨_, h0⟩ | ⟨g, cap', cur, hv, h1, h2, h3⟩
  · omega
  · injection hv with hA _ _
    subst hA
    refine ⟨g, rs[k].2.1, rs[k].2.2, bn, rfl, (Array.getElem?_eq_some_iff.1 h2).1, fun j hj => ?_, ?_⟩
    · have e1 := h.cellAt (k * 5 + j) (by omega)
      have e2 : (rs.flatMap evC)[k * 5 + j]? = (evC rs[k])[j]? := by
        have : ∀ (rs : Rs) (i j : Nat), j < 5 → (rs.flatMap evC)[i * 5 + j]? = rs[i]?.bind fun q => (evC q)[j]? := by
          intro rs
          induction rs with
          | nil => intro i j _; simp
          | cons q rs ih =>
            intro i j hj
            have hl : (evC q).length = 5 := rfl
            cases i with
            | zero => rw [Nat.zero_mul, Nat.zero_add, List.flatMap_cons, List.getElem?_append_left (by rw [hl]; exact hj)]; rfl
            | succ i =>
              have e : (i + 1) * 5 + j = 5 + (i * 5 + j) := by omega
              rw [e, List.flatMap_cons, List.getElem?_append_right (by rw [hl]; omega), hl, show 5 + (i * 5 + j) - 5 = i * 5 + j from by omega, ih i j hj]
              simp
        rw [this rs k j hj, List.getElem?_eq_getElem hk']
        rfl
      rw [e1, e2]
      simp
    · have := hn rs[k] (List.getElem_mem hk')
      simpa using this
theorem evsAt_nil (w : World) : EvsAt w none [] := fun k hk => absurd hk (Nat.not_lt_zero _)
theorem UnpSays.uni {w w' : World} {l : List UInt8} {e : Ending} (h : UnpSays w l e w') : AllSays w (esOf (rdHist l)) (atOf (rdHist l)) (enOf (rdHist l)) e w' := by
  obtain ⟨hB, ⟨rs, v, rfl, hr, ho, hn⟩ | ⟨p, en, _, rfl, hr⟩⟩ := h
  · rw [hr]
    obtain ⟨A, c, rfl⟩ := own_slice ho
    refine ⟨A, c, ?_, evsAt_rows ho hn, hB⟩
    simp [esOf, atOf, enOf]
  · rw [hr]
    exact ⟨none, 0, rfl, evsAt_nil _, hB⟩
theorem evsAt_one {W : World} {g base : Nat} {x : Ev} {Av : Option Addr} {cv : Nat} (hb : Blk W g 27 (evC (x, Av, cv))) (ho : W.ownsRow base 40 5 (.slice Av x.val.length cv) x.val.length (ndsV x.val)) : EvsAt W (some ⟨g, 0, none⟩) [x] := fun k hk => by
  obtain rfl : k = 0 := by simp at hk; exact hk
  exact ⟨g, Av, cv, base, rfl, hb.lt, fun j _ => by rw [Nat.zero_mul, Nat.zero_add]; exact hb.cell j, ho⟩
theorem raw_fine {x : Ev} (h : EvRaw x) : (∀ y ∈ x.val, y.fine) ∧ x.val.length ≤ 1024 := by
  cases hv : hasValue x.kind with
  | false => rw [h.val hv]; simp
  | true =>
    have hs := (h.ok hv).1.seq
    refine ⟨fun y hy => ?_, hs.few⟩
    obtain ⟨j, hj, rfl⟩ := List.mem_iff_getElem.1 hy
    have := (hs.fit j).1
    rw [List.getElem?_eq_getElem hj] at this
    exact this.fine
theorem evOf_fine {l : List UInt8} (hl : l.length ≤ 1000000) : (∀ y ∈ (evOf (rdEv l 0)).val, y.fine) ∧ (evOf (rdEv l 0)).val.length ≤ 1024 := by
  cases h : rdEv l 0 with
  | error e => exact ⟨by simp [evOf, ev0], by simp [evOf, ev0]⟩
  | ok q => obtain ⟨x, t⟩ := q; exact raw_fine (rdEv_ok hl h).1
theorem esOf_fine {l : List UInt8} (hl : l.length ≤ 1000000) : (∀ x ∈ esOf (rdHist l), (∀ y ∈ x.val, y.fine) ∧ x.val.length ≤ 1024) ∧ (esOf (rdHist l)).length ≤ 1000000 := by
  cases h : rdHist l with
  | error e => exact ⟨by simp [esOf], by simp [esOf]⟩
  | ok q =>
    obtain ⟨es, t⟩ := q
    obtain ⟨_, _, h3, h4⟩ := rdHist_ok hl h
    exact ⟨fun x hx => raw_fine (h4 x hx).1, by show es.length ≤ _; omega⟩

theorem reads_long (a : Option Addr) (len cap : Nat) (w : World) (hl : 20000 < (len : Int)) : Calls Try.prog 3 #[.slice a len cap] w fun e w' => e = .returned (.bool true) ∧ Below w.heap.size w w' := by
  go_enter Try.func3, Try.ntmps3
  go_wp2_with fail
  refine (awake_any w).mono ?_
  rintro e w1 ⟨rfl, hb⟩
  have HB := Lib.hid hb
  clear hb
  go_wp2_with fail
  go_ret
  exact ⟨rfl, HB.out⟩

set_option maxRecDepth 20000 in
set_option maxHeartbeats 4000000 in
theorem reads_short (A : Option Addr) (cap : Nat) (l : List UInt8) (w : World) (h : In w A l.length cap l) (hl : ¬ 20000 < (l.length : Int)) : Calls Try.prog 3 #[.slice A l.length cap] w fun e w' => e = .returned (.bool true) ∧ Below w.heap.size w w' := by
  have hsz : l.length ≤ 1000000 := by omega
  have II := Lib.hid h
  clear h
  go_enter Try.func3, Try.ntmps3
  go_wp2_with fail
  refine (awake_any w).mono ?_
  rintro e w1 ⟨rfl, hb⟩
  have II := Lib.hid (II.out.below hb)
  have HB := Lib.hid hb
  clear hb
  have hf1 := Lib.hid (evOf_fine hsz)
  have hf2 := Lib.hid (esOf_fine hsz)
  have HR1 := Lib.hid (evRead_any w1 A l.length cap l II.out hsz)
  have HR2 : Hid (∀ W, In W A l.length cap l → Calls Try.prog 8 #[.slice A l.length cap, .int .i64 0] W (EvGets W (rdEv l 0))) := Lib.hid (fun W hW => rvRead_any W A l.length cap l 0 hW hsz (Nat.zero_le _))
  have HR3 : Hid (∀ W, In W A l.length cap l → Calls Try.prog 10 #[.slice A l.length cap] W (UnpSays W l)) := Lib.hid (fun W hW => unpack_any W A l.length cap l hW hsz)
  have HR4 : Hid (∀ W, In W A l.length cap l → Calls Try.prog 11 #[.slice A l.length cap] W (UnpSays W l)) := Lib.hid (fun W hW => rvUnpack_any W A l.length cap l hW hsz)
  go_wp2_with fail
  refine HR1.out.mono ?_
  rintro e w2 hev
  obtain ⟨A1, c1, rfl, ho1, B⟩ := hev.uni
  have II := Lib.hid (II.out.below B)
  have HB := Lib.hid (HB.out.trans (B.mono HB.out.size))
  clear B hev HR1
  have HR2 : Hid (∀ W, In W A l.length cap l → Calls Try.prog 8 #[.slice A l.length cap, .int .i64 0] W (OneSays W (evOf (rdEv l 0)) (atOf (rdEv l 0)) (enOf (rdEv l 0)))) := Lib.hid (fun W hW => (HR2.out W hW).mono fun _ _ h => h.uni)
  generalize evOf (rdEv l 0) = x at *
  generalize atOf (rdEv l 0) = p at *
  generalize enOf (rdEv l 0) = en at *
  have HO1 := Lib.hid ho1
  clear ho1
  go_wp2_with fail
  have K3 := Lib.hid (show Blk (w2.alloc (.cells #[.int .u8 (x.kind : Int), .int .i64 (x.id : Int), .string ⟨x.name.toArray⟩, .slice A1 x.val.length c1, .int .i64 x.int] 27)) w2.heap.size 27 (evC (x, A1, c1)) from heap_alloc_new w2 _)
  have B := Below.alloc (Below.refl w2.heap.size w2) (Nat.le_refl _) (.cells #[.int .u8 (x.kind : Int), .int .i64 (x.id : Int), .string ⟨x.name.toArray⟩, .slice A1 x.val.length c1, .int .i64 x.int] 27)
  have II := Lib.hid (II.out.below B)
  have HB := Lib.hid (HB.out.trans (B.mono HB.out.size))
  have HO1 := Lib.hid (own_below HO1.out B)
  clear B
  generalize w2.alloc (.cells #[.int .u8 (x.kind : Int), .int .i64 (x.id : Int), .string ⟨x.name.toArray⟩, .slice A1 x.val.length c1, .int .i64 x.int] 27) = W at *
  generalize w2.heap.size = b3 at *
  refine (HR2.out W II.out).mono ?_
  rintro e w3 hev
  obtain ⟨A2, c2, rfl, ho2, B⟩ := hev
  have II := Lib.hid (II.out.below B)
  have HB := Lib.hid (HB.out.trans (B.mono HB.out.size))
  have HO1 := Lib.hid (own_below HO1.out B)
  have K3 := Lib.hid (K3.out.bel B)
  have HO2 := Lib.hid ho2
  clear ho2 B HR2
  have k0 := K3.out.cell 0
  have k1 := K3.out.cell 1
  have k2 := K3.out.cell 2
  have k3 := K3.out.cell 3
  have k4 := K3.out.cell 4
  simp only [evC, List.getElem?_cons_succ, List.getElem?_cons_zero] at k0 k1 k2 k3 k4
  have hlt3 := K3.out.lt
  have HSm : Hid (∀ W' g1 g2, EvsAt W' (some ⟨g1, 0, none⟩) [x] → EvsAt W' (some ⟨g2, 0, none⟩) [x] → Calls Try.prog 9 #[.slice (some ⟨g1, 0, none⟩) 1 1, .slice (some ⟨g2, 0, none⟩) 1 1] W' fun e w' => e = .returned (.bool true) ∧ ∃ n, w' = W'.drewN n) :=
    Lib.hid (fun W' g1 g2 h1 h2 => rvSame_any W' _ _ 1 1 [x] h1 h2 (fun y hy => by simp at hy; subst hy; exact hf1.out) (by simp))
  clear hf1
  have B5 : Below w3.heap.size w3 (((w3.alloc (.cells #[.int .u8 (x.kind : Int), .int .i64 (x.id : Int), .string ⟨x.name.toArray⟩, .slice A2 x.val.length c2, .int .i64 x.int] 27)).alloc (.cells #[.int .u8 (x.kind : Int), .int .i64 (x.id : Int), .string ⟨x.name.toArray⟩, .slice A1 x.val.length c1, .int .i64 x.int] 27)).alloc (.cells #[.int .u8 (x.kind : Int), .int .i64 (x.id : Int), .string ⟨x.name.toArray⟩, .slice A2 x.val.length c2, .int .i64 x.int] 27)) := (((Below.refl _ _).alloc (Nat.le_refl _) _).alloc (by simp) _).alloc (by simp; omega) _
  have hb1 : Blk (((w3.alloc (.cells #[.int .u8 (x.kind : Int), .int .i64 (x.id : Int), .string ⟨x.name.toArray⟩, .slice A2 x.val.length c2, .int .i64 x.int] 27)).alloc (.cells #[.int .u8 (x.kind : Int), .int .i64 (x.id : Int), .string ⟨x.name.toArray⟩, .slice A1 x.val.length c1, .int .i64 x.int] 27)).alloc (.cells #[.int .u8 (x.kind : Int), .int .i64 (x.id : Int), .string ⟨x.name.toArray⟩, .slice A2 x.val.length c2, .int .i64 x.int] 27)) (w3.heap.size + 1) 27 (evC (x, A1, c1)) := by
    have := Blk.alloc (Blk.new (w3.alloc (.cells #[.int .u8 (x.kind : Int), .int .i64 (x.id : Int), .string ⟨x.name.toArray⟩, .slice A2 x.val.length c2, .int .i64 x.int] 27)) 27 (evC (x, A1, c1))) (.cells #[.int .u8 (x.kind : Int), .int .i64 (x.id : Int), .string ⟨x.name.toArray⟩, .slice A2 x.val.length c2, .int .i64 x.int] 27)
    rwa [World.size_alloc] at this
  have hb2 : Blk (((w3.alloc (.cells #[.int .u8 (x.kind : Int), .int .i64 (x.id : Int), .string ⟨x.name.toArray⟩, .slice A2 x.val.length c2, .int .i64 x.int] 27)).alloc (.cells #[.int .u8 (x.kind : Int), .int .i64 (x.id : Int), .string ⟨x.name.toArray⟩, .slice A1 x.val.length c1, .int .i64 x.int] 27)).alloc (.cells #[.int .u8 (x.kind : Int), .int .i64 (x.id : Int), .string ⟨x.name.toArray⟩, .slice A2 x.val.length c2, .int .i64 x.int] 27)) (w3.heap.size + 1 + 1) 27 (evC (x, A2, c2)) := by
    have := Blk.new ((w3.alloc (.cells #[.int .u8 (x.kind : Int), .int .i64 (x.id : Int), .string ⟨x.name.toArray⟩, .slice A2 x.val.length c2, .int .i64 x.int] 27)).alloc (.cells #[.int .u8 (x.kind : Int), .int .i64 (x.id : Int), .string ⟨x.name.toArray⟩, .slice A1 x.val.length c1, .int .i64 x.int] 27)) 27 (evC (x, A2, c2))
    rwa [World.size_alloc, World.size_alloc] at this
  have S1 := Lib.hid (evsAt_one hb1 (own_below HO1.out B5))
  have S2 := Lib.hid (evsAt_one hb2 (own_below HO2.out B5))
  have II := Lib.hid (II.out.below B5)
  have HB := Lib.hid (HB.out.trans (B5.mono HB.out.size))
  clear hb1 hb2 B5
  go_wp2_with (go_at_call 9; refine (HSm.out _ _ _ S1.out S2.out).mono ?_; rintro e w4 ⟨rfl, nn, rfl⟩)
  have hbq := below_drewN (Below.refl (((w3.alloc (.cells #[.int .u8 (x.kind : Int), .int .i64 (x.id : Int), .string ⟨x.name.toArray⟩, .slice A2 x.val.length c2, .int .i64 x.int] 27)).alloc (.cells #[.int .u8 (x.kind : Int), .int .i64 (x.id : Int), .string ⟨x.name.toArray⟩, .slice A1 x.val.length c1, .int .i64 x.int] 27)).alloc (.cells #[.int .u8 (x.kind : Int), .int .i64 (x.id : Int), .string ⟨x.name.toArray⟩, .slice A2 x.val.length c2, .int .i64 x.int] 27)).heap.size (((w3.alloc (.cells #[.int .u8 (x.kind : Int), .int .i64 (x.id : Int), .string ⟨x.name.toArray⟩, .slice A2 x.val.length c2, .int .i64 x.int] 27)).alloc (.cells #[.int .u8 (x.kind : Int), .int .i64 (x.id : Int), .string ⟨x.name.toArray⟩, .slice A1 x.val.length c1, .int .i64 x.int] 27)).alloc (.cells #[.int .u8 (x.kind : Int), .int .i64 (x.id : Int), .string ⟨x.name.toArray⟩, .slice A2 x.val.length c2, .int .i64 x.int] 27))) nn
  have II := Lib.hid (II.out.below hbq)
  have HB := Lib.hid (HB.out.trans (hbq.mono HB.out.size))
  clear hbq S1 S2 HSm k0 k1 k2 k3 k4 hlt3 K3 HO1 HO2
  generalize (((w3.alloc (.cells #[.int .u8 (x.kind : Int), .int .i64 (x.id : Int), .string ⟨x.name.toArray⟩, .slice A2 x.val.length c2, .int .i64 x.int] 27)).alloc (.cells #[.int .u8 (x.kind : Int), .int .i64 (x.id : Int), .string ⟨x.name.toArray⟩, .slice A1 x.val.length c1, .int .i64 x.int] 27)).alloc (.cells #[.int .u8 (x.kind : Int), .int .i64 (x.id : Int), .string ⟨x.name.toArray⟩, .slice A2 x.val.length c2, .int .i64 x.int] 27)).drewN nn = V at *
  refine (HR3.out V II.out).mono ?_
  rintro e w6 hu
  obtain ⟨A3, c3, rfl, hs3, B⟩ := hu.uni
  have II := Lib.hid (II.out.below B)
  have HB := Lib.hid (HB.out.trans (B.mono HB.out.size))
  clear B hu HR3
  have HR4 : Hid (∀ W, In W A l.length cap l → Calls Try.prog 11 #[.slice A l.length cap] W (AllSays W (esOf (rdHist l)) (atOf (rdHist l)) (enOf (rdHist l)))) := Lib.hid (fun W hW => (HR4.out W hW).mono fun _ _ h => h.uni)
  have HS3 := Lib.hid hs3
  clear hs3
  generalize esOf (rdHist l) = es at *
  generalize atOf (rdHist l) = p2 at *
  generalize enOf (rdHist l) = en2 at *
  go_wp2_with fail
  refine (HR4.out _ II.out).mono ?_
  rintro e w7 hu
  obtain ⟨A4, c4, rfl, hs4, B⟩ := hu
  have II := Lib.hid (II.out.below B)
  have HB := Lib.hid (HB.out.trans (B.mono HB.out.size))
  have HS3 := Lib.hid (HS3.out.below B)
  have HC := Lib.hid (rvSame_any w7 A3 A4 c3 c4 es HS3.out hs4 hf2.out.1 hf2.out.2)
  clear B hs4 HR4
  go_wp2_with (go_at_call 9; refine HC.out.mono ?_; rintro e w8 ⟨rfl, nn2, rfl⟩)
  go_ret
  exact ⟨rfl, below_drewN HB.out _⟩
theorem reads_of (a : Option Addr) (len cap : Nat) (zs : List Int) (w : World) (h : Came w a len cap zs) :
    Calls Try.prog 3 #[.slice a len cap] w fun e w' => e = .returned (.bool true) ∧ Below w.heap.size w w' := by
  by_cases hl : 20000 < (len : Int)
  · exact reads_long a len cap w hl
  · obtain ⟨l, hin⟩ := came_in h
    obtain rfl := hin.bs.len
    exact reads_short a cap l w hin (by omega)
end Go.Proofs.Yticipdjfkpakpaa
