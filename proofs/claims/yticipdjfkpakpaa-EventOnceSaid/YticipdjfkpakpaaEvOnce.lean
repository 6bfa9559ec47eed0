/- EventOnce: what is read has just the bytes that were taken. -/
import Derived.Test.YticipdjfkpakpaaEvUnpack
import Derived.Test.YticipdjfkpakpaaCodeCame
namespace Go.Proofs.Yticipdjfkpakpaa
open Go.RowKit
attribute [local go_sem] run_store_cx'

theorem evC_get : ∀ (rs : Rs) (i j : Nat), j < 5 → (rs.flatMap evC)[i * 5 + j]? = rs[i]?.bind fun q => (evC q)[j]?
  | [], i, j, _ => by simp
  | q :: rs, 0, j, hj => by
    have hl : (evC q).length = 5 := rfl
    rw [Nat.zero_mul, Nat.zero_add, List.flatMap_cons, List.getElem?_append_left (by rw [hl]; exact hj)]
    rfl
  | q :: rs, i + 1, j, hj => by
    have e : (i + 1) * 5 + j = 5 + (i * 5 + j) := by omega
    have hl : (evC q).length = 5 := rfl
    rw [e, List.flatMap_cons, List.getElem?_append_right (by rw [hl]; omega), hl, show 5 + (i * 5 + j) - 5 = i * 5 + j from by omega, evC_get rs i j hj]
    simp
theorem evRow_of {w : World} {base g cap : Nat} {rs : Rs} (h : w.ownsRow base 27 5 (.slice (some ⟨g, 0, none⟩) rs.length cap) rs.length (rs.flatMap evC))
    (hn : ∀ q ∈ rs, w.ownsRow base 40 5 (.slice q.2.1 q.1.val.length q.2.2) q.1.val.length (ndsV q.1.val)) : EvRow w g (rs.map (·.1)) := fun k hk => by
  have hk' : k < rs.length := by simpa using hk
  refine ⟨rs[k].2.1, rs[k].2.2, ?_, fun j hj => ?_⟩
  · have := vin_own (hn rs[k] (List.getElem_mem hk'))
    simpa using this
  · rw [h.cellAt _ (by omega), evC_get rs k j hj, List.getElem?_eq_getElem hk']
    simp [evC]

set_option maxRecDepth 20000 in
set_option maxHeartbeats 1600000 in
theorem packNil_any (w : World) : Calls Try.prog 15 #[.slice none 0 0] w (MadeV w (packB [])) := by
  go_enter Try.func15, Try.ntmps15
  go_wp2_with fail
  refine (putUint_any _ 0 (by omega)).mono ?_
  rintro e w1 ⟨v0, rfl, ho, B0⟩
  have HO := Lib.hid ho
  have HB := Lib.hid B0
  clear ho B0
  go_wp2_with fail
  refine wp_loop_rounds 1 ?_
  rw [rounds_succ]
  go_wp2_with fail
  go_ret2
  exact ⟨_, rfl, by simpa [packB] using HO.out, HB.out⟩
theorem pack_of (w : World) (base : Nat) (rs : Rs) (v : Value) (h : w.ownsRow base 27 5 v rs.length (rs.flatMap evC))
    (hn : ∀ q ∈ rs, w.ownsRow base 40 5 (.slice q.2.1 q.1.val.length q.2.2) q.1.val.length (ndsV q.1.val)) (hl : rs.length ≤ 4096) (hr : ∀ x ∈ rs.map (·.1), EvRaw x ∧ evOk x = true) (hp : (packB (rs.map (·.1))).length ≤ 100000000) :
    Calls Try.prog 15 #[v] w (MadeV w (packB (rs.map (·.1)))) := by
  rcases h.2 with ⟨rfl, h0⟩ | ⟨g, cap, cur, rfl, h1, h2, h3⟩
  · obtain rfl : rs = [] := List.eq_nil_of_length_eq_zero h0
    exact packNil_any w
  · have := evPack_any w g cap (rs.map (·.1)) (by simpa using hl) hr hp (Array.getElem?_eq_some_iff.1 h2).1 (evRow_of h hn)
    rwa [List.length_map] at this

theorem once_long (a : Option Addr) (len cap : Nat) (w : World) (hl : 20000 < (len : Int)) : Calls Try.prog 5 #[.slice a len cap] w fun e w' => e = .returned (.bool true) ∧ Below w.heap.size w w' := by
  go_enter Try.func5, Try.ntmps5
  go_wp2_with fail
  refine (awake_any w).mono ?_
  rintro e w1 ⟨rfl, hb⟩
  have HB := Lib.hid hb
  clear hb
  go_wp2_with fail
  go_ret
  exact ⟨rfl, HB.out⟩

set_option maxRecDepth 20000 in
set_option maxHeartbeats 4000000 in
theorem once_short (A : Option Addr) (cap : Nat) (l : List UInt8) (w : World) (h : In w A l.length cap l) (hl : ¬ 20000 < (l.length : Int)) : Calls Try.prog 5 #[.slice A l.length cap] w fun e w' => e = .returned (.bool true) ∧ Below w.heap.size w w' := by
  have hsz : l.length ≤ 1000000 := by omega
  have II := Lib.hid h
  clear h
  go_enter Try.func5, Try.ntmps5
  go_wp2_with fail
  refine (awake_any w).mono ?_
  rintro e w1 ⟨rfl, hb⟩
  have II := Lib.hid (II.out.below hb)
  have HB := Lib.hid hb
  clear hb
  go_wp2_with fail
  refine (evRead_any w1 A l.length cap l II.out hsz).mono ?_
  rintro e w2 ⟨hev, B⟩
  have II := Lib.hid (II.out.below B)
  have HB := Lib.hid (HB.out.trans (B.mono HB.out.size))
  clear B
  rcases hr : rdEv l 0 with ⟨p, en⟩ | ⟨x, t⟩
  · rw [hr] at hev
    obtain rfl := hev
    have hne := rdEv_errno hr
    have hen : ((en : Int) == 0) = false := beq_eq_false_iff_ne.2 (by omega)
    clear hne hr
    unfold evV ev0
    go_wp2_with fail
    have B := Below.alloc (Below.refl w2.heap.size w2) (Nat.le_refl _) (.cells #[.int .u8 0, .int .i64 0, .string ⟨#[]⟩, .slice none 0 0, .int .i64 0] 27)
    have II := Lib.hid (II.out.below B)
    have HB := Lib.hid (HB.out.trans (B.mono HB.out.size))
    clear B
    generalize w2.alloc (.cells #[.int .u8 0, .int .i64 0, .string ⟨#[]⟩, .slice none 0 0, .int .i64 0] 27) = W at *
    have IW := Lib.hid (II.out)
    refine (unpack_any _ A _ cap l IW.out hsz).mono ?_
    rintro e w7 ⟨B, hu⟩
    have II := Lib.hid (II.out.below B)
    have HB := Lib.hid (HB.out.trans (B.mono HB.out.size))
    clear B IW
    rcases hu with ⟨rs, v, rfl, hR, ho, hn⟩ | ⟨p, en, hne, rfl, hR⟩
    · obtain ⟨hl1, hl2, hl3, hl4⟩ := rdHist_ok hsz hR
      obtain ⟨Av, cv, rfl⟩ := own_slice ho
      have hpk := pack_of w7 _ rs _ ho hn (by simpa using hl3) hl4 (by rw [hl2]; omega)
      rw [hl2] at hpk
      have HP := Lib.hid hpk
      clear hR hl1 hl2 hl3 hl4 ho hn hpk
      go_wp2_with fail
      refine HP.out.mono ?_
      rintro e w8 hm
      obtain ⟨A3, c3, rfl, i3, B⟩ := hm.bs
      have II := Lib.hid (II.out.below B)
      have HB := Lib.hid (HB.out.trans (B.mono HB.out.size))
      have k1 := i3.conv
      have k2 := II.out.conv
      clear hm B i3 HP
      unfold strV at k1 k2
      go_wp2_with fail
      go_ret
      exact ⟨by simp, HB.out⟩
    · have hen2 : ((en : Int) != 0) = true := by rw [bne_iff_ne]; omega
      clear hne hR
      go_wp2_with fail
      go_ret
      exact ⟨rfl, HB.out⟩
  · rw [hr] at hev
    obtain ⟨A2, c2, rfl, ho⟩ := hev
    obtain ⟨hraw, hok, hby, hat, htl⟩ := rdEv_ok hsz hr
    have hvi := vin_own ho
    have HX1 := Lib.hid hraw
    have HX2 := Lib.hid hok
    have HBY : Hid (evB x = l.take t) := Lib.hid (by rw [hby]; unfold sub; simp)
    have htI : (t : Int) ≤ (l.length : Int) := by omega
    have HT := Lib.hid htl
    clear hraw hok hby hr ho
    unfold evV
    have B := Below.alloc (Below.refl w2.heap.size w2) (Nat.le_refl _) (.cells #[.int .u8 (x.kind : Int), .int .i64 (x.id : Int), .string ⟨x.name.toArray⟩, .slice A2 x.val.length c2, .int .i64 x.int] 27)
    have II := Lib.hid (II.out.below B)
    have HB := Lib.hid (HB.out.trans (B.mono HB.out.size))
    have HV := Lib.hid (hvi.below B)
    clear B hvi
    go_wp2_with fail
    generalize w2.alloc (.cells #[.int .u8 (x.kind : Int), .int .i64 (x.id : Int), .string ⟨x.name.toArray⟩, .slice A2 x.val.length c2, .int .i64 x.int] 27) = W at *
    refine (evBytes_any x HX1.out HX2.out A2 x.val.length c2 W HV.out).mono ?_
    rintro e w3 hm
    rw [HBY.out] at hm
    obtain ⟨A3, c3, rfl, i3, B⟩ := hm.bs
    have II := Lib.hid (II.out.below B)
    have HB := Lib.hid (HB.out.trans (B.mono HB.out.size))
    clear B hm HV
    have I3 := Lib.hid i3
    clear i3
    have htl' : (l.take t).length = t := by rw [List.length_take]; have := HT.out; omega
    have k1 : ∀ k, (convert 22 9 (.slice A3 t c3)).run Try.prog (w3.drewN k) = .ok (.string ⟨(l.take t).toArray⟩) (w3.drewN k) := fun k => by have := (I3.out.below (below_drewN (Below.refl _ _) k)).conv; rw [htl'] at this; exact this
    have k2 : ∀ k, (convert 22 9 (.slice A t cap)).run Try.prog (w3.drewN k) = .ok (.string ⟨(l.take t).toArray⟩) (w3.drewN k) := fun k => by
      have hcut := (II.out.below (below_drewN (Below.refl w3.heap.size w3) k)).bs.cut (A' := A) 0 t (by omega) HT.out (fun ad _ e => by rw [e]; rfl)
      exact run_conv_bs hcut _ _ 5 Try.underlying22 Try.underlying5 Try.underlying9 _
    have hc1 : (t : Int) ≤ (cap : Int) := by have := II.out.cap_le; omega
    clear htl'
    have hd : decide (l.length < t) = false := decide_eq_false (by omega)
    go_wp2_with fail
    go_quiet (fail)
    go_wp2_with fail
    have hbq := below_drewN (Below.refl w3.heap.size w3) nq
    have II := Lib.hid (II.out.below hbq)
    have HB := Lib.hid (HB.out.trans (hbq.mono HB.out.size))
    clear hbq k1 k2 hd
    generalize w3.drewN nq = V at *
    have IW := Lib.hid (II.out)
    refine (unpack_any _ A _ cap l IW.out hsz).mono ?_
    rintro e w7 ⟨B, hu⟩
    have II := Lib.hid (II.out.below B)
    have HB := Lib.hid (HB.out.trans (B.mono HB.out.size))
    clear B IW
    rcases hu with ⟨rs, v, rfl, hR, ho, hn⟩ | ⟨p, en, hne, rfl, hR⟩
    · obtain ⟨hl1, hl2, hl3, hl4⟩ := rdHist_ok hsz hR
      obtain ⟨Av, cv, rfl⟩ := own_slice ho
      have hpk := pack_of w7 _ rs _ ho hn (by simpa using hl3) hl4 (by rw [hl2]; omega)
      rw [hl2] at hpk
      have HP := Lib.hid hpk
      clear hR hl1 hl2 hl3 hl4 ho hn hpk
      go_wp2_with fail
      refine HP.out.mono ?_
      rintro e w8 hm
      obtain ⟨A3, c3, rfl, i3, B⟩ := hm.bs
      have II := Lib.hid (II.out.below B)
      have HB := Lib.hid (HB.out.trans (B.mono HB.out.size))
      have k1 := i3.conv
      have k2 := II.out.conv
      clear hm B i3 HP
      unfold strV at k1 k2
      go_wp2_with fail
      go_ret
      exact ⟨by simp, HB.out⟩
    · have hen2 : ((en : Int) != 0) = true := by rw [bne_iff_ne]; omega
      clear hne hR
      go_wp2_with fail
      go_ret
      exact ⟨rfl, HB.out⟩
theorem once_of (a : Option Addr) (len cap : Nat) (zs : List Int) (w : World) (h : Came w a len cap zs) :
    Calls Try.prog 5 #[.slice a len cap] w fun e w' => e = .returned (.bool true) ∧ Below w.heap.size w w' := by
  by_cases hl : 20000 < (len : Int)
  · exact once_long a len cap w hl
  · obtain ⟨l, hin⟩ := came_in h
    obtain rfl := hin.bs.len
    exact once_short a cap l w hin (by omega)
end Go.Proofs.Yticipdjfkpakpaa
