/- SqL: texts of queue's claims, merged (a claim may hold few texts) -/
import Derived.Test.YtpbheicfplpemaaGreatSqB
import Derived.Test.YtpbheicfplpemaaGreatRows
import Derived.Deep.Slices
import Derived.Deep.Fields
import Derived.ChangeSame
import Derived.OpenShut
import Derived.Test.YtpbheicfplpemaaGreatQaA
namespace Go.Proofs.YtpbheicfplpemaaGreat
open Go.RowKit

def stV (d : Int) (key who : ByteArray) (at_ lease num : Int) : Value := .agg #[.int .u8 d, .string key, .string who, .int .i64 at_, .int .i64 lease, .int .i64 num]
section
variable {w0 w : World} {m q r : Nat} {most grace : Int}
set_option maxRecDepth 20000 in
set_option maxHeartbeats 8000000 in
theorem one0 (h : BX w0 w m q r most grace) (hm : m ≤ 1000) (key who : ByteArray) (hk : key.size ≤ 200) (hw : who.size ≤ 200) (at_ lease num : Int) (ha : -9223372036854775808 ≤ at_ ∧ at_ ≤ 9223372036854775807) (hl : -9223372036854775808 ≤ lease ∧ lease ≤ 9223372036854775807) :
    Calls Tryz.prog 17 #[.pointer (some ⟨q, 0, none⟩), .pointer (some ⟨r, 0, none⟩), stV 0 key who at_ lease num] w fun e w' => e = .returned (.bool true) ∧ BX w0 w' (m + 1) q r most grace := by
  have hb := Below.new w (.cells #[.int .u8 0, .string key, .string who, .int .i64 at_, .int .i64 lease, .int .i64 num] 42)
  have KX := Lib.hid (Blk.new w 42 [.int .u8 0, .string key, .string who, .int .i64 at_, .int .i64 lease, .int .i64 num])
  obtain ⟨v, M, h1, h2⟩ := putB h hb hm key who hk hw at_ ha
  have H1 := Lib.hid h1
  have H2 := Lib.hid h2
  clear h1 h2 h hb
  unfold stV
  go_enter Tryz.func17, Tryz.ntmps17
  go_upto_region 1 with (fail)
  generalize w.alloc (.cells #[.int .u8 0, .string key, .string who, .int .i64 at_, .int .i64 lease, .int .i64 num] 42) = X at *
  generalize w.heap.size = b at *
  have u0 := KX.out.cell 0
  have u1 := KX.out.cell 1
  have u2 := KX.out.cell 2
  have u3 := KX.out.cell 3
  have u4 := KX.out.cell 4
  have u5 := KX.out.cell 5
  simp only [List.getElem?_cons_succ, List.getElem?_cons_zero] at u0 u1 u2 u3 u4 u5
  go_wp2_with (first | (go_at_call 13; refine H1.out.mono ?_; rintro e w1 ⟨rfl, hM, hT⟩; have HM := Lib.hid hM; have K1 := Lib.hid (KX.out.turns hT (Nat.lt_irrefl _)); clear hM hT H1 u0 u1 u2 u3 u4 u5; have u0 := K1.out.cell 0; have u1 := K1.out.cell 1; have u2 := K1.out.cell 2; have u3 := K1.out.cell 3; have u4 := K1.out.cell 4; have u5 := K1.out.cell 5; simp only [List.getElem?_cons_succ, List.getElem?_cons_zero] at u0 u1 u2 u3 u4 u5) | (go_at_call 51; refine (H2.out _ HM.out).mono ?_; rintro e w2 ⟨rfl, hX⟩; have HX := Lib.hid hX; clear hX H2))
  go_ret
  exact ⟨rfl, HX.out⟩
set_option maxRecDepth 20000 in
set_option maxHeartbeats 8000000 in
theorem one1 (h : BX w0 w m q r most grace) (hm : m ≤ 1000) (key who : ByteArray) (hk : key.size ≤ 200) (hw : who.size ≤ 200) (at_ lease num : Int) (ha : -9223372036854775808 ≤ at_ ∧ at_ ≤ 9223372036854775807) (hl : -9223372036854775808 ≤ lease ∧ lease ≤ 9223372036854775807) :
    Calls Tryz.prog 17 #[.pointer (some ⟨q, 0, none⟩), .pointer (some ⟨r, 0, none⟩), stV 1 key who at_ lease num] w fun e w' => e = .returned (.bool true) ∧ BX w0 w' (m + 1) q r most grace := by
  have hb := Below.new w (.cells #[.int .u8 1, .string key, .string who, .int .i64 at_, .int .i64 lease, .int .i64 num] 42)
  have KX := Lib.hid (Blk.new w 42 [.int .u8 1, .string key, .string who, .int .i64 at_, .int .i64 lease, .int .i64 num])
  obtain ⟨k1, a1, b1, c1, M, h1, h2⟩ := pollB h hb hm who hw at_ lease ha (by omega)
  have H1 := Lib.hid h1
  have H2 := Lib.hid h2
  clear h1 h2 h hb
  unfold stV
  go_enter Tryz.func17, Tryz.ntmps17
  go_upto_region 1 with (fail)
  generalize w.alloc (.cells #[.int .u8 1, .string key, .string who, .int .i64 at_, .int .i64 lease, .int .i64 num] 42) = X at *
  generalize w.heap.size = b at *
  have u0 := KX.out.cell 0
  have u1 := KX.out.cell 1
  have u2 := KX.out.cell 2
  have u3 := KX.out.cell 3
  have u4 := KX.out.cell 4
  have u5 := KX.out.cell 5
  simp only [List.getElem?_cons_succ, List.getElem?_cons_zero] at u0 u1 u2 u3 u4 u5
  go_wp2_with (first | (go_at_call 14; refine H1.out.mono ?_; rintro e w1 ⟨rfl, hM, hT⟩; have HM := Lib.hid hM; have K1 := Lib.hid (KX.out.turns hT (Nat.lt_irrefl _)); clear hM hT H1 u0 u1 u2 u3 u4 u5; have u0 := K1.out.cell 0; have u1 := K1.out.cell 1; have u2 := K1.out.cell 2; have u3 := K1.out.cell 3; have u4 := K1.out.cell 4; have u5 := K1.out.cell 5; simp only [List.getElem?_cons_succ, List.getElem?_cons_zero] at u0 u1 u2 u3 u4 u5) | (go_at_call 52; refine (H2.out _ HM.out).mono ?_; rintro e w2 ⟨rfl, hX⟩; have HX := Lib.hid hX; clear hX H2))
  go_ret
  exact ⟨rfl, HX.out⟩
set_option maxRecDepth 20000 in
set_option maxHeartbeats 8000000 in
theorem one2 (h : BX w0 w m q r most grace) (hm : m ≤ 1000) (key who : ByteArray) (hk : key.size ≤ 200) (hw : who.size ≤ 200) (at_ lease num : Int) (ha : -9223372036854775808 ≤ at_ ∧ at_ ≤ 9223372036854775807) (hl : -9223372036854775808 ≤ lease ∧ lease ≤ 9223372036854775807) :
    Calls Tryz.prog 17 #[.pointer (some ⟨q, 0, none⟩), .pointer (some ⟨r, 0, none⟩), stV 2 key who at_ lease num] w fun e w' => e = .returned (.bool true) ∧ BX w0 w' (m + 1) q r most grace := by
  have hb := Below.new w (.cells #[.int .u8 2, .string key, .string who, .int .i64 at_, .int .i64 lease, .int .i64 num] 42)
  have KX := Lib.hid (Blk.new w 42 [.int .u8 2, .string key, .string who, .int .i64 at_, .int .i64 lease, .int .i64 num])
  obtain ⟨v, M, h1, h2⟩ := beatB h hb num at_ lease ha (by omega)
  have H1 := Lib.hid h1
  have H2 := Lib.hid h2
  clear h1 h2 h hb
  unfold stV
  go_enter Tryz.func17, Tryz.ntmps17
  go_upto_region 1 with (fail)
  generalize w.alloc (.cells #[.int .u8 2, .string key, .string who, .int .i64 at_, .int .i64 lease, .int .i64 num] 42) = X at *
  generalize w.heap.size = b at *
  have u0 := KX.out.cell 0
  have u1 := KX.out.cell 1
  have u2 := KX.out.cell 2
  have u3 := KX.out.cell 3
  have u4 := KX.out.cell 4
  have u5 := KX.out.cell 5
  simp only [List.getElem?_cons_succ, List.getElem?_cons_zero] at u0 u1 u2 u3 u4 u5
  go_wp2_with (first | (go_at_call 53; refine H1.out.mono ?_; rintro e w1 ⟨rfl, hM, hT⟩; have HM := Lib.hid hM; have K1 := Lib.hid (KX.out.turns hT (Nat.lt_irrefl _)); clear hM hT H1 u0 u1 u2 u3 u4 u5; have u0 := K1.out.cell 0; have u1 := K1.out.cell 1; have u2 := K1.out.cell 2; have u3 := K1.out.cell 3; have u4 := K1.out.cell 4; have u5 := K1.out.cell 5; simp only [List.getElem?_cons_succ, List.getElem?_cons_zero] at u0 u1 u2 u3 u4 u5) | (go_at_call 54; refine (H2.out _ HM.out).mono ?_; rintro e w2 ⟨rfl, hX⟩; have HX := Lib.hid hX; clear hX H2))
  go_ret
  exact ⟨rfl, HX.out⟩
set_option maxRecDepth 20000 in
set_option maxHeartbeats 8000000 in
theorem one3 (h : BX w0 w m q r most grace) (hm : m ≤ 1000) (key who : ByteArray) (hk : key.size ≤ 200) (hw : who.size ≤ 200) (at_ lease num : Int) (ha : -9223372036854775808 ≤ at_ ∧ at_ ≤ 9223372036854775807) (hl : -9223372036854775808 ≤ lease ∧ lease ≤ 9223372036854775807) :
    Calls Tryz.prog 17 #[.pointer (some ⟨q, 0, none⟩), .pointer (some ⟨r, 0, none⟩), stV 3 key who at_ lease num] w fun e w' => e = .returned (.bool true) ∧ BX w0 w' (m + 1) q r most grace := by
  have hb := Below.new w (.cells #[.int .u8 3, .string key, .string who, .int .i64 at_, .int .i64 lease, .int .i64 num] 42)
  have KX := Lib.hid (Blk.new w 42 [.int .u8 3, .string key, .string who, .int .i64 at_, .int .i64 lease, .int .i64 num])
  obtain ⟨k1, a1, b1, M, h1, h2⟩ := doneB h hb num
  have H1 := Lib.hid h1
  have H2 := Lib.hid h2
  clear h1 h2 h hb
  unfold stV
  go_enter Tryz.func17, Tryz.ntmps17
  go_upto_region 1 with (fail)
  generalize w.alloc (.cells #[.int .u8 3, .string key, .string who, .int .i64 at_, .int .i64 lease, .int .i64 num] 42) = X at *
  generalize w.heap.size = b at *
  have u0 := KX.out.cell 0
  have u1 := KX.out.cell 1
  have u2 := KX.out.cell 2
  have u3 := KX.out.cell 3
  have u4 := KX.out.cell 4
  have u5 := KX.out.cell 5
  simp only [List.getElem?_cons_succ, List.getElem?_cons_zero] at u0 u1 u2 u3 u4 u5
  go_wp2_with (first | (go_at_call 18; refine H1.out.mono ?_; rintro e w1 ⟨rfl, hM, hT⟩; have HM := Lib.hid hM; have K1 := Lib.hid (KX.out.turns hT (Nat.lt_irrefl _)); clear hM hT H1 u0 u1 u2 u3 u4 u5; have u0 := K1.out.cell 0; have u1 := K1.out.cell 1; have u2 := K1.out.cell 2; have u3 := K1.out.cell 3; have u4 := K1.out.cell 4; have u5 := K1.out.cell 5; simp only [List.getElem?_cons_succ, List.getElem?_cons_zero] at u0 u1 u2 u3 u4 u5) | (go_at_call 55; refine (H2.out _ HM.out).mono ?_; rintro e w2 ⟨rfl, hX⟩; have HX := Lib.hid hX; clear hX H2))
  go_ret
  exact ⟨rfl, HX.out⟩
set_option maxRecDepth 20000 in
set_option maxHeartbeats 8000000 in
theorem one4 (h : BX w0 w m q r most grace) (hm : m ≤ 1000) (key who : ByteArray) (hk : key.size ≤ 200) (hw : who.size ≤ 200) (at_ lease num : Int) (ha : -9223372036854775808 ≤ at_ ∧ at_ ≤ 9223372036854775807) (hl : -9223372036854775808 ≤ lease ∧ lease ≤ 9223372036854775807) :
    Calls Tryz.prog 17 #[.pointer (some ⟨q, 0, none⟩), .pointer (some ⟨r, 0, none⟩), stV 4 key who at_ lease num] w fun e w' => e = .returned (.bool true) ∧ BX w0 w' (m + 1) q r most grace := by
  have hb := Below.new w (.cells #[.int .u8 4, .string key, .string who, .int .i64 at_, .int .i64 lease, .int .i64 num] 42)
  have KX := Lib.hid (Blk.new w 42 [.int .u8 4, .string key, .string who, .int .i64 at_, .int .i64 lease, .int .i64 num])
  obtain ⟨k1, a1, b1, M, h1, h2⟩ := backB h hb hm num at_ ha
  have H1 := Lib.hid h1
  have H2 := Lib.hid h2
  clear h1 h2 h hb
  unfold stV
  go_enter Tryz.func17, Tryz.ntmps17
  go_upto_region 1 with (fail)
  generalize w.alloc (.cells #[.int .u8 4, .string key, .string who, .int .i64 at_, .int .i64 lease, .int .i64 num] 42) = X at *
  generalize w.heap.size = b at *
  have u0 := KX.out.cell 0
  have u1 := KX.out.cell 1
  have u2 := KX.out.cell 2
  have u3 := KX.out.cell 3
  have u4 := KX.out.cell 4
  have u5 := KX.out.cell 5
  simp only [List.getElem?_cons_succ, List.getElem?_cons_zero] at u0 u1 u2 u3 u4 u5
  go_wp2_with (first | (go_at_call 56; refine H1.out.mono ?_; rintro e w1 ⟨rfl, hM, hT⟩; have HM := Lib.hid hM; have K1 := Lib.hid (KX.out.turns hT (Nat.lt_irrefl _)); clear hM hT H1 u0 u1 u2 u3 u4 u5; have u0 := K1.out.cell 0; have u1 := K1.out.cell 1; have u2 := K1.out.cell 2; have u3 := K1.out.cell 3; have u4 := K1.out.cell 4; have u5 := K1.out.cell 5; simp only [List.getElem?_cons_succ, List.getElem?_cons_zero] at u0 u1 u2 u3 u4 u5) | (go_at_call 57; refine (H2.out _ HM.out).mono ?_; rintro e w2 ⟨rfl, hX⟩; have HX := Lib.hid hX; clear hX H2))
  go_ret
  exact ⟨rfl, HX.out⟩
set_option maxRecDepth 20000 in
set_option maxHeartbeats 8000000 in
theorem one5 (h : BX w0 w m q r most grace) (hm : m ≤ 1000) (key who : ByteArray) (hk : key.size ≤ 200) (hw : who.size ≤ 200) (at_ lease num : Int) (ha : -9223372036854775808 ≤ at_ ∧ at_ ≤ 9223372036854775807) (hl : -9223372036854775808 ≤ lease ∧ lease ≤ 9223372036854775807) :
    Calls Tryz.prog 17 #[.pointer (some ⟨q, 0, none⟩), .pointer (some ⟨r, 0, none⟩), stV 5 key who at_ lease num] w fun e w' => e = .returned (.bool true) ∧ BX w0 w' (m + 1) q r most grace := by
  have hb := Below.new w (.cells #[.int .u8 5, .string key, .string who, .int .i64 at_, .int .i64 lease, .int .i64 num] 42)
  have KX := Lib.hid (Blk.new w 42 [.int .u8 5, .string key, .string who, .int .i64 at_, .int .i64 lease, .int .i64 num])
  obtain ⟨v, M, h1, h2⟩ := dropB h hb key
  have H1 := Lib.hid h1
  have H2 := Lib.hid h2
  clear h1 h2 h hb
  unfold stV
  go_enter Tryz.func17, Tryz.ntmps17
  go_upto_region 1 with (fail)
  generalize w.alloc (.cells #[.int .u8 5, .string key, .string who, .int .i64 at_, .int .i64 lease, .int .i64 num] 42) = X at *
  generalize w.heap.size = b at *
  have u0 := KX.out.cell 0
  have u1 := KX.out.cell 1
  have u2 := KX.out.cell 2
  have u3 := KX.out.cell 3
  have u4 := KX.out.cell 4
  have u5 := KX.out.cell 5
  simp only [List.getElem?_cons_succ, List.getElem?_cons_zero] at u0 u1 u2 u3 u4 u5
  go_wp2_with (first | (go_at_call 15; refine H1.out.mono ?_; rintro e w1 ⟨rfl, hM, hT⟩; have HM := Lib.hid hM; have K1 := Lib.hid (KX.out.turns hT (Nat.lt_irrefl _)); clear hM hT H1 u0 u1 u2 u3 u4 u5; have u0 := K1.out.cell 0; have u1 := K1.out.cell 1; have u2 := K1.out.cell 2; have u3 := K1.out.cell 3; have u4 := K1.out.cell 4; have u5 := K1.out.cell 5; simp only [List.getElem?_cons_succ, List.getElem?_cons_zero] at u0 u1 u2 u3 u4 u5) | (go_at_call 58; refine (H2.out _ HM.out).mono ?_; rintro e w2 ⟨rfl, hX⟩; have HX := Lib.hid hX; clear hX H2))
  go_ret
  exact ⟨rfl, HX.out⟩
theorem BX.up (h : BX w0 w m q r most grace) : BX w0 w (m + 1) q r most grace := by
  obtain ⟨next, wv, iv, av, ts, zs, I, Z, O, T, om, tm, h⟩ := h
  exact ⟨next, wv, iv, av, ts, zs, I, Z, O, T, om, tm, h.qs, h.pi.up, h.rq, h.hI, h.hZ, h.ap, h.loQ, h.loR, h.B, h.bnd⟩
theorem over_strip (zs : List Ot) (now : Int) : ((zs.map strip).filter (over now)).flatMap ouC = (zs.filter (over now)).flatMap ouC ∧ ((zs.map strip).filter (over now)).length = (zs.filter (over now)).length := by
  rw [List.filter_map, List.flatMap_map, List.length_map]
  exact ⟨rfl, rfl⟩
theorem expireB (h : BX w0 w m q r most grace) (hm : m ≤ 1000) (at_ : Int) :
    ∃ (n : Nat) (L : List Ot), L.length = n ∧ (∀ wz, Below w.heap.size w wz → Calls Tryz.prog 59 #[.pointer (some ⟨q, 0, none⟩), .int .i64 at_] wz (fun e w1 => ∃ v, e = .returned v ∧ w1.ownsRow wz.heap.size 74 3 v n (L.flatMap ouC) ∧ Below wz.heap.size wz w1)) ∧
      ∀ w1, Below w.heap.size w w1 → Calls Tryz.prog 60 #[.pointer (some ⟨r, 0, none⟩), .int .i64 at_] w1 (fun e w2 => ∃ v, e = .returned v ∧ w2.ownsRow w1.heap.size 74 3 v n (L.flatMap ouC) ∧ Below w1.heap.size w1 w2) := by
  obtain ⟨next, wv, iv, av, ts, zs, I, Z, O, T, om, tm, h⟩ := h
  have hl := h.pi.len
  refine ⟨_, zs.filter (over at_), rfl, fun wz hz => expireQ wz q most grace next wv ts O T om tm (h.qs.bel hz) zs h.pi.outs.s (h.pi.ok hm) (by omega) at_, fun w1 hb => ?_⟩
  have e1 := over_strip Z at_
  have e2 := over_strip zs at_
  rw [h.hZ] at e1
  have := rqExpire w1 r most grace (next - 1) iv av I Z (h.rq.bel hb) at_
  rwa [← e1.1, e2.1, ← e1.2, e2.2] at this
set_option maxRecDepth 20000 in
set_option maxHeartbeats 8000000 in
theorem one6 (h : BX w0 w m q r most grace) (hm : m ≤ 1000) (key who : ByteArray) (hk : key.size ≤ 200) (hw : who.size ≤ 200) (at_ lease num : Int) (ha : -9223372036854775808 ≤ at_ ∧ at_ ≤ 9223372036854775807) (hl : -9223372036854775808 ≤ lease ∧ lease ≤ 9223372036854775807) :
    Calls Tryz.prog 17 #[.pointer (some ⟨q, 0, none⟩), .pointer (some ⟨r, 0, none⟩), stV 6 key who at_ lease num] w fun e w' => e = .returned (.bool true) ∧ BX w0 w' (m + 1) q r most grace := by
  have hb := Below.new w (.cells #[.int .u8 6, .string key, .string who, .int .i64 at_, .int .i64 lease, .int .i64 num] 42)
  have KX := Lib.hid (Blk.new w 42 [.int .u8 6, .string key, .string who, .int .i64 at_, .int .i64 lease, .int .i64 num])
  have HX0 := Lib.hid (h.bel hb).up
  obtain ⟨n, L, hn, h1, h2⟩ := expireB (h.bel hb) hm at_
  have H1 := Lib.hid h1
  have H2 := Lib.hid h2
  clear h1 h2 h hb
  unfold stV
  go_enter Tryz.func17, Tryz.ntmps17
  go_upto_region 1 with (fail)
  generalize w.alloc (.cells #[.int .u8 6, .string key, .string who, .int .i64 at_, .int .i64 lease, .int .i64 num] 42) = X at *
  generalize w.heap.size = b at *
  have u0 := KX.out.cell 0
  have u1 := KX.out.cell 1
  have u2 := KX.out.cell 2
  have u3 := KX.out.cell 3
  have u4 := KX.out.cell 4
  have u5 := KX.out.cell 5
  simp only [List.getElem?_cons_succ, List.getElem?_cons_zero] at u0 u1 u2 u3 u4 u5
  have HB0 := Lib.hid (below_drewN' (Below.refl X.heap.size X) 1)
  have HE := Lib.hid (H1.out X.drew HB0.out)
  go_upto_region 24 with (fail)
  go_region_law (go_simp; (first | (go_at_call 59; refine HE.out.mono ?_; rintro e w1 ⟨v1, rfl, hr1, hb1⟩; obtain ⟨A1, c1, rfl⟩ := own_slice' hr1; have R1 := Lib.hid hr1; have B1 := Lib.hid hb1; have K1 := Lib.hid (KX.out.bel (HB0.out.trans hb1)); clear hr1 hb1 HE; have y3 := K1.out.cell 3; simp only [List.getElem?_cons_succ, List.getElem?_cons_zero] at y3) | (go_at_call 60; refine (H2.out _ (HB0.out.trans B1.out)).mono ?_; rintro e w2 ⟨v2, rfl, hr2, hb2⟩; obtain ⟨A2, c2, rfl⟩ := own_slice' hr2; have R2 := Lib.hid hr2; have B2 := Lib.hid hb2; have HS := Lib.hid (rqSame w2 _ _ n _ _ L hn (own_turns R1.out (.of_below (S := fun _ => False) hb2) (fun _ _ => id)) hr2); clear hr2 hb2 H2) | (go_at_call 33; refine HS.out.mono ?_; rintro e w3 ⟨rfl, nd, rfl⟩; clear HS)))
  all_goals
    go_wp2_with fail
    go_ret
    exact ⟨rfl, (((HX0.out.bel HB0.out).bel B1.out).bel B2.out).bel (below_drewN' (Below.refl _ _) nd)⟩
set_option maxRecDepth 20000 in
set_option maxHeartbeats 8000000 in
theorem oneN (h : BX w0 w m q r most grace) (hm : m ≤ 1000) (key who : ByteArray) (hk : key.size ≤ 200) (hw : who.size ≤ 200) (at_ lease num : Int) (ha : -9223372036854775808 ≤ at_ ∧ at_ ≤ 9223372036854775807) (hl : -9223372036854775808 ≤ lease ∧ lease ≤ 9223372036854775807) (d : Int) (hd : d ≠ 0 ∧ d ≠ 1 ∧ d ≠ 2 ∧ d ≠ 3 ∧ d ≠ 4 ∧ d ≠ 5 ∧ d ≠ 6) :
    Calls Tryz.prog 17 #[.pointer (some ⟨q, 0, none⟩), .pointer (some ⟨r, 0, none⟩), stV d key who at_ lease num] w fun e w' => e = .returned (.bool true) ∧ BX w0 w' (m + 1) q r most grace := by
  have hb := Below.new w (.cells #[.int .u8 d, .string key, .string who, .int .i64 at_, .int .i64 lease, .int .i64 num] 42)
  have HX := Lib.hid (h.bel hb).up
  obtain ⟨d0, d1, d2, d3, d4, d5, d6⟩ := hd
  have e0 : (d == 0) = false := beq_eq_false_iff_ne.2 d0
  have e1 : (d == 1) = false := beq_eq_false_iff_ne.2 d1
  have e2 : (d == 2) = false := beq_eq_false_iff_ne.2 d2
  have e3 : (d == 3) = false := beq_eq_false_iff_ne.2 d3
  have e4 : (d == 4) = false := beq_eq_false_iff_ne.2 d4
  have e5 : (d == 5) = false := beq_eq_false_iff_ne.2 d5
  have e6 : (d == 6) = false := beq_eq_false_iff_ne.2 d6
  clear h hb
  unfold stV
  go_enter Tryz.func17, Tryz.ntmps17
  go_wp2_with fail
  go_ret
  exact ⟨rfl, HX.out⟩
theorem one_any (h : BX w0 w m q r most grace) (hm : m ≤ 1000) (d : Int) (key who : ByteArray) (hk : key.size ≤ 200) (hw : who.size ≤ 200) (at_ lease num : Int) (ha : -9223372036854775808 ≤ at_ ∧ at_ ≤ 9223372036854775807) (hl : -9223372036854775808 ≤ lease ∧ lease ≤ 9223372036854775807) :
    Calls Tryz.prog 17 #[.pointer (some ⟨q, 0, none⟩), .pointer (some ⟨r, 0, none⟩), stV d key who at_ lease num] w fun e w' => e = .returned (.bool true) ∧ BX w0 w' (m + 1) q r most grace := by
  by_cases e0 : d = 0
  · subst e0; exact one0 h hm key who hk hw at_ lease num ha hl
  by_cases e1 : d = 1
  · subst e1; exact one1 h hm key who hk hw at_ lease num ha hl
  by_cases e2 : d = 2
  · subst e2; exact one2 h hm key who hk hw at_ lease num ha hl
  by_cases e3 : d = 3
  · subst e3; exact one3 h hm key who hk hw at_ lease num ha hl
  by_cases e4 : d = 4
  · subst e4; exact one4 h hm key who hk hw at_ lease num ha hl
  by_cases e5 : d = 5
  · subst e5; exact one5 h hm key who hk hw at_ lease num ha hl
  by_cases e6 : d = 6
  · subst e6; exact one6 h hm key who hk hw at_ lease num ha hl
  exact oneN h hm key who hk hw at_ lease num ha hl d ⟨e0, e1, e2, e3, e4, e5, e6⟩
end
end Go.Proofs.YtpbheicfplpemaaGreat

namespace Go.Proofs.YtpbheicfplpemaaGreat
open Go.ChangeShapes Go.WideShapes Go.Deep

section
variable {H : Type} {enc : TypeId × Value → H} {P : Program} {w : World} {base : Nat} {spare : Nat → Bool} {held : Bool}
theorem open_rows {t e : TypeId} {fs : Array Field} {fuel : Nat} {cs : List Value} {x : DataW H × List MemPlace} (ht : P.underlying t = some (.slice e)) (he : P.underlying e = some (.struct fs))
    (hone : oneCellFields P fs = true) (hC : P.cellsOf e = fs.size) (h : DataW.trod enc P w base spare held fuel t cs = some x) :
    cs = [.slice none 0 0] ∨
    ∃ (a : Addr) (len cap : Nat), cs = [.slice (some a) len cap] ∧ len ≤ cap ∧ cap ≤ maxLen ∧
      ∀ i, i < len → ∀ (j : Nat) (f : Field), fs[j]? = some f → ∃ (v : Value) (y : DataW H × List MemPlace) (n : Nat), w.cell? (a.add (i * fs.size + j)) = some v ∧ DataW.trod enc P w base spare held n f.type [v] = some y := by
  rcases open_slice ht h with h0 | ⟨a, len, cap, m, n, D, Pl, hcs, hb, hl, hm, hmm, hx, hi⟩
  · exact .inl h0.1
  · refine .inr ⟨a, len, cap, hcs, hl, hm, fun i hil => ?_⟩
    have him : i < m := by rw [hmm]; split <;> omega
    obtain ⟨cs', hc, ht'⟩ := hi i him
    rw [hC] at hc
    obtain ⟨ys, n', hn', hy, hlen, hyl, hf⟩ := DataW.trod_struct he ht'
    obtain ⟨_, hcl, hat⟩ := World.cells?_some hc
    intro j f hj
    obtain ⟨ho, hk⟩ := hone_of hone j f hj
    have hjl : j < fs.size := (Array.getElem?_eq_some_iff.1 hj).1
    have hcell := hat j hjl
    have hv : cs'[j]? = some (cs'[j]'(by omega)) := List.getElem?_eq_getElem (by omega)
    have h1 := hf j f hj
    rw [ho, hk] at h1
    have hone' : (cs'.drop j).take 1 = [cs'[j]'(by omega)] := by
      rw [List.drop_eq_getElem_cons (by omega)]
      rfl
    rw [hone'] at h1
    have hys : ys[j]? = some (ys[j]'(by omega)) := List.getElem?_eq_getElem (by omega)
    refine ⟨_, _, n', ?_, h1.trans hys⟩
    rw [← Go.Deep.add_add, hcell, hv]
end
theorem spot_none {w : World} {a : Addr} {v : Value} (h : w.cell? (a.add 0) = some v) : a.spot = none := by
  have e : a.add 0 = a := by simp [Addr.add]
  rw [e] at h
  unfold World.cell? at h
  split at h
  · split at h
    · cases h
    · rename_i hs
      cases hsp : a.spot with
      | none => rfl
      | some s => rw [hsp] at hs; simp at hs
  · cases h
theorem add_at {a : Addr} (h : a.spot = none) (n : Nat) : a.add n = ⟨a.block, a.off + n, none⟩ := by
  obtain ⟨b, o, s⟩ := a
  subst h
  unfold Addr.add
  split
  · subst_vars; rfl
  · rfl
end Go.Proofs.YtpbheicfplpemaaGreat

namespace Go.Proofs.YtpbheicfplpemaaGreat
open Go.RowKit Go.ChangeShapes Go.WideShapes Go.Deep

structure Sp where
  d : Int
  key : ByteArray
  who : ByteArray
  at_ : Int
  lease : Int
  num : Int
structure Stps (w : World) (a : Option Addr) (n : Nat) (S : Nat → Sp) : Prop where
  cell : ∀ i, i < n → ∃ b o, a = some ⟨b, o, none⟩ ∧ b < w.heap.size ∧ w.cell? ⟨b, o + i * 6, none⟩ = some (.int .u8 (S i).d) ∧ w.cell? ⟨b, o + i * 6 + 1, none⟩ = some (.string (S i).key) ∧ w.cell? ⟨b, o + i * 6 + 2, none⟩ = some (.string (S i).who) ∧ w.cell? ⟨b, o + i * 6 + 3, none⟩ = some (.int .i64 (S i).at_) ∧ w.cell? ⟨b, o + i * 6 + 4, none⟩ = some (.int .i64 (S i).lease) ∧ w.cell? ⟨b, o + i * 6 + 5, none⟩ = some (.int .i64 (S i).num)
  wf : ∀ i, i < n → (-9223372036854775808 ≤ (S i).at_ ∧ (S i).at_ ≤ 9223372036854775807) ∧ (-9223372036854775808 ≤ (S i).lease ∧ (S i).lease ≤ 9223372036854775807) ∧ (-9223372036854775808 ≤ (S i).num ∧ (S i).num ≤ 9223372036854775807)
theorem Stps.bel {w w' : World} {a : Option Addr} {n : Nat} {S : Nat → Sp} (h : Stps w a n S) (hb : Below w.heap.size w w') : Stps w' a n S :=
  ⟨fun i hi => by
    obtain ⟨b, o, e, hl, c0, c1, c2, c3, c4, c5⟩ := h.cell i hi
    exact ⟨b, o, e, Nat.lt_of_lt_of_le hl hb.size, (hb.cell (p := ⟨b, _, none⟩) hl).trans c0, (hb.cell (p := ⟨b, _, none⟩) hl).trans c1, (hb.cell (p := ⟨b, _, none⟩) hl).trans c2, (hb.cell (p := ⟨b, _, none⟩) hl).trans c3, (hb.cell (p := ⟨b, _, none⟩) hl).trans c4, (hb.cell (p := ⟨b, _, none⟩) hl).trans c5⟩, h.wf⟩
instance sp_inhabited : Inhabited Sp := ⟨⟨0, ⟨#[]⟩, ⟨#[]⟩, 0, 0, 0⟩⟩
theorem step_one : oneCellFields Tryz.prog (Tryz.prog.fieldsOf 42) = true := by kernel_rfl
theorem step_cells : Tryz.prog.cellsOf 42 = (Tryz.prog.fieldsOf 42).size := by kernel_rfl
theorem step_struct : Tryz.prog.underlying 42 = some (.struct (Tryz.prog.fieldsOf 42)) := by kernel_rfl
theorem step_size : (Tryz.prog.fieldsOf 42).size = 6 := by kernel_rfl
theorem step_t0 : ((Tryz.prog.fieldsOf 42)[0]?).map (fun f => f.type) = some 5 := by kernel_rfl
theorem step_f0 : ∃ f, (Tryz.prog.fieldsOf 42)[0]? = some f ∧ f.type = 5 := Option.map_eq_some_iff.1 step_t0
theorem step_t1 : ((Tryz.prog.fieldsOf 42)[1]?).map (fun f => f.type) = some 9 := by kernel_rfl
theorem step_f1 : ∃ f, (Tryz.prog.fieldsOf 42)[1]? = some f ∧ f.type = 9 := Option.map_eq_some_iff.1 step_t1
theorem step_t2 : ((Tryz.prog.fieldsOf 42)[2]?).map (fun f => f.type) = some 9 := by kernel_rfl
theorem step_f2 : ∃ f, (Tryz.prog.fieldsOf 42)[2]? = some f ∧ f.type = 9 := Option.map_eq_some_iff.1 step_t2
theorem step_t3 : ((Tryz.prog.fieldsOf 42)[3]?).map (fun f => f.type) = some 2 := by kernel_rfl
theorem step_f3 : ∃ f, (Tryz.prog.fieldsOf 42)[3]? = some f ∧ f.type = 2 := Option.map_eq_some_iff.1 step_t3
theorem step_t4 : ((Tryz.prog.fieldsOf 42)[4]?).map (fun f => f.type) = some 2 := by kernel_rfl
theorem step_f4 : ∃ f, (Tryz.prog.fieldsOf 42)[4]? = some f ∧ f.type = 2 := Option.map_eq_some_iff.1 step_t4
theorem step_t5 : ((Tryz.prog.fieldsOf 42)[5]?).map (fun f => f.type) = some 3 := by kernel_rfl
theorem step_f5 : ∃ f, (Tryz.prog.fieldsOf 42)[5]? = some f ∧ f.type = 3 := Option.map_eq_some_iff.1 step_t5
theorem choose_lt {T : Type} [Inhabited T] {P : Nat → T → Prop} {n : Nat} (h : ∀ i, i < n → ∃ t, P i t) : ∃ f : Nat → T, ∀ i, i < n → P i (f i) := by
  refine ⟨fun i => if hi : i < n then Classical.choose (h i hi) else default, fun i hi => ?_⟩
  show P i (if hi : i < n then Classical.choose (h i hi) else default)
  rw [dif_pos hi]
  exact Classical.choose_spec (h i hi)
set_option maxHeartbeats 1600000 in
theorem steps_of {H : Type} {enc : TypeId × Value → H} {w : World} {base : Nat} {spare : Nat → Bool} {held : Bool} {fuel : Nat} {a : Option Addr} {n c : Nat} {x : DataW H × List MemPlace}
    (h : DataW.trod enc Tryz.prog w base spare held fuel 33 [.slice a n c] = some x) : ∃ S, Stps w a n S := by
  rcases open_rows Tryz.underlying33 step_struct step_one step_cells h with e | ⟨a', len, cap, e, hl, hm, hf⟩
  · simp at e
    obtain ⟨rfl, rfl, rfl⟩ := e
    exact ⟨fun _ => default, ⟨fun i hi => absurd hi (Nat.not_lt_zero _), fun i hi => absurd hi (Nat.not_lt_zero _)⟩⟩
  · simp at e
    obtain ⟨rfl, rfl, rfl⟩ := e
    obtain ⟨f0, g0, t0⟩ := step_f0
    obtain ⟨f1, g1, t1⟩ := step_f1
    obtain ⟨f2, g2, t2⟩ := step_f2
    obtain ⟨f3, g3, t3⟩ := step_f3
    obtain ⟨f4, g4, t4⟩ := step_f4
    obtain ⟨f5, g5, t5⟩ := step_f5
    rw [step_size] at hf
    have key : ∀ i, i < n → ∃ s : Sp, (∃ b o, some a' = some (⟨b, o, none⟩ : Addr) ∧ b < w.heap.size ∧ w.cell? ⟨b, o + i * 6, none⟩ = some (.int .u8 s.d) ∧ w.cell? ⟨b, o + i * 6 + 1, none⟩ = some (.string s.key) ∧ w.cell? ⟨b, o + i * 6 + 2, none⟩ = some (.string s.who) ∧ w.cell? ⟨b, o + i * 6 + 3, none⟩ = some (.int .i64 s.at_) ∧ w.cell? ⟨b, o + i * 6 + 4, none⟩ = some (.int .i64 s.lease) ∧ w.cell? ⟨b, o + i * 6 + 5, none⟩ = some (.int .i64 s.num)) ∧ (-9223372036854775808 ≤ s.at_ ∧ s.at_ ≤ 9223372036854775807) ∧ (-9223372036854775808 ≤ s.lease ∧ s.lease ≤ 9223372036854775807) ∧ (-9223372036854775808 ≤ s.num ∧ s.num ≤ 9223372036854775807) := fun i hi => by
      obtain ⟨v, _, _, hz, _⟩ := hf 0 (by omega) 0 f0 g0
      have hs := spot_none (by simpa using hz)
      obtain ⟨v0, y0, n0, c0, k0⟩ := hf i hi 0 f0 g0
      obtain ⟨v1, y1, n1, c1, k1⟩ := hf i hi 1 f1 g1
      obtain ⟨v2, y2, n2, c2, k2⟩ := hf i hi 2 f2 g2
      obtain ⟨v3, y3, n3, c3, k3⟩ := hf i hi 3 f3 g3
      obtain ⟨v4, y4, n4, c4, k4⟩ := hf i hi 4 f4 g4
      obtain ⟨v5, y5, n5, c5, k5⟩ := hf i hi 5 f5 g5
      rw [t0] at k0
      rw [t1] at k1
      rw [t2] at k2
      rw [t3] at k3
      rw [t4] at k4
      rw [t5] at k5
      obtain ⟨z0, e0, _, q0⟩ := DataW.trod_int Tryz.underlying5 k0
      obtain ⟨z1, e1, _, q1⟩ := DataW.trod_string Tryz.underlying9 k1
      obtain ⟨z2, e2, _, q2⟩ := DataW.trod_string Tryz.underlying9 k2
      obtain ⟨z3, e3, _, q3⟩ := DataW.trod_int Tryz.underlying2 k3
      obtain ⟨z4, e4, _, q4⟩ := DataW.trod_int Tryz.underlying2 k4
      obtain ⟨z5, e5, _, q5⟩ := DataW.trod_int Tryz.underlying3 k5
      simp only [List.cons.injEq, and_true] at e0 e1 e2 e3 e4 e5
      subst e0 e1 e2 e3 e4 e5
      have hb := World.block_lt_of_cell? w _ c0
      rw [add_at hs] at hb c0 c1 c2 c3 c4 c5
      have b3 := bounds_i64 q3
      have b4 := bounds_i64 q4
      have b5 := bounds_i64 q5
      refine ⟨⟨z0, z1, z2, z3, z4, z5⟩, ⟨a'.block, a'.off, ?_, hb, c0, ?_, ?_, ?_, ?_, ?_⟩, by simp only; omega, by simp only; omega, by simp only; omega⟩
      · obtain ⟨b, o, s⟩ := a'
        simp only at hs
        subst hs
        rfl
      · rw [Nat.add_assoc]; exact c1
      · rw [Nat.add_assoc]; exact c2
      · rw [Nat.add_assoc]; exact c3
      · rw [Nat.add_assoc]; exact c4
      · rw [Nat.add_assoc]; exact c5
    obtain ⟨S, hS⟩ := choose_lt key
    exact ⟨S, ⟨fun i hi => (hS i hi).1, fun i hi => (hS i hi).2⟩⟩
end Go.Proofs.YtpbheicfplpemaaGreat

namespace Go.Proofs.YtpbheicfplpemaaGreat
open Go.RowKit

def LongY (w : World) (n : Nat) (S : Nat → Sp) (e : Ending) (w' : World) : Prop := ∃ b, e = .returned (.bool b) ∧ (b = false → n ≤ 100 ∧ ∀ i, i < n → (S i).key.size ≤ 200 ∧ (S i).who.size ≤ 200) ∧ w' = w
set_option maxRecDepth 20000 in
set_option maxHeartbeats 1600000 in
theorem long_any (w : World) (a : Option Addr) (n c : Nat) (S : Nat → Sp) (h : Stps w a n S) : Calls Tryz.prog 9 #[.slice a n c] w (LongY w n S) := by
  have HS := Lib.hid h
  clear h
  go_enter Tryz.func9, Tryz.ntmps9
  go_wp2_with fail
  go_loopw [3] (fun iv wr => ∃ k : Nat, k ≤ n ∧ k ≤ 100 ∧ iv = .int .i64 (k : Int) ∧ wr = w ∧ Hid (∀ i, i < k → (S i).key.size ≤ 200 ∧ (S i).who.size ≤ 200)) (fun iv _ => n - (intOf iv).toNat)
  case atStart => exact ⟨0, by omega, by omega, rfl, rfl, Lib.hid (fun i hi => absurd hi (Nat.not_lt_zero _))⟩
  case round =>
    obtain ⟨k, hk, hk2, rfl, rfl, hA⟩ := hrel
    by_cases hlt : k < n
    · have hlt1 : (k : Int) < (n : Int) := by omega
      by_cases hlt2 : k < 100
      · have hlt3 : (k : Int) < 100 := by omega
        obtain ⟨b, o, rfl, hl, c0, c1, c2, c3, c4, c5⟩ := HS.out.cell k hlt
        by_cases h1 : 200 < (S k).key.size
        · have h1' : (200 : Int) < ((S k).key.size : Int) := by omega
          go_wp2_with fail
          go_ret
          exact ⟨true, rfl, fun h => (by cases h), rfl⟩
        · have h1' : ¬ (200 : Int) < ((S k).key.size : Int) := by omega
          by_cases h2 : 200 < (S k).who.size
          · have h2' : (200 : Int) < ((S k).who.size : Int) := by omega
            go_wp2_with fail
            go_ret
            exact ⟨true, rfl, fun h => (by cases h), rfl⟩
          · have h2' : ¬ (200 : Int) < ((S k).who.size : Int) := by omega
            go_wp2_with fail
            go_roundw
            case measure => simp only [intOf]; omega
            case rel => exact ⟨k + 1, by omega, by omega, by go_num, by first | rfl | trivial, Lib.hid (fun i hi => by
              by_cases e : i = k
              · subst e; exact ⟨by omega, by omega⟩
              · exact hA.out i (by omega))⟩
      · have hlt3 : ¬ (k : Int) < 100 := by omega
        have hn3 : decide (100 < (n : Int)) = true := decide_eq_true (by omega)
        go_wp2_with fail
        go_ret
        exact ⟨true, rfl, fun h => (by cases h), rfl⟩
    · obtain rfl : k = n := by omega
      have hlt1 : ¬ (k : Int) < (k : Int) := by omega
      have hn3 : decide (100 < (k : Int)) = false := decide_eq_false (by omega)
      go_wp2_with fail
      go_ret
      exact ⟨false, rfl, fun _ => ⟨hk2, hA.out⟩, rfl⟩
theorem may_any (w : World) (most grace : Int) : Calls Tryz.prog 11 #[.int .i64 most, .int .i64 grace] w fun e w' => e = .returned (.bool (decide ((1 ≤ most ∧ most ≤ 4096) ∧ 0 ≤ grace))) ∧ w' = w := by
  by_cases h1 : 1 ≤ most
  · by_cases h2 : most ≤ 4096
    · by_cases h3 : 0 ≤ grace
      all_goals
        go_enter Tryz.func11, Tryz.ntmps11
        go_wp2_with fail
        go_ret
        first | exact ⟨rfl, rfl⟩ | (simp [h1, h2, h3]; done) | (simp [h1, h2, h3]; omega)
    · go_enter Tryz.func11, Tryz.ntmps11
      go_wp2_with fail
      go_ret
      first | (simp [h1, h2]; done) | (simp [h1, h2]; omega)
  · go_enter Tryz.func11, Tryz.ntmps11
    go_wp2_with fail
    go_ret
    first | (simp [h1]; done) | (simp [h1]; omega)
end Go.Proofs.YtpbheicfplpemaaGreat

namespace Go.Proofs.YtpbheicfplpemaaGreat
open Go.RowKit

theorem BX.start {w w3 : World} {q0 O T : Nat} {most grace : Int} (hb : (1 ≤ most ∧ most ≤ 4096) ∧ (0 ≤ grace ∧ grace ≤ 9223372036854775807)) (hq : QS w3 q0 most grace 1 (.slice none 0 0) [] O T (fun _ => none) (fun _ => none)) (hl : ∀ i, QSet q0 (.slice none 0 0) O T i → w.heap.size ≤ i) (hB : Below w.heap.size w w3) :
    BX w (w3.alloc (.cells #[.int .i64 most, .int .i64 grace, .int .i64 0, .slice none 0 0, .slice none 0 0] 40)) 0 q0 w3.heap.size most grace := by
  have hb4 := Below.new w3 (.cells #[.int .i64 most, .int .i64 grace, .int .i64 0, .slice none 0 0, .slice none 0 0] 40)
  have hR : ∀ i, RQSet w3.heap.size (.slice none 0 0) (.slice none 0 0) i → i = w3.heap.size := fun i hi => by
    rcases hi with e | e | e
    · exact e
    · cases e
    · cases e
  refine ⟨1, .slice none 0 0, .slice none 0 0, .slice none 0 0, [], [], [], [], O, T, _, _, hq.bel hb4, PI.nil, ⟨Blk.new w3 40 [.int .i64 most, .int .i64 grace, .int .i64 0, .slice none 0 0, .slice none 0 0], World.ownsRow_nil _ _ _ _, World.ownsRow_nil _ _ _ _, fun g hg => (by cases hg), (by simp)⟩, rfl, rfl, fun i hi hr => ?_, hl, fun i hi => ?_, hB.trans (hb4.mono hB.size), hb⟩
  · have := hq.lts i hi; have := hR i hr; omega
  · rw [hR i hi]; exact hB.size
set_option maxRecDepth 20000 in
set_option maxHeartbeats 16000000 in
theorem script_any (a : Option Addr) (n c : Nat) (S : Nat → Sp) (most grace : Int) (w : World) (hS : Stps w a n S) (hg : grace ≤ 9223372036854775807) :
    Calls Tryz.prog 4 #[.int .i64 most, .int .i64 grace, .slice a n c] w fun e w' => e = .returned (.bool true) ∧ Below w.heap.size w w' := by
  have HS := Lib.hid hS
  clear hS
  go_enter Tryz.func4, Tryz.ntmps4
  go_wp2_with fail
  refine (awake_any w).mono ?_
  rintro e w1 ⟨rfl, hb⟩
  have B1 := Lib.hid hb
  clear hb
  go_wp2_with fail
  refine (long_any w1 a n c S (HS.out.bel B1.out)).mono ?_
  rintro e w2 ⟨b, rfl, hbf, hw⟩
  subst w2
  cases b
  case true =>
    clear hbf
    go_wp2_with fail
    go_ret
    exact ⟨rfl, B1.out⟩
  case false =>
    obtain ⟨hn1, hsz⟩ := hbf rfl
    have HSZ := Lib.hid hsz
    clear hbf hsz
    by_cases hmay : (1 ≤ most ∧ most ≤ 4096) ∧ 0 ≤ grace
    · have hm := may_any
      have hN := Lib.hid (newQ w1 most grace hmay.1.1 hmay.1.2 hmay.2)
      have HM := Lib.hid (fun X => may_any X most grace)
      have hd : decide ((1 ≤ most ∧ most ≤ 4096) ∧ 0 ≤ grace) = true := decide_eq_true hmay
      rw [hd] at HM
      clear hm hd
      go_wp2_with (first | (go_at_call 10; refine hN.out.mono ?_; rintro e w3 ⟨q0, O, T, rfl, hq, hl, hb⟩; have B3 := Lib.hid (below_trans' B1.out hb); have HQ := Lib.hid hq; have HL := Lib.hid (show ∀ i, QSet q0 (.slice none 0 0) O T i → w.heap.size ≤ i from fun i hi => Nat.le_trans B1.out.size (hl i hi)); clear hq hl hb hN) | (go_at_call 11; refine (HM.out _).mono ?_; rintro e w4 ⟨rfl, hw⟩; subst w4; clear HM))
      have H0 := Lib.hid (BX.start (grace := grace) ⟨hmay.1, hmay.2, hg⟩ HQ.out HL.out B3.out)
      clear HQ HL
      generalize w3.heap.size = r at *
      generalize w3.alloc (.cells #[.int .i64 most, .int .i64 grace, .int .i64 0, .slice none 0 0, .slice none 0 0] 40) = W0 at *
      go_loopw [7, 10] (fun qv iv wr => ∃ (i q : Nat), i ≤ n ∧ qv = .pointer (some ⟨q, 0, none⟩) ∧ iv = .int .i64 (i : Int) ∧ Hid (BX w wr i q r most grace)) (fun _ iv _ => n - (intOf iv).toNat)
      case atStart => exact ⟨0, q0, by omega, rfl, rfl, H0⟩
      case round =>
        clear H0
        obtain ⟨i, q, hi, rfl, rfl, HB0⟩ := hrel
        by_cases hlt : i < n
        · have hlt1 : (i : Int) < (n : Int) := by omega
          have hWB : Hid (Below w.heap.size w wr) := Lib.hid (by obtain ⟨_, _, _, _, _, _, _, _, _, _, _, _, h⟩ := HB0.out; exact h.B)
          have HSi := Lib.hid (HS.out.bel hWB.out)
          obtain ⟨bs, os, rfl, hbs, d0, d1, d2, d3, d4, d5⟩ := HSi.out.cell i hlt
          obtain ⟨hat, hle, hnu⟩ := HSi.out.wf i hlt
          obtain ⟨hks, hws⟩ := HSZ.out i hlt
          generalize S i = s at *
          have hb := Below.new wr (.cells #[.int .u8 s.d, .string s.key, .string s.who, .int .i64 s.at_, .int .i64 s.lease, .int .i64 s.num] 42)
          have BW := Lib.hid hb
          have KX := Lib.hid (Blk.new wr 42 [.int .u8 s.d, .string s.key, .string s.who, .int .i64 s.at_, .int .i64 s.lease, .int .i64 s.num])
          clear hb
          go_upto_region 15 with (fail)
          clear d0 d1 d2 d3 d4 d5
          generalize wr.alloc (.cells #[.int .u8 s.d, .string s.key, .string s.who, .int .i64 s.at_, .int .i64 s.lease, .int .i64 s.num] 42) = X at *
          generalize hbb : wr.heap.size = b at *
          have HBB := Lib.hid hbb
          clear hbb
          have u0 := KX.out.cell 0
          have u1 := KX.out.cell 1
          have u2 := KX.out.cell 2
          have u3 := KX.out.cell 3
          have u4 := KX.out.cell 4
          have u5 := KX.out.cell 5
          simp only [List.getElem?_cons_succ, List.getElem?_cons_zero] at u0 u1 u2 u3 u4 u5
          by_cases e7 : s.d = 7
          · have e7b : (s.d == 7) = true := by rw [e7]; rfl
            have hTw := Lib.hid (twinB HB0.out (by have := BW.out; rw [← HBB.out] at this; exact this))
            go_wp2_with (first | (go_at_call 12; refine hTw.out.mono ?_; rintro e w1' ⟨q', S0, rfl, tb, ts0, tex, tall⟩; have TB := Lib.hid tb; have TS := Lib.hid (show ¬ (S0 b ∨ w1'.heap.size ≤ b) from fun e => e.elim (fun e => by have := ts0 b e; have := HBB.out; omega) (fun e => by have := KX.out.lt; have := tb.size; omega)); have TA := Lib.hid tall; have HP := Lib.hid (putE tex (by omega) s.key s.who hks hws 0 (by omega)); have K1 := Lib.hid (KX.out.bel tb); clear tb ts0 tall tex hTw u0 u1 u2 u3 u4 u5; have u0 := K1.out.cell 0; have u1 := K1.out.cell 1; have u2 := K1.out.cell 2; have u3 := K1.out.cell 3; have u4 := K1.out.cell 4; have u5 := K1.out.cell 5; simp only [List.getElem?_cons_succ, List.getElem?_cons_zero] at u0 u1 u2 u3 u4 u5) | (go_at_call 13; refine HP.out.mono ?_; rintro e w2' ⟨v2, rfl, tex, tt⟩; have T2 := Lib.hid tt; have K2 := Lib.hid (K1.out.turns tt TS.out); have HO := Lib.hid (pollE tex (by omega) s.who hws 4611686018427387904 1 (by omega) (by omega)); clear tex tt HP u0 u1 u2 u3 u4 u5; have u0 := K2.out.cell 0; have u1 := K2.out.cell 1; have u2 := K2.out.cell 2; have u3 := K2.out.cell 3; have u4 := K2.out.cell 4; have u5 := K2.out.cell 5; simp only [List.getElem?_cons_succ, List.getElem?_cons_zero] at u0 u1 u2 u3 u4 u5) | (go_at_call 14; refine HO.out.mono ?_; rintro e w3' ⟨k3, a3, b3, c3, rfl, tex, tt⟩; have T3 := Lib.hid (T2.out.then tt); have K3 := Lib.hid (K2.out.turns tt TS.out); have HD := Lib.hid (dropE tex s.key); clear tex tt HO u0 u1 u2 u3 u4 u5; have u0 := K3.out.cell 0; have u1 := K3.out.cell 1; have u2 := K3.out.cell 2; have u3 := K3.out.cell 3; have u4 := K3.out.cell 4; have u5 := K3.out.cell 5; simp only [List.getElem?_cons_succ, List.getElem?_cons_zero] at u0 u1 u2 u3 u4 u5) | (go_at_call 15; refine HD.out.mono ?_; rintro e w4' ⟨v4, rfl, _, tt⟩; have HBN := Lib.hid (TA.out _ (T3.out.then tt)); clear tt HD u0 u1 u2 u3 u4 u5) | (go_at_call 8; refine (toldB HBN.out (by omega)).mono ?_; rintro e wt ⟨rfl, ht⟩; have HBT := Lib.hid ht; clear ht))
            go_roundw
            case measure => simp only [intOf]; omega
            case rel => exact ⟨i + 1, q', by omega, rfl, by go_num, Lib.hid HBT.out.up⟩
          · have e7b : (s.d == 7) = false := beq_eq_false_iff_ne.2 e7
            have HBX := Lib.hid (HB0.out.bel (by have := BW.out; rw [← HBB.out] at this; exact this))
            by_cases e8 : s.d = 8
            · have e8b : (s.d == 8) = true := by rw [e8]; rfl
              have hOp := Lib.hid (openedB HBX.out (by omega))
              go_wp2_with (first | (go_at_call 16; refine hOp.out.mono ?_; rintro e w1' ⟨q', rfl, hn'⟩; have HBN := Lib.hid hn'; clear hn' hOp u0 u1 u2 u3 u4 u5) | (go_at_call 8; refine (toldB HBN.out (by omega)).mono ?_; rintro e wt ⟨rfl, ht⟩; have HBT := Lib.hid ht; clear ht))
              go_roundw
              case measure => simp only [intOf]; omega
              case rel => exact ⟨i + 1, q', by omega, rfl, by go_num, Lib.hid HBT.out.up⟩
            · have e8b : (s.d == 8) = false := beq_eq_false_iff_ne.2 e8
              have hOne := Lib.hid (one_any HBX.out (by omega) s.d s.key s.who hks hws s.at_ s.lease s.num hat hle)
              unfold stV at hOne
              go_wp2_with (first | (go_at_call 17; refine hOne.out.mono ?_; rintro e w1' ⟨rfl, hn'⟩; have HBN := Lib.hid hn'; clear hn' hOne u0 u1 u2 u3 u4 u5) | (go_at_call 8; refine (toldB HBN.out (by omega)).mono ?_; rintro e wt ⟨rfl, ht⟩; have HBT := Lib.hid ht; clear ht))
              go_roundw
              case measure => simp only [intOf]; omega
              case rel => exact ⟨i + 1, q, by omega, rfl, by go_num, HBT⟩
        · obtain rfl : i = n := by omega
          have hlt1 : ¬ (i : Int) < (i : Int) := by omega
          have hWB : Hid (Below w.heap.size w wr) := Lib.hid (by obtain ⟨_, _, _, _, _, _, _, _, _, _, _, _, h⟩ := HB0.out; exact h.B)
          go_wp2_with fail
          go_ret
          exact ⟨rfl, hWB.out⟩
    · have hN := Lib.hid (newB w1 most grace (by omega))
      have HM := Lib.hid (fun X => may_any X most grace)
      have hd : decide ((1 ≤ most ∧ most ≤ 4096) ∧ 0 ≤ grace) = false := decide_eq_false hmay
      rw [hd] at HM
      clear hd
      go_wp2_with (first | (go_at_call 10; refine hN.out.mono ?_; rintro e w3 ⟨rfl, hw⟩; subst w3; clear hN) | (go_at_call 11; refine (HM.out _).mono ?_; rintro e w4 ⟨rfl, hw⟩; subst w4; clear HM))
      go_ret
      exact ⟨rfl, B1.out⟩
end Go.Proofs.YtpbheicfplpemaaGreat
