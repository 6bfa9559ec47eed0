/- WmG: texts of wal, merged (a claim may hold few texts) -/
import Derived.Test.YteihedfmmiihiaaGreatWlLoad
namespace Go.Proofs.YteihedfmmiihiaaGreat
open Go.RowKit

def ChainY (n : Nat) (J : Nat → World → Prop) (Jx : Int → World → Prop) (e : Ending) (w' : World) : Prop := ∃ c : Int, e = .returned (.int .i64 c) ∧ ((c = 0 ∧ J n w') ∨ (c ≠ 0 ∧ Jx c w'))
set_option maxRecDepth 20000 in
set_option maxHeartbeats 4000000 in
theorem chain_any (g n cap : Nat) (hnn : n ≤ 100) (f : Nat → FuncId) (cp : Nat → Array Value) (J : Nat → World → Prop) (Jx : Int → World → Prop) (hent : ∀ i, i < n → Enters (f i) (cp i))
    (hrow : ∀ i w, J i w → ∀ k, k < n → w.cell? ⟨g, k, none⟩ = some (.func (.func (f k)) #[] (cp k)))
    (hcall : ∀ i, i < n → ∀ w, J i w → Calls Tryz.prog (f i) (cp i) w (ChainY (i + 1) J Jx)) (w : World) (h0 : J 0 w) :
    Calls Tryz.prog 56 #[.slice (some ⟨g, 0, none⟩) n cap] w (ChainY n J Jx) := by
  have HE := Lib.hid hent
  have HR := Lib.hid hrow
  have HC := Lib.hid hcall
  clear hent hrow hcall
  go_enter Tryz.func56, Tryz.ntmps56
  go_wp2_with fail
  go_loopw [8] (fun iv wr => ∃ i : Nat, i ≤ n ∧ iv = .int .i64 (i : Int) ∧ Hid (J i wr)) (fun iv _ => n - (intOf iv).toNat)
  case atStart => exact ⟨0, by omega, rfl, Lib.hid h0⟩
  case round =>
    obtain ⟨i, hi, rfl, hJ⟩ := hrel
    by_cases hlt : i < n
    · have hlt1 : (i : Int) < (n : Int) := by omega
      have hc := HR.out i wr hJ.out i hlt
      have hent := HE.out i hlt
      have hcl := Lib.hid (HC.out i hlt wr hJ.out)
      generalize f i = fn at *
      generalize cp i = cs at *
      unfold Enters at hent
      go_wp2_with fail
      refine hcl.out.mono ?_
      rintro e w2 ⟨c, rfl, ⟨rfl, hj⟩ | ⟨hne, hj⟩⟩
      · have HJ2 := Lib.hid hj
        clear hj hc hcl hent
        go_wp2_with fail
        refine ⟨⟨i + 1, by omega, by rw [Int.natCast_add]; rfl, HJ2⟩, ?_⟩
        simp [intOf]; omega
      · have HJ2 := Lib.hid hj
        have hb : (c == 0) = false := by simpa using hne
        clear hj hc hcl hent
        go_wp2_with fail
        go_ret
        exact ⟨c, rfl, .inr ⟨hne, HJ2.out⟩⟩
    · obtain rfl : i = n := by omega
      go_wp2_with fail
      go_ret
      exact ⟨0, rfl, .inl ⟨rfl, hJ.out⟩⟩
end Go.Proofs.YteihedfmmiihiaaGreat

namespace Go.Proofs.YteihedfmmiihiaaGreat
open Go.RowKit
variable {Xs : Nat → Prop}

set_option maxRecDepth 20000 in
set_option maxHeartbeats 4000000 in
theorem clear_any (w : World) (d F N : Nat) (s : Dk) (h : s.Is Xs w d F N) :
    Calls Tryz.prog 40 #[.pointer (some ⟨d, 0, none⟩)] w fun e w' => e = .returned (.int .i64 (clR s).1) ∧ (clR s).2.Is Xs w' d F N ∧ Turns (DSet d F) w w' := by
  have HR := Lib.hid (removeD w d F N s h kN)
  have HC : Hid ((clR s).1 = if chC s kN = 5 then 0 else chC s kN) := Lib.hid rfl
  unfold kN at HR
  by_cases h5 : chC s kN = 5
  · have HD := Lib.hid h5
    unfold kN at h5
    rw [h5] at HR
    clear h h5
    go_enter Tryz.func40, Tryz.ntmps40
    go_wp2_with fail
    refine HR.out.mono ?_
    rintro e w' ⟨rfl, h1, h2⟩
    have H1 := Lib.hid h1
    have H2 := Lib.hid h2
    clear h1 h2
    go_wp2_with fail
    go_ret
    exact ⟨by rw [HC.out, if_pos HD.out]; rfl, H1.out, H2.out⟩
  · have HD := Lib.hid h5
    unfold kN at h5
    generalize hc : chC s ⟨#[119, 97, 108, 46, 110, 101, 119]⟩ = c at HR h5
    have hb : (c == 5) = false := by simpa using h5
    have HCC := Lib.hid hc
    clear h hc
    go_enter Tryz.func40, Tryz.ntmps40
    go_wp2_with fail
    refine HR.out.mono ?_
    rintro e w' ⟨rfl, h1, h2⟩
    have H1 := Lib.hid h1
    have H2 := Lib.hid h2
    clear h1 h2
    go_wp2_with fail
    go_ret
    refine ⟨?_, H1.out, H2.out⟩
    rw [HC.out, if_neg HD.out]
    unfold kN
    rw [HCC.out]
    rfl
/-! ### what is done, step by step -/
def anSt (s : Dk) (B : List UInt8) : Nat → Dk
  | 0 => s
  | 1 => (clR s).2
  | 2 => (apR kN B (clR s).2).2
  | 3 => (syR kN (apR kN B (clR s).2).2).2
  | _ => (mvR (syR kN (apR kN B (clR s).2).2).2).2
def anCd (s : Dk) (B : List UInt8) : Nat → Int
  | 0 => (clR s).1
  | 1 => (apR kN B (clR s).2).1
  | 2 => (syR kN (apR kN B (clR s).2).2).1
  | 3 => (mvR (syR kN (apR kN B (clR s).2).2).2).1
  | _ => 0
theorem anewR_ok (s : Dk) (B : List UInt8) (h : ∀ k, k < 5 → anCd s B k = 0) : anewR s B = (0, anSt s B 5) := by
  unfold anewR
  rw [thenR_ok (h 0 (by omega)), thenR_ok (h 1 (by omega)), thenR_ok (h 2 (by omega))]
  exact Prod.ext (h 3 (by omega)) rfl
theorem thenR_bad {r : Int × Dk} {f : Dk → Int × Dk} (h : r.1 ≠ 0) : thenR r f = r := by unfold thenR; rw [if_neg h]
theorem anewR_bad (s : Dk) (B : List UInt8) (i : Nat) (hi : i < 5) (h : ∀ k, k < i → anCd s B k = 0) (hc : anCd s B i ≠ 0) : anewR s B = (anCd s B i, anSt s B (i + 1)) := by
  unfold anewR
  match i, hi with
  | 0, _ => rw [thenR_bad (r := clR s) hc, thenR_bad (r := clR s) hc, thenR_bad (r := clR s) hc]; rfl
  | 1, _ => rw [thenR_ok (h 0 (by omega)), thenR_bad (r := apR kN B (clR s).2) hc, thenR_bad (r := apR kN B (clR s).2) hc]; rfl
  | 2, _ => rw [thenR_ok (h 0 (by omega)), thenR_ok (h 1 (by omega)), thenR_bad (r := syR kN (apR kN B (clR s).2).2) hc]; rfl
  | 3, _ => rw [thenR_ok (h 0 (by omega)), thenR_ok (h 1 (by omega)), thenR_ok (h 2 (by omega))]; rfl
  | 4, _ => exact absurd rfl hc
theorem anSt1_fresh (s : Dk) (h : (clR s).1 = 0) : (clR s).2.p kN = none := by
  cases hoff : s.off with
  | false =>
    rcases clR_says s hoff with ⟨_, _, h3, _⟩ | ⟨h1, _⟩
    · exact h3
    · rw [h] at h1; cases h1
  | true => simp [clR, chC, hoff] at h
def moSt (s : Dk) (B : List UInt8) : Nat → Dk
  | 0 => s
  | 1 => (apR kW B s).2
  | _ => (syR kW (apR kW B s).2).2
def moCd (s : Dk) (B : List UInt8) : Nat → Int
  | 0 => (apR kW B s).1
  | 1 => (syR kW (apR kW B s).2).1
  | _ => 0
theorem moreR_ok (s : Dk) (B : List UInt8) (h : ∀ k, k < 3 → moCd s B k = 0) : moreR s B = (0, moSt s B 3) := by
  unfold moreR
  rw [thenR_ok (h 0 (by omega))]
  exact Prod.ext (h 1 (by omega)) rfl
theorem moreR_bad (s : Dk) (B : List UInt8) (i : Nat) (hi : i < 3) (h : ∀ k, k < i → moCd s B k = 0) (hc : moCd s B i ≠ 0) : moreR s B = (moCd s B i, moSt s B (i + 1)) := by
  unfold moreR
  match i, hi with
  | 0, _ => rw [thenR_bad (r := apR kW B s) hc]; rfl
  | 1, _ => rw [thenR_ok (h 0 (by omega))]; rfl
  | 2, _ => exact absurd rfl hc
/-- the wal's block, all but the file's size -/
def walC (d : Nat) (t v : Int) (sl : Value) (dn : Bool) (sz : Nat) : List Value := [.pointer (some ⟨d, 0, none⟩), .int .i64 t, .int .i64 v, sl, .int .i64 (sz : Int), .bool dn]
def AnS (d F wl : Nat) : Nat → Prop := fun j => j = d ∨ j = F ∨ j = wl
/-- what stands while a file is written -/
structure AnJ (st : Nat → Dk) (cd : Nat → Int) (Xs : Nat → Prop) (d F N wl : Nat) (t v : Int) (sl : Value) (dn : Bool) (sz sz2 last : Nat) (X : World) (i : Nat) (W : World) : Prop where
  ok : ∀ k, k < i → cd k = 0
  ds : (st i).Is Xs W d F (N + i)
  wal : Blk W wl 41 (walC d t v sl dn (if i = last then sz2 else sz))
  tr : Turns (AnS d F wl) X W
end Go.Proofs.YteihedfmmiihiaaGreat

namespace Go.Proofs.YteihedfmmiihiaaGreat
open Go.RowKit
variable {Xs : Nat → Prop}

set_option maxRecDepth 20000 in
set_option maxHeartbeats 4000000 in
theorem an1 (W : World) (b2 wl d F N : Nat) (s : Dk) (h : s.Is Xs W d F N) (h2 : Blk W b2 33 [.pointer (some ⟨wl, 0, none⟩)]) (t v : Int) (sl : Value) (dn : Bool) (sz : Nat) (hw : Blk W wl 41 (walC d t v sl dn sz)) :
    Calls Tryz.prog 57 #[.pointer (some ⟨b2, 0, none⟩)] W fun e w' => e = .returned (.int .i64 ((clR s).1)) ∧ ((clR s).2).Is Xs w' d F (N) ∧ Turns (DSet d F) W w' := by
  have HC := Lib.hid (clear_any W d F N s h)
  have c2 : W.cell? ⟨b2, 0, none⟩ = some (.pointer (some ⟨wl, 0, none⟩)) := h2.cell 0
  have c0 : W.cell? ⟨wl, 0, none⟩ = some (.pointer (some ⟨d, 0, none⟩)) := hw.cell 0
  clear h h2 hw
  go_enter Tryz.func57, Tryz.ntmps57
  go_wp2_with fail
  refine HC.out.mono ?_
  rintro e w' ⟨rfl, h1, h2⟩
  have H1 := Lib.hid h1
  have H2 := Lib.hid h2
  clear h1 h2
  go_wp2_with fail
  go_ret
  exact ⟨rfl, H1.out, H2.out⟩
set_option maxRecDepth 20000 in
set_option maxHeartbeats 4000000 in
theorem an2 (W : World) (b2 b5 wl d F N : Nat) (s : Dk) (h : s.Is Xs W d F N) (h2 : Blk W b2 33 [.pointer (some ⟨wl, 0, none⟩)]) (A : Option Addr) (c : Nat) (B : List UInt8) (h5 : Blk W b5 30 [.slice A B.length c]) (hB : Bs W A B.length B) (hc : B.length ≤ c) (hL : (pl s.p kN).1.length + B.length ≤ 100000000) (hxs : ∀ g, Xs g → g < W.heap.size) (t v : Int) (sl : Value) (dn : Bool) (sz : Nat) (hw : Blk W wl 41 (walC d t v sl dn sz)) :
    Calls Tryz.prog 58 #[.pointer (some ⟨b2, 0, none⟩), .pointer (some ⟨b5, 0, none⟩)] W fun e w' => e = .returned (.int .i64 (apR kN B s).1) ∧ (apR kN B s).2.Is Xs w' d F (N + 1) ∧ Turns (DSet d F) W w' := by
  have hdr := below_drewN' (Below.refl W.heap.size W) 1
  have HC := Lib.hid (appendD W.drew d F N s (DS.bel h hdr) kN A B.length c B (hB.below hdr) hc hL hxs)
  have c2 : W.cell? ⟨b2, 0, none⟩ = some (.pointer (some ⟨wl, 0, none⟩)) := h2.cell 0
  have c5 : W.cell? ⟨b5, 0, none⟩ = some (.slice A B.length c) := h5.cell 0
  have c0 : W.cell? ⟨wl, 0, none⟩ = some (.pointer (some ⟨d, 0, none⟩)) := hw.cell 0
  have HDR := Lib.hid hdr
  clear h h2 hw h5 hB hc hL hdr hxs
  unfold kN at HC
  go_enter Tryz.func58, Tryz.ntmps58
  go_wp2_with fail
  go_region_law (go_simp; go_at_call 19; refine HC.out.mono ?_; rintro e w' ⟨rfl, h1, h2⟩; have H1 := Lib.hid h1; have H2 := Lib.hid h2; clear h1 h2)
  all_goals
    go_wp2_with fail
    go_ret
    exact ⟨rfl, H1.out, (Turns.of_below HDR.out).then H2.out⟩
set_option maxRecDepth 20000 in
set_option maxHeartbeats 4000000 in
theorem an3 (W : World) (b2 wl d F N : Nat) (s : Dk) (h : s.Is Xs W d F N) (h2 : Blk W b2 33 [.pointer (some ⟨wl, 0, none⟩)]) (t v : Int) (sl : Value) (dn : Bool) (sz : Nat) (hw : Blk W wl 41 (walC d t v sl dn sz)) :
    Calls Tryz.prog 59 #[.pointer (some ⟨b2, 0, none⟩)] W fun e w' => e = .returned (.int .i64 ((syR kN s).1)) ∧ ((syR kN s).2).Is Xs w' d F (N) ∧ Turns (DSet d F) W w' := by
  have HC := Lib.hid (syncD W d F N s h kN)
  have c2 : W.cell? ⟨b2, 0, none⟩ = some (.pointer (some ⟨wl, 0, none⟩)) := h2.cell 0
  have c0 : W.cell? ⟨wl, 0, none⟩ = some (.pointer (some ⟨d, 0, none⟩)) := hw.cell 0
  clear h h2 hw
  go_enter Tryz.func59, Tryz.ntmps59
  go_wp2_with fail
  refine HC.out.mono ?_
  rintro e w' ⟨rfl, h1, h2⟩
  have H1 := Lib.hid h1
  have H2 := Lib.hid h2
  clear h1 h2
  go_wp2_with fail
  go_ret
  exact ⟨rfl, H1.out, H2.out⟩
set_option maxRecDepth 20000 in
set_option maxHeartbeats 4000000 in
theorem an4 (W : World) (b2 wl d F N : Nat) (s : Dk) (h : s.Is Xs W d F N) (h2 : Blk W b2 33 [.pointer (some ⟨wl, 0, none⟩)]) (t v : Int) (sl : Value) (dn : Bool) (sz : Nat) (hw : Blk W wl 41 (walC d t v sl dn sz)) :
    Calls Tryz.prog 60 #[.pointer (some ⟨b2, 0, none⟩)] W fun e w' => e = .returned (.int .i64 ((mvR s).1)) ∧ ((mvR s).2).Is Xs w' d F (N + 1) ∧ Turns (DSet d F) W w' := by
  have HC := Lib.hid (renameD W d F N s h kN kW)
  have c2 : W.cell? ⟨b2, 0, none⟩ = some (.pointer (some ⟨wl, 0, none⟩)) := h2.cell 0
  have c0 : W.cell? ⟨wl, 0, none⟩ = some (.pointer (some ⟨d, 0, none⟩)) := hw.cell 0
  clear h h2 hw
  go_enter Tryz.func60, Tryz.ntmps60
  go_wp2_with fail
  refine HC.out.mono ?_
  rintro e w' ⟨rfl, h1, h2⟩
  have H1 := Lib.hid h1
  have H2 := Lib.hid h2
  clear h1 h2
  go_wp2_with fail
  go_ret
  exact ⟨rfl, H1.out, H2.out⟩
set_option maxRecDepth 20000 in
set_option maxHeartbeats 4000000 in
theorem mo1 (W : World) (b2 b5 wl d F N : Nat) (s : Dk) (h : s.Is Xs W d F N) (h2 : Blk W b2 33 [.pointer (some ⟨wl, 0, none⟩)]) (A : Option Addr) (c : Nat) (B : List UInt8) (h5 : Blk W b5 30 [.slice A B.length c]) (hB : Bs W A B.length B) (hc : B.length ≤ c) (hL : (pl s.p kW).1.length + B.length ≤ 100000000) (hxs : ∀ g, Xs g → g < W.heap.size) (t v : Int) (sl : Value) (dn : Bool) (sz : Nat) (hw : Blk W wl 41 (walC d t v sl dn sz)) :
    Calls Tryz.prog 63 #[.pointer (some ⟨b2, 0, none⟩), .pointer (some ⟨b5, 0, none⟩)] W fun e w' => e = .returned (.int .i64 (apR kW B s).1) ∧ (apR kW B s).2.Is Xs w' d F (N + 1) ∧ Turns (DSet d F) W w' := by
  have hdr := below_drewN' (Below.refl W.heap.size W) 1
  have HC := Lib.hid (appendD W.drew d F N s (DS.bel h hdr) kW A B.length c B (hB.below hdr) hc hL hxs)
  have c2 : W.cell? ⟨b2, 0, none⟩ = some (.pointer (some ⟨wl, 0, none⟩)) := h2.cell 0
  have c5 : W.cell? ⟨b5, 0, none⟩ = some (.slice A B.length c) := h5.cell 0
  have c0 : W.cell? ⟨wl, 0, none⟩ = some (.pointer (some ⟨d, 0, none⟩)) := hw.cell 0
  have HDR := Lib.hid hdr
  clear h h2 hw h5 hB hc hL hdr hxs
  unfold kW at HC
  go_enter Tryz.func63, Tryz.ntmps63
  go_wp2_with fail
  go_region_law (go_simp; go_at_call 19; refine HC.out.mono ?_; rintro e w' ⟨rfl, h1, h2⟩; have H1 := Lib.hid h1; have H2 := Lib.hid h2; clear h1 h2)
  all_goals
    go_wp2_with fail
    go_ret
    exact ⟨rfl, H1.out, (Turns.of_below HDR.out).then H2.out⟩
set_option maxRecDepth 20000 in
set_option maxHeartbeats 4000000 in
theorem mo2 (W : World) (b2 wl d F N : Nat) (s : Dk) (h : s.Is Xs W d F N) (h2 : Blk W b2 33 [.pointer (some ⟨wl, 0, none⟩)]) (t v : Int) (sl : Value) (dn : Bool) (sz : Nat) (hw : Blk W wl 41 (walC d t v sl dn sz)) :
    Calls Tryz.prog 64 #[.pointer (some ⟨b2, 0, none⟩)] W fun e w' => e = .returned (.int .i64 ((syR kW s).1)) ∧ ((syR kW s).2).Is Xs w' d F (N) ∧ Turns (DSet d F) W w' := by
  have HC := Lib.hid (syncD W d F N s h kW)
  have c2 : W.cell? ⟨b2, 0, none⟩ = some (.pointer (some ⟨wl, 0, none⟩)) := h2.cell 0
  have c0 : W.cell? ⟨wl, 0, none⟩ = some (.pointer (some ⟨d, 0, none⟩)) := hw.cell 0
  clear h h2 hw
  go_enter Tryz.func64, Tryz.ntmps64
  go_wp2_with fail
  refine HC.out.mono ?_
  rintro e w' ⟨rfl, h1, h2⟩
  have H1 := Lib.hid h1
  have H2 := Lib.hid h2
  clear h1 h2
  go_wp2_with fail
  go_ret
  exact ⟨rfl, H1.out, H2.out⟩
set_option maxRecDepth 20000 in
set_option maxHeartbeats 4000000 in
theorem an5 (W : World) (b2 b5 wl d : Nat) (h2 : Blk W b2 33 [.pointer (some ⟨wl, 0, none⟩)]) (A : Option Addr) (c n : Nat) (h5 : Blk W b5 30 [.slice A n c]) (t v : Int) (sl : Value) (dn : Bool) (sz : Nat) (hw : Blk W wl 41 (walC d t v sl dn sz)) :
    Calls Tryz.prog 62 #[.pointer (some ⟨b5, 0, none⟩), .pointer (some ⟨b2, 0, none⟩)] W fun e w' => e = .returned (.int .i64 0) ∧ Blk w' wl 41 (walC d t v sl dn n) ∧ Turns (fun i => i = wl) W w' := by
  have c2 : W.cell? ⟨b2, 0, none⟩ = some (.pointer (some ⟨wl, 0, none⟩)) := h2.cell 0
  have c5 : W.cell? ⟨b5, 0, none⟩ = some (.slice A n c) := h5.cell 0
  have c4 : W.cell? ⟨wl, 4, none⟩ = some (.int .i64 (sz : Int)) := hw.cell 4
  have z4 := hw.fz 4
  have HW := Lib.hid (hw.set 4 (.int .i64 (n : Int)))
  have HT := Lib.hid (Turns.of_set (S := fun i => i = wl) W ⟨wl, 4, none⟩ (.int .i64 (n : Int)) rfl)
  clear h2 h5 hw
  go_enter Tryz.func62, Tryz.ntmps62
  go_wp2_with fail
  go_ret
  exact ⟨rfl, HW.out, HT.out⟩
set_option maxRecDepth 20000 in
set_option maxHeartbeats 4000000 in
theorem mo3 (W : World) (b2 b5 wl d : Nat) (h2 : Blk W b2 33 [.pointer (some ⟨wl, 0, none⟩)]) (A : Option Addr) (c n : Nat) (h5 : Blk W b5 30 [.slice A n c]) (t v : Int) (sl : Value) (dn : Bool) (sz : Nat) (hsz : sz + n ≤ 1000000000) (hw : Blk W wl 41 (walC d t v sl dn sz)) :
    Calls Tryz.prog 65 #[.pointer (some ⟨b2, 0, none⟩), .pointer (some ⟨b5, 0, none⟩)] W fun e w' => e = .returned (.int .i64 0) ∧ Blk w' wl 41 (walC d t v sl dn (sz + n)) ∧ Turns (fun i => i = wl) W w' := by
  have c2 : W.cell? ⟨b2, 0, none⟩ = some (.pointer (some ⟨wl, 0, none⟩)) := h2.cell 0
  have c5 : W.cell? ⟨b5, 0, none⟩ = some (.slice A n c) := h5.cell 0
  have c4 : W.cell? ⟨wl, 4, none⟩ = some (.int .i64 (sz : Int)) := hw.cell 4
  have z4 := hw.fz 4
  obtain ⟨m, hm⟩ : ∃ m, sz + n = m := ⟨_, rfl⟩
  have hmI : (sz : Int) + (n : Int) = (m : Int) := by omega
  have hmm : (m : Int) ≤ 1000000000 := by omega
  rw [hm]
  have HW := Lib.hid ((hw.set 4 (.int .i64 (m : Int))).drewN 1)
  have HT := Lib.hid ((Turns.of_set (S := fun i => i = wl) W ⟨wl, 4, none⟩ (.int .i64 (m : Int)) rfl).drewN 1)
  have hwr : IntKind.i64.wrap (m : Int) = (m : Int) := wrap_i64' _ (by omega) (by omega)
  have HWR := Lib.hid hwr
  clear hwr
  clear h2 h5 hw hsz hm
  go_enter Tryz.func65, Tryz.ntmps65
  go_wp2_with fail
  go_region_law (fail)
  all_goals
    go_wp2_with fail
    go_ret
    refine ⟨rfl, ?_, ?_⟩
    · rw [HWR.out]; exact HW.out
    · rw [HWR.out]; exact HT.out
end Go.Proofs.YteihedfmmiihiaaGreat

namespace Go.Proofs.YteihedfmmiihiaaGreat
open Go.RowKit
variable {Xs : Nat → Prop}

def anF : Nat → FuncId
  | 0 => 57
  | 1 => 58
  | 2 => 59
  | 3 => 60
  | _ => 62
def anC (g g5 : Nat) : Nat → Array Value
  | 0 => #[.pointer (some ⟨g, 0, none⟩)]
  | 1 => #[.pointer (some ⟨g, 0, none⟩), .pointer (some ⟨g5, 0, none⟩)]
  | 2 => #[.pointer (some ⟨g, 0, none⟩)]
  | 3 => #[.pointer (some ⟨g, 0, none⟩)]
  | _ => #[.pointer (some ⟨g5, 0, none⟩), .pointer (some ⟨g, 0, none⟩)]
theorem anEnt (g g5 : Nat) : ∀ i, i < 5 → Enters (anF i) (anC g g5 i) := fun i hi => by
  match i, hi with
  | 0, _ => exact fun w => enters_of Tryz.func57 (by kernel_rfl) rfl _ w
  | 1, _ => exact fun w => enters_of Tryz.func58 (by kernel_rfl) rfl _ w
  | 2, _ => exact fun w => enters_of Tryz.func59 (by kernel_rfl) rfl _ w
  | 3, _ => exact fun w => enters_of Tryz.func60 (by kernel_rfl) rfl _ w
  | 4, _ => exact fun w => enters_of Tryz.func62 (by kernel_rfl) rfl _ w
def anRow (g g5 : Nat) : List Value := [.func (.func 57) #[] #[.pointer (some ⟨g, 0, none⟩)], .func (.func 58) #[] #[.pointer (some ⟨g, 0, none⟩), .pointer (some ⟨g5, 0, none⟩)], .func (.func 59) #[] #[.pointer (some ⟨g, 0, none⟩)], .func (.func 60) #[] #[.pointer (some ⟨g, 0, none⟩)], .func (.func 62) #[] #[.pointer (some ⟨g5, 0, none⟩), .pointer (some ⟨g, 0, none⟩)]]
/-- what stands where one thing failed -/
def AnX (st : Nat → Dk) (cd : Nat → Int) (Xs : Nat → Prop) (d F N wl : Nat) (t v : Int) (sl : Value) (dn : Bool) (sz last : Nat) (X : World) (c : Int) (W : World) : Prop :=
  ∃ i, i < last ∧ (∀ k, k < i → cd k = 0) ∧ cd i = c ∧ (st (i + 1)).Is Xs W d F (N + i + 1) ∧ Blk W wl 41 (walC d t v sl dn sz) ∧ Turns (AnS d F wl) X W
theorem AnJ.step {st : Nat → Dk} {cd : Nat → Int} {d F N wl sz sz2 last i : Nat} {t v : Int} {sl : Value} {dn : Bool} {X W W' : World} {c : Int} {e : Ending} (h : AnJ st cd Xs d F N wl t v sl dn sz sz2 last X i W) (hi : i + 1 < last) (he : e = .returned (.int .i64 c)) (hcd : cd i = c) (hs : (st (i + 1)).Is Xs W' d F (N + i + 1)) (ht : Turns (DSet d F) W W') (hne : wl ≠ d ∧ wl ≠ F) :
    ChainY (i + 1) (AnJ st cd Xs d F N wl t v sl dn sz sz2 last X) (AnX st cd Xs d F N wl t v sl dn sz last X) e W' := by
  have hw := h.wal
  rw [if_neg (by omega)] at hw
  have hw2 := hw.turns ht (fun e => by rcases e with e | e; exact hne.1 e; exact hne.2 e)
  have tr := h.tr.then (ht.mono (T := AnS d F wl) (fun j _ e => by rcases e with e | e; exact .inl e; exact .inr (.inl e)))
  refine ⟨c, he, ?_⟩
  by_cases hc : c = 0
  · refine .inl ⟨hc, ⟨fun k hk => ?_, hs, by rw [if_neg (by omega)]; exact hw2, tr⟩⟩
    by_cases hki : k = i
    · subst hki; rw [hcd, hc]
    · exact h.ok k (by omega)
  · exact .inr ⟨hc, i, by omega, h.ok, hcd, hs, hw2, tr⟩
theorem AnJ.last {st : Nat → Dk} {cd : Nat → Int} {d F N wl sz sz2 last i : Nat} {t v : Int} {sl : Value} {dn : Bool} {X W W' : World} {e : Ending} (h : AnJ st cd Xs d F N wl t v sl dn sz sz2 last X i W) (hi : i + 1 = last) (he : e = .returned (.int .i64 0)) (hcd : cd i = 0) (hst : st (i + 1) = st i) (hw : Blk W' wl 41 (walC d t v sl dn sz2)) (ht : Turns (fun j => j = wl) W W') (hne : wl ≠ d ∧ wl ≠ F)
    (hnu : ∀ g cur, W.heap[g]? = some (.cells cur 5 (0, 0)) → ¬ g = wl) :
    ChainY (i + 1) (AnJ st cd Xs d F N wl t v sl dn sz sz2 last X) (AnX st cd Xs d F N wl t v sl dn sz last X) e W' := by
  refine ⟨0, he, .inl ⟨rfl, ⟨fun k hk => ?_, ?_, by rw [if_pos hi]; exact hw, h.tr.then (ht.mono (T := AnS d F wl) (fun j _ e => .inr (.inr e)))⟩⟩⟩
  · by_cases hki : k = i
    · subst hki; exact hcd
    · exact h.ok k (by omega)
  · rw [hst]
    exact (DS.keep h.ds ht (fun e => hne.1 e.symm) (fun e => hne.2 e.symm) (fun g cur hg _ e => hnu g cur hg e)).wide (by omega)
theorem anS_of {d F wl H g : Nat} (h : d < H ∧ F < H ∧ wl < H) (hg : H ≤ g) : ¬ AnS d F wl g := fun e => by
  unfold AnS at e
  omega
theorem OwnB.stay {W W' : World} {H c : Nat} {A : Option Addr} {B : List UInt8} {S : Nat → Prop} (h : OwnB W H A c B) (k : Turns S W W') (hS : ∀ g, H ≤ g → ¬ S g) : OwnB W' H A c B := own_turns h k (fun g hg => hS g (own_ge h hg))
theorem no_wal {W : World} {d F N : Nat} {dk : Dk} {t v : Int} {sl : Value} {dn : Bool} {sz : Nat} (h : dk.Is Xs W d F N) (hb : Blk W d 41 (walC d t v sl dn sz)) : False := by
  have := DS.cells h
  have h1 := hb.cell 0
  rw [this.1] at h1
  cases h1
theorem no_wal2 {W : World} {d F N : Nat} {dk : Dk} {t v : Int} {sl : Value} {dn : Bool} {sz : Nat} (h : dk.Is Xs W d F N) (hb : Blk W F 41 (walC d t v sl dn sz)) : False := DS.noF h 0 _ (hb.cell 0)
theorem an_chain (Z : World) (d F N wl : Nat) (dk : Dk) (hd : dk.Is Xs Z d F N) (hxs : ∀ g, Xs g → g < Z.heap.size) (t v : Int) (sl : Value) (dn : Bool) (sz : Nat) (hb : Blk Z wl 41 (walC d t v sl dn sz)) (H g g5 g6 : Nat) (hlt : d < H ∧ F < H ∧ wl < H) (hge : H ≤ g ∧ H ≤ g5 ∧ H ≤ g6)
    (h2 : Blk Z g 33 [.pointer (some ⟨wl, 0, none⟩)]) (A : Option Addr) (c : Nat) (B : List UInt8) (h5 : Blk Z g5 30 [.slice A B.length c]) (hB : OwnB Z H A c B) (hBl : B.length ≤ 100000000) (h6 : Blk Z g6 77 (anRow g g5)) (hne : wl ≠ d ∧ wl ≠ F) :
    Calls Tryz.prog 56 #[.slice (some ⟨g6, 0, none⟩) 5 5] Z (ChainY 5 (AnJ (anSt dk B) (anCd dk B) Xs d F N wl t v sl dn sz B.length 5 Z) (AnX (anSt dk B) (anCd dk B) Xs d F N wl t v sl dn sz 5 Z)) := by
  refine chain_any g6 5 5 (by omega) anF (anC g g5) _ _ (anEnt g g5) ?_ ?_ Z ⟨fun k hk => absurd hk (Nat.not_lt_zero _), hd, by rw [if_neg (by decide)]; exact hb, Turns.refl _ _⟩
  · intro i W hJ k hk
    have := h6.turns hJ.tr (anS_of hlt hge.2.2)
    rw [this.cell k]
    match k, hk with
    | 0, _ => rfl
    | 1, _ => rfl
    | 2, _ => rfl
    | 3, _ => rfl
    | 4, _ => rfl
  · intro i hi W hJ
    have M2 := h2.turns hJ.tr (anS_of hlt hge.1)
    have M5 := h5.turns hJ.tr (anS_of hlt hge.2.1)
    have MB := hB.stay hJ.tr (fun g hg => anS_of hlt hg)
    have hw := hJ.wal
    rw [if_neg (by omega)] at hw
    match i, hi with
    | 0, _ =>
      refine (an1 W g wl d F (N + 0) _ hJ.ds M2 t v sl dn sz hw).mono ?_
      rintro e w' ⟨he, h1, h2⟩
      exact hJ.step (by omega) he rfl (DS.wide h1 (by omega)) h2 hne
    | 1, _ =>
      have hc0 : (clR dk).1 = 0 := hJ.ok 0 (by omega)
      refine (an2 W g g5 wl d F (N + 1) _ hJ.ds M2 A c B M5 MB.bs MB.cap.1 ?_ (fun g hg => Nat.lt_of_lt_of_le (hxs g hg) hJ.tr.size) t v sl dn sz hw).mono ?_
      · show (pl (clR dk).2.p kN).1.length + B.length ≤ 100000000
        rw [pl_none (anSt1_fresh dk hc0)]
        simpa using hBl
      · rintro e w' ⟨he, h1, h2⟩
        exact hJ.step (by omega) he rfl (DS.wide h1 (by omega)) h2 hne
    | 2, _ =>
      refine (an3 W g wl d F (N + 2) _ hJ.ds M2 t v sl dn sz hw).mono ?_
      rintro e w' ⟨he, h1, h2⟩
      exact hJ.step (by omega) he rfl (DS.wide h1 (by omega)) h2 hne
    | 3, _ =>
      refine (an4 W g wl d F (N + 3) _ hJ.ds M2 t v sl dn sz hw).mono ?_
      rintro e w' ⟨he, h1, h2⟩
      exact hJ.step (by omega) he rfl (DS.wide h1 (by omega)) h2 hne
    | 4, _ =>
      refine (an5 W g g5 wl d M2 A c B.length M5 t v sl dn sz hw).mono ?_
      rintro e w' ⟨he, h1, h2⟩
      exact hJ.last (by omega) he rfl rfl h1 h2 hne (fun q cur hq e => IsU8.ne ⟨cur, hq⟩ hw (by decide) e)
theorem an_end {Z W : World} {d F N wl sz : Nat} {dk : Dk} {B : List UInt8} {t v : Int} {sl : Value} {dn : Bool} {e : Ending} (h : ChainY 5 (AnJ (anSt dk B) (anCd dk B) Xs d F N wl t v sl dn sz B.length 5 Z) (AnX (anSt dk B) (anCd dk B) Xs d F N wl t v sl dn sz 5 Z) e W) :
    e = .returned (.int .i64 (anewR dk B).1) ∧ (anewR dk B).2.Is Xs W d F (N + 5) ∧ Blk W wl 41 (walC d t v sl dn (if (anewR dk B).1 = 0 then B.length else sz)) ∧ Turns (AnS d F wl) Z W := by
  obtain ⟨c, rfl, ⟨rfl, hj⟩ | ⟨hc, i, hi, h1, h2, h3, h4, h5⟩⟩ := h
  · rw [anewR_ok dk B hj.ok]
    have := hj.wal
    rw [if_pos rfl] at this
    exact ⟨rfl, hj.ds, by rw [if_pos rfl]; exact this, hj.tr⟩
  · rw [anewR_bad dk B i hi h1 (by rw [h2]; exact hc)]
    refine ⟨by rw [h2], DS.wide h3 (by omega), ?_, h5⟩
    rw [if_neg (by rw [h2]; exact hc)]
    exact h4
end Go.Proofs.YteihedfmmiihiaaGreat

namespace Go.Proofs.YteihedfmmiihiaaGreat
open Go.RowKit
variable {Xs : Nat → Prop}

/-- behind a file's writing -/
def WroteY (Xs : Nat → Prop) (w : World) (d F N wl : Nat) (t v : Int) (sl : Value) (dn : Bool) (sz sz2 : Nat) (r : Int × Dk) (e : Ending) (w' : World) : Prop :=
  e = .returned (.int .i64 r.1) ∧ r.2.Is Xs w' d F (N + 5) ∧ Blk w' wl 41 (walC d t v sl dn (if r.1 = 0 then sz2 else sz)) ∧ Turns (AnS d F wl) w w'
set_option maxRecDepth 20000 in
set_option maxHeartbeats 4000000 in
theorem anew_any (w : World) (d F N wl : Nat) (dk : Dk) (hd : dk.Is Xs w d F N) (hxs : ∀ g, Xs g → g < w.heap.size) (t v : Int) (sl : Value) (dn : Bool) (sz : Nat) (hb : Blk w wl 41 (walC d t v sl dn sz)) (A : Option Addr) (n c : Nat) (s : Sv) (hl : Lg w A n c s.log) (hs : SvOk s) (hw : wt s ≤ 20000000) :
    Calls Tryz.prog 31 #[.pointer (some ⟨wl, 0, none⟩), svV s.term s.vote A n c] w (WroteY Xs w d F N wl t v sl dn sz (full s) (anewR dk (runB (recB none0 s)))) := by
  obtain ⟨r, hr⟩ : ∃ r, r = recB none0 s := ⟨_, rfl⟩
  obtain ⟨B, hB⟩ : ∃ B, B = runB r := ⟨_, rfl⟩
  have hrl : r.length ≤ 50000000 := by rw [hr]; have := recB_len none0 s hs; omega
  have hBl : B.length ≤ 50000000 := by rw [hB, hr]; have := run_len none0 s hs; omega
  have hfu : full s = B.length := by rw [hB, hr]; rfl
  rw [← hr, ← hB, hfu]
  have B0 := Lib.hid (Below.new2 w (.cells #[.pointer (some ⟨wl, 0, none⟩)] 33) (.cells #[.int .i64 s.term, .int .i64 s.vote, .slice A n c] 27))
  have K2 := Lib.hid ((Blk.new w 33 [.pointer (some ⟨wl, 0, none⟩)]).alloc (.cells #[.int .i64 s.term, .int .i64 s.vote, .slice A n c] 27))
  have K3 := Lib.hid (Blk.new2 w (.cells #[.pointer (some ⟨wl, 0, none⟩)] 33) 27 [.int .i64 s.term, .int .i64 s.vote, .slice A n c])
  have HL := Lib.hid (hl.bel B0.out)
  have HD := Lib.hid hd
  have HB := Lib.hid hb
  have HRL := Lib.hid hrl
  have HBL := Lib.hid hBl
  have HR := Lib.hid hr
  have HBB := Lib.hid hB
  have HS := Lib.hid hs
  have HXS := Lib.hid hxs
  clear hl hd hb hrl hBl hr hB hs hw hfu hxs
  unfold svV
  go_enter Tryz.func31, Tryz.ntmps31
  go_upto_region 1 with (fail)
  generalize hg : w.heap.size = g at *
  generalize ((w.alloc (.cells #[.pointer (some ⟨wl, 0, none⟩)] 33)).alloc (.cells #[.int .i64 s.term, .int .i64 s.vote, .slice A n c] 27)) = X at *
  have e0 : X.cell? ⟨g + 1, 0, none⟩ = some (.int .i64 s.term) := K3.out.cell 0
  have e1 : X.cell? ⟨g + 1, 1, none⟩ = some (.int .i64 s.vote) := K3.out.cell 1
  have e2 : X.cell? ⟨g + 1, 2, none⟩ = some (.slice A n c) := K3.out.cell 2
  have HRE := record_any X none0 s none A 0 0 n c (Lg.none _) HL.out HS.out (by simp [none0]) r HR.out
  unfold svV none0 at HRE
  have HRE := Lib.hid HRE
  go_wp2_with fail
  refine HRE.out.mono ?_
  rintro e w1 ⟨A1, c1, rfl, ho1, hb1⟩
  have O1 := Lib.hid ho1
  have B1 := Lib.hid (show Below g w w1 from B0.out.trans (hb1.mono (by have := B0.out.size; omega)))
  have BX1 := Lib.hid hb1
  clear ho1 hb1 e0 e1 e2
  go_wp2_with fail
  refine (run_any w1 A1 c1 r O1.out.bs O1.out.cap.1 HRL.out).mono ?_
  rintro e w2 ⟨A2, c2, rfl, ho2, hb2⟩
  rw [← HBB.out] at ho2 ⊢
  have O2 := Lib.hid ho2
  have B2 := Lib.hid (show Below g w w2 from B1.out.trans (hb2.mono (by have := B1.out.size; omega)))
  have BX2 := Lib.hid (below_trans' BX1.out hb2)
  clear ho2 hb2
  go_upto_region 2 with (fail)
  have hlts := HD.out.lts
  have hwl := HB.out.lt
  rw [hg] at hlts hwl
  have K5 := Lib.hid (Blk.new w2 30 [.slice A2 B.length c2])
  have BY := Lib.hid (Below.new w2 (.cells #[.slice A2 B.length c2] 30))
  have O3 := Lib.hid (O2.out.bel BY.out)
  have HG5 : Hid ((w2.alloc (.cells #[.slice A2 B.length c2] 30)).heap.size = w2.heap.size + 1) := Lib.hid (by simp)
  have HG2 : Hid (X.heap.size ≤ w2.heap.size ∧ g + 2 ≤ X.heap.size ∧ X.heap.size ≤ w1.heap.size) := Lib.hid ⟨BX2.out.size, by have := K3.out.lt; omega, BX1.out.size⟩
  generalize hY : w2.alloc (.cells #[.slice A2 B.length c2] 30) = Y at *
  clear hY
  generalize hg5 : w2.heap.size = g5 at *
  have K6 := Lib.hid (Blk.new Y 77 (anRow g g5))
  rw [HG5.out] at K6
  have BZ := Lib.hid (Below.new Y (.cells (anRow g g5).toArray 77))
  obtain ⟨Z, hZ⟩ : ∃ Z, Y.alloc (.cells (anRow g g5).toArray 77) = Z := ⟨_, rfl⟩
  rw [hZ] at K6 BZ
  have BYZ : Hid (Below g5 Y Z) := Lib.hid (BZ.out.mono (by have := HG5.out; omega))
  have HXZ : Hid (Below X.heap.size X Z) := Lib.hid ((BX2.out.trans (BY.out.mono HG2.out.1)).trans (BYZ.out.mono HG2.out.1))
  have HWZ : Hid (Below g w Z) := Lib.hid (B0.out.trans (HXZ.out.mono (by have := HG2.out; omega)))
  have HT0 : Hid (Turns (fun i => g ≤ i) w Z) := Lib.hid ⟨HWZ.out.os, HWZ.out.tape, HWZ.out.output, HWZ.out.size, fun i _ hn => HWZ.out.block i (by omega)⟩
  have Q1 : Hid (dk.Is Xs Z d F N) := Lib.hid (DS.keep HD.out HT0.out (by omega) (by omega) (fun q cur hq _ => by have := (Array.getElem?_eq_some_iff.1 hq).1; omega))
  have Q2 : Hid (∀ q, Xs q → q < Z.heap.size) := Lib.hid (fun q hq => by have h1 := HXS.out q hq; have h2 := HWZ.out.size; omega)
  have Q3 : Hid (Blk Z wl 41 (walC d t v sl dn sz)) := Lib.hid (HB.out.turns HT0.out (by omega))
  have Q4 : Hid (Blk Z g 33 [.pointer (some ⟨wl, 0, none⟩)]) := Lib.hid (K2.out.bel HXZ.out)
  have Q5 : Hid (Blk Z g5 30 [.slice A2 B.length c2]) := Lib.hid (K5.out.bel BZ.out)
  have Q6 : Hid (OwnB Z g A2 c2 B) := Lib.hid ((O3.out.bel BZ.out).weak (by have := HG2.out; omega))
  have Q7 : Hid (wl ≠ d ∧ wl ≠ F) := Lib.hid ⟨fun e => by have h1 := HB.out; rw [e] at h1; exact no_wal HD.out h1, fun e => by have h1 := HB.out; rw [e] at h1; exact no_wal2 HD.out h1⟩
  have HCH := Lib.hid (an_chain (Xs := Xs) Z d F N wl dk Q1.out Q2.out t v sl dn sz Q3.out g g g5 (g5 + 1) (by omega) (by have := HG2.out; omega) Q4.out A2 c2 B Q5.out Q6.out (by have := HBL.out; omega) K6.out Q7.out)
  unfold anRow at hZ
  clear K5 K6 O3 O2 O1 HRE hg5 hlts hwl
  go_wp2_with fail
  rw [HG5.out]
  refine HCH.out.mono ?_
  rintro e W hch
  obtain ⟨rfl, h1, h2, h3⟩ := an_end hch
  have H1 := Lib.hid h1
  have H2 := Lib.hid h2
  have H3 : Hid (Turns (AnS d F wl) w W) := Lib.hid (((HT0.out.mono (T := fun _ => False) (fun i hi e => by omega)).mono (T := AnS d F wl) (fun _ _ e => e.elim)).then h3)
  clear hch h1 h2 h3 HCH
  go_wp2_with fail
  go_ret
  exact ⟨rfl, H1.out, H2.out, H3.out⟩
end Go.Proofs.YteihedfmmiihiaaGreat
