/- disk: Append, Sync, Rename, Remove. -/
import Derived.Test.YteihedfmmiihiaaGreatDkApp
import Derived.Shelf.AbstractIn
namespace Go.Proofs.YteihedfmmiihiaaGreat
open Go.RowKit
variable {Xs : Nat → Prop}

/-- a disk as it answers -/
structure Dk where
  off : Bool
  fuse : Int
  p : Fs
def Dk.Is (s : Dk) (Xs : Nat → Prop) (w : World) (d F N : Nat) : Prop := DS Xs w d F s.off s.fuse s.p N
/-- Append -/
def apC (s : Dk) : Int := if s.off then 250 else if s.fuse = 0 then 250 else 0
def apS (s : Dk) (k : ByteArray) (lb : List UInt8) : Dk :=
  if s.off then s else if s.fuse = 0 then ⟨true, -1, upd s.p k ((pl s.p k).1 ++ lb, (pl s.p k).2)⟩ else ⟨false, lessF s.fuse, upd s.p k ((pl s.p k).1 ++ lb, (pl s.p k).2)⟩
/-- a change of a file that is to be there -/
def chC (s : Dk) (k : ByteArray) : Int := if s.off then 250 else if (s.p k).isSome then (if s.fuse = 0 then 250 else 0) else 5
def chS (s : Dk) (k : ByteArray) (q : Fs) : Dk := if s.off then s else if (s.p k).isSome then (if s.fuse = 0 then ⟨true, -1, s.p⟩ else ⟨false, lessF s.fuse, q⟩) else s
def syS (s : Dk) (k : ByteArray) : Dk := chS s k (upd s.p k ((pl s.p k).1, (pl s.p k).1.length))
def mvS (s : Dk) (k k2 : ByteArray) : Dk := chS s k (upd (wip s.p k) k2 (pl s.p k))
def rmS (s : Dk) (k : ByteArray) : Dk := chS s k (wip s.p k)
theorem Blk.box {w : World} {g : Nat} {t : TypeId} {v : Value} (h : Blk w g t [v]) : w.cell? ⟨g, 0, none⟩ = some v := h.cell 0
theorem no_u8 {w : World} {d : Nat} {t : TypeId} {x : Option Nat} {y : Bool} {z : Int} (h : Blk w d t [.map x, .bool y, .int .i64 z]) (a : Addr) (ha : a.block = d) (n : Int) : w.cell? a ≠ some (.int .u8 n) := fun e => by
  obtain ⟨b, o, s⟩ := a
  simp only at ha
  subst ha
  unfold Blk at h
  unfold World.cell? at e
  simp only [h] at e
  cases s with
  | some s => simp at e
  | none =>
    rcases o with _ | _ | _ | o <;> simp at e
theorem ent_ap (caps : Array Value) : Enters 43 caps := fun w => enters_of Tryz.func43 (by kernel_rfl) rfl caps w
theorem ent_sy (caps : Array Value) : Enters 49 caps := fun w => enters_of Tryz.func49 (by kernel_rfl) rfl caps w
theorem ent_mv (caps : Array Value) : Enters 78 caps := fun w => enters_of Tryz.func78 (by kernel_rfl) rfl caps w
theorem ent_rm (caps : Array Value) : Enters 84 caps := fun w => enters_of Tryz.func84 (by kernel_rfl) rfl caps w
set_option maxRecDepth 20000 in
set_option maxHeartbeats 1000000 in
theorem removeD (w : World) (d F N : Nat) (s : Dk) (h : s.Is Xs w d F N) (k : ByteArray) :
    Calls Tryz.prog 68 #[.pointer (some ⟨d, 0, none⟩), .string k] w fun e w' => e = .returned (.int .i64 (chC s k)) ∧ (rmS s k).Is Xs w' d F N ∧ Turns (DSet d F) w w' := by
  obtain ⟨off, fuse, p⟩ := s
  unfold Dk.Is at h
  simp only at h
  have HB : Hid (Turns (fun _ => False) w ((w.alloc (.cells #[.pointer (some ⟨d, 0, none⟩)] 32)).alloc (.cells #[.string k] 9))) := Lib.hid (.of_below (Below.new2 w (.cells #[.pointer (some ⟨d, 0, none⟩)] 32) (.cells #[.string k] 9)))
  have K0 : Hid (Blk ((w.alloc (.cells #[.pointer (some ⟨d, 0, none⟩)] 32)).alloc (.cells #[.string k] 9)) w.heap.size 32 [.pointer (some ⟨d, 0, none⟩)]) := Lib.hid ((Blk.new w 32 [.pointer (some ⟨d, 0, none⟩)]).alloc (.cells #[.string k] 9))
  have K1 : Hid (Blk ((w.alloc (.cells #[.pointer (some ⟨d, 0, none⟩)] 32)).alloc (.cells #[.string k] 9)) (w.heap.size + 1) 9 [.string k]) := Lib.hid (Blk.new2 w (.cells #[.pointer (some ⟨d, 0, none⟩)] 32) 9 [.string k])
  have HH := Lib.hid h
  have HD := Lib.hid (h.keep HB.out id id (fun _ _ _ _ => id))
  have hlt := h.lts
  clear h
  go_enter Tryz.func68, Tryz.ntmps68
  go_upto_region 1 with (fail)
  generalize ((w.alloc (.cells #[.pointer (some ⟨d, 0, none⟩)] 32)).alloc (.cells #[.string k] 9)) = X at *
  generalize w.heap.size = g at *
  have HT := Lib.hid (thereD X d F N off fuse p HD.out k)
  have x0 := K0.out.box
  have x1 := K1.out.box
  cases off with
  | true =>
    unfold thC at HT
    simp only [if_true] at HT
    go_wp2_with (go_at_call 48; refine HT.out.mono ?_; rintro e w2 ⟨rfl, hb2⟩; have HB2 := Lib.hid hb2; clear hb2)
    go_ret
    exact ⟨rfl, (HH.out.keep (HB.out.then (.of_below HB2.out)) id id (fun _ _ _ _ => id)), (HB.out.then (.of_below HB2.out)).mono (fun _ _ e => e.elim)⟩
  | false =>
    cases hpk : (p k).isSome with
    | false =>
      rw [hpk] at HT
      have HP := Lib.hid hpk
      clear hpk
      unfold thC at HT
      simp only [if_false, Bool.false_eq_true] at HT
      go_wp2_with (go_at_call 48; refine HT.out.mono ?_; rintro e w2 ⟨rfl, hb2⟩; have HB2 := Lib.hid hb2; clear hb2)
      go_ret
      refine ⟨by simp [chC, HP.out], ?_, (HB.out.then (.of_below HB2.out)).mono (fun _ _ e => e.elim)⟩
      have := HH.out.keep (HB.out.then (.of_below HB2.out)) id id (fun _ _ _ _ => id)
      simpa [Dk.Is, rmS, chS, HP.out] using this
    | true =>
      rw [hpk] at HT
      have HP := Lib.hid hpk
      clear hpk
      unfold thC at HT
      simp only [if_true, if_false, Bool.false_eq_true] at HT
      go_upto_region 4 with (go_at_call 48; refine HT.out.mono ?_; rintro e w2 ⟨rfl, hb2⟩; have HB2 := Lib.hid hb2; clear hb2)
      clear x0 x1
      have y0 := (K0.out.bel HB2.out).box
      have HD2 := Lib.hid (HD.out.bel HB2.out)
      have HBX2 := Lib.hid (Box2.mk (w := w2) (b := g) (n := g + 1) (d := d) (k := k) y0 (K1.out.bel HB2.out).box)
      by_cases hf : fuse = 0
      · subst hf
        have HC := Lib.hid (fun f => change_down w2 d F N false p HD2.out f)
        go_wp2_with fail
        refine (HC.out _).mono ?_
        rintro e w3 ⟨rfl, hd3, ht3⟩
        have HD3 := Lib.hid hd3
        have HT3 := Lib.hid ht3
        clear hd3 ht3 HC
        go_wp2_with fail
        go_ret
        refine ⟨by simp [chC, HP.out], ?_, ((HB.out.then (.of_below HB2.out)).mono (T := DSet d F) (fun _ _ e => e.elim)).then HT3.out⟩
        have := HD3.out
        simpa [Dk.Is, rmS, chS, HP.out] using this
      · have HC := Lib.hid (change_go w2 d F N false fuse hf p HD2.out false 84 #[.pointer (some ⟨g, 0, none⟩), .pointer (some ⟨g + 1, 0, none⟩)] (ent_rm _) (fun w' => DS Xs w' d F false (lessF fuse) (wip p k) N ∧ Turns (DSet d F) w2 w')
          (fun w1 h1 t1 => (rmDo w1 g (g + 1) d F N false (lessF fuse) p k h1 (HBX2.out.turns t1 (by unfold DSet; omega) (by unfold DSet; omega))).mono fun e w' ⟨he, hd, ht⟩ => ⟨he, hd, t1.then ht⟩))
        have hgd : ¬ (g = d ∨ g = F) ∧ ¬ (g + 1 = d ∨ g + 1 = F) := by omega
        go_wp2_with fail
        refine HC.out.mono ?_
        rintro e w3 ⟨rfl, hd3, ht3⟩
        have HD3 := Lib.hid hd3
        have HT3 := Lib.hid ht3
        clear hd3 ht3 HC
        go_wp2_with fail
        go_ret
        refine ⟨by simp [chC, HP.out, hf], ?_, ((HB.out.then (.of_below HB2.out)).mono (T := DSet d F) (fun _ _ e => e.elim)).then HT3.out⟩
        have := HD3.out
        simpa [Dk.Is, rmS, chS, HP.out, hf] using this
set_option maxRecDepth 20000 in
set_option maxHeartbeats 1000000 in
theorem syncD (w : World) (d F N : Nat) (s : Dk) (h : s.Is Xs w d F N) (k : ByteArray) :
    Calls Tryz.prog 26 #[.pointer (some ⟨d, 0, none⟩), .string k] w fun e w' => e = .returned (.int .i64 (chC s k)) ∧ (syS s k).Is Xs w' d F N ∧ Turns (DSet d F) w w' := by
  obtain ⟨off, fuse, p⟩ := s
  unfold Dk.Is at h
  simp only at h
  have HB : Hid (Turns (fun _ => False) w ((w.alloc (.cells #[.pointer (some ⟨d, 0, none⟩)] 32)).alloc (.cells #[.string k] 9))) := Lib.hid (.of_below (Below.new2 w (.cells #[.pointer (some ⟨d, 0, none⟩)] 32) (.cells #[.string k] 9)))
  have K0 : Hid (Blk ((w.alloc (.cells #[.pointer (some ⟨d, 0, none⟩)] 32)).alloc (.cells #[.string k] 9)) w.heap.size 32 [.pointer (some ⟨d, 0, none⟩)]) := Lib.hid ((Blk.new w 32 [.pointer (some ⟨d, 0, none⟩)]).alloc (.cells #[.string k] 9))
  have K1 : Hid (Blk ((w.alloc (.cells #[.pointer (some ⟨d, 0, none⟩)] 32)).alloc (.cells #[.string k] 9)) (w.heap.size + 1) 9 [.string k]) := Lib.hid (Blk.new2 w (.cells #[.pointer (some ⟨d, 0, none⟩)] 32) 9 [.string k])
  have HH := Lib.hid h
  have HD := Lib.hid (h.keep HB.out id id (fun _ _ _ _ => id))
  have hlt := h.lts
  clear h
  go_enter Tryz.func26, Tryz.ntmps26
  go_upto_region 1 with (fail)
  generalize ((w.alloc (.cells #[.pointer (some ⟨d, 0, none⟩)] 32)).alloc (.cells #[.string k] 9)) = X at *
  generalize w.heap.size = g at *
  have HT := Lib.hid (thereD X d F N off fuse p HD.out k)
  have x0 := K0.out.box
  have x1 := K1.out.box
  cases off with
  | true =>
    unfold thC at HT
    simp only [if_true] at HT
    go_wp2_with (go_at_call 48; refine HT.out.mono ?_; rintro e w2 ⟨rfl, hb2⟩; have HB2 := Lib.hid hb2; clear hb2)
    go_ret
    exact ⟨rfl, (HH.out.keep (HB.out.then (.of_below HB2.out)) id id (fun _ _ _ _ => id)), (HB.out.then (.of_below HB2.out)).mono (fun _ _ e => e.elim)⟩
  | false =>
    cases hpk : (p k).isSome with
    | false =>
      rw [hpk] at HT
      have HP := Lib.hid hpk
      clear hpk
      unfold thC at HT
      simp only [if_false, Bool.false_eq_true] at HT
      go_wp2_with (go_at_call 48; refine HT.out.mono ?_; rintro e w2 ⟨rfl, hb2⟩; have HB2 := Lib.hid hb2; clear hb2)
      go_ret
      refine ⟨by simp [chC, HP.out], ?_, (HB.out.then (.of_below HB2.out)).mono (fun _ _ e => e.elim)⟩
      have := HH.out.keep (HB.out.then (.of_below HB2.out)) id id (fun _ _ _ _ => id)
      simpa [Dk.Is, syS, chS, HP.out] using this
    | true =>
      rw [hpk] at HT
      have HP := Lib.hid hpk
      clear hpk
      unfold thC at HT
      simp only [if_true, if_false, Bool.false_eq_true] at HT
      go_upto_region 4 with (go_at_call 48; refine HT.out.mono ?_; rintro e w2 ⟨rfl, hb2⟩; have HB2 := Lib.hid hb2; clear hb2)
      clear x0 x1
      have y0 := (K0.out.bel HB2.out).box
      have HD2 := Lib.hid (HD.out.bel HB2.out)
      have HBX2 := Lib.hid (Box2.mk (w := w2) (b := g) (n := g + 1) (d := d) (k := k) y0 (K1.out.bel HB2.out).box)
      by_cases hf : fuse = 0
      · subst hf
        have HC := Lib.hid (fun f => change_down w2 d F N false p HD2.out f)
        go_wp2_with fail
        refine (HC.out _).mono ?_
        rintro e w3 ⟨rfl, hd3, ht3⟩
        have HD3 := Lib.hid hd3
        have HT3 := Lib.hid ht3
        clear hd3 ht3 HC
        go_wp2_with fail
        go_ret
        refine ⟨by simp [chC, HP.out], ?_, ((HB.out.then (.of_below HB2.out)).mono (T := DSet d F) (fun _ _ e => e.elim)).then HT3.out⟩
        have := HD3.out
        simpa [Dk.Is, syS, chS, HP.out] using this
      · have HC := Lib.hid (change_go w2 d F N false fuse hf p HD2.out false 49 #[.pointer (some ⟨g, 0, none⟩), .pointer (some ⟨g + 1, 0, none⟩)] (ent_sy _) (fun w' => DS Xs w' d F false (lessF fuse) (upd p k ((pl p k).1, (pl p k).1.length)) N ∧ Turns (DSet d F) w2 w')
          (fun w1 h1 t1 => (syDo w1 g (g + 1) d F N false (lessF fuse) p k h1 (HBX2.out.turns t1 (by unfold DSet; omega) (by unfold DSet; omega)) HP.out).mono fun e w' ⟨he, hd, ht⟩ => ⟨he, hd, t1.then ht⟩))
        have hgd : ¬ (g = d ∨ g = F) ∧ ¬ (g + 1 = d ∨ g + 1 = F) := by omega
        go_wp2_with fail
        refine HC.out.mono ?_
        rintro e w3 ⟨rfl, hd3, ht3⟩
        have HD3 := Lib.hid hd3
        have HT3 := Lib.hid ht3
        clear hd3 ht3 HC
        go_wp2_with fail
        go_ret
        refine ⟨by simp [chC, HP.out, hf], ?_, ((HB.out.then (.of_below HB2.out)).mono (T := DSet d F) (fun _ _ e => e.elim)).then HT3.out⟩
        have := HD3.out
        simpa [Dk.Is, syS, chS, HP.out, hf] using this
set_option maxRecDepth 20000 in
set_option maxHeartbeats 1000000 in
theorem renameD (w : World) (d F N : Nat) (s : Dk) (h : s.Is Xs w d F N) (k k2 : ByteArray) :
    Calls Tryz.prog 61 #[.pointer (some ⟨d, 0, none⟩), .string k, .string k2] w fun e w' => e = .returned (.int .i64 (chC s k)) ∧ (mvS s k k2).Is Xs w' d F (N + 1) ∧ Turns (DSet d F) w w' := by
  obtain ⟨off, fuse, p⟩ := s
  unfold Dk.Is at h
  simp only at h
  have HB : Hid (Turns (fun _ => False) w (((w.alloc (.cells #[.pointer (some ⟨d, 0, none⟩)] 32)).alloc (.cells #[.string k] 9)).alloc (.cells #[.string k2] 9))) := Lib.hid (.of_below (Below.new3 w (.cells #[.pointer (some ⟨d, 0, none⟩)] 32) (.cells #[.string k] 9) (.cells #[.string k2] 9)))
  have K2 : Hid (Blk (((w.alloc (.cells #[.pointer (some ⟨d, 0, none⟩)] 32)).alloc (.cells #[.string k] 9)).alloc (.cells #[.string k2] 9)) (w.heap.size + 1 + 1) 9 [.string k2]) := Lib.hid (Blk.new3 w (.cells #[.pointer (some ⟨d, 0, none⟩)] 32) (.cells #[.string k] 9) 9 [.string k2])
  have K0 : Hid (Blk (((w.alloc (.cells #[.pointer (some ⟨d, 0, none⟩)] 32)).alloc (.cells #[.string k] 9)).alloc (.cells #[.string k2] 9)) w.heap.size 32 [.pointer (some ⟨d, 0, none⟩)]) := Lib.hid (((Blk.new w 32 [.pointer (some ⟨d, 0, none⟩)]).alloc (.cells #[.string k] 9)).alloc (.cells #[.string k2] 9))
  have K1 : Hid (Blk (((w.alloc (.cells #[.pointer (some ⟨d, 0, none⟩)] 32)).alloc (.cells #[.string k] 9)).alloc (.cells #[.string k2] 9)) (w.heap.size + 1) 9 [.string k]) := Lib.hid ((Blk.new2 w (.cells #[.pointer (some ⟨d, 0, none⟩)] 32) 9 [.string k]).alloc (.cells #[.string k2] 9))
  have HH := Lib.hid h
  have HD := Lib.hid (h.keep HB.out id id (fun _ _ _ _ => id))
  have hlt := h.lts
  clear h
  go_enter Tryz.func61, Tryz.ntmps61
  go_upto_region 1 with (fail)
  generalize (((w.alloc (.cells #[.pointer (some ⟨d, 0, none⟩)] 32)).alloc (.cells #[.string k] 9)).alloc (.cells #[.string k2] 9)) = X at *
  generalize w.heap.size = g at *
  have HT := Lib.hid (thereD X d F N off fuse p HD.out k)
  have x0 := K0.out.box
  have x1 := K1.out.box
  cases off with
  | true =>
    unfold thC at HT
    simp only [if_true] at HT
    go_wp2_with (go_at_call 48; refine HT.out.mono ?_; rintro e w2 ⟨rfl, hb2⟩; have HB2 := Lib.hid hb2; clear hb2)
    go_ret
    exact ⟨rfl, (HH.out.keep (HB.out.then (.of_below HB2.out)) id id (fun _ _ _ _ => id)).wide (Nat.le_succ N), (HB.out.then (.of_below HB2.out)).mono (fun _ _ e => e.elim)⟩
  | false =>
    cases hpk : (p k).isSome with
    | false =>
      rw [hpk] at HT
      have HP := Lib.hid hpk
      clear hpk
      unfold thC at HT
      simp only [if_false, Bool.false_eq_true] at HT
      go_wp2_with (go_at_call 48; refine HT.out.mono ?_; rintro e w2 ⟨rfl, hb2⟩; have HB2 := Lib.hid hb2; clear hb2)
      go_ret
      refine ⟨by simp [chC, HP.out], ?_, (HB.out.then (.of_below HB2.out)).mono (fun _ _ e => e.elim)⟩
      have := HH.out.keep (HB.out.then (.of_below HB2.out)) id id (fun _ _ _ _ => id)
      simpa [Dk.Is, mvS, chS, HP.out] using this.wide (Nat.le_succ N)
    | true =>
      rw [hpk] at HT
      have HP := Lib.hid hpk
      clear hpk
      unfold thC at HT
      simp only [if_true, if_false, Bool.false_eq_true] at HT
      go_upto_region 4 with (go_at_call 48; refine HT.out.mono ?_; rintro e w2 ⟨rfl, hb2⟩; have HB2 := Lib.hid hb2; clear hb2)
      clear x0 x1
      have y0 := (K0.out.bel HB2.out).box
      have HD2 := Lib.hid (HD.out.bel HB2.out)
      have HBX2 := Lib.hid (Box2.mk (w := w2) (b := g) (n := g + 1) (d := d) (k := k) y0 (K1.out.bel HB2.out).box)
      have x2 := Lib.hid (K2.out.bel HB2.out).box
      by_cases hf : fuse = 0
      · subst hf
        have HC := Lib.hid (fun f => change_down w2 d F N false p HD2.out f)
        go_wp2_with fail
        refine (HC.out _).mono ?_
        rintro e w3 ⟨rfl, hd3, ht3⟩
        have HD3 := Lib.hid hd3
        have HT3 := Lib.hid ht3
        clear hd3 ht3 HC
        go_wp2_with fail
        go_ret
        refine ⟨by simp [chC, HP.out], ?_, ((HB.out.then (.of_below HB2.out)).mono (T := DSet d F) (fun _ _ e => e.elim)).then HT3.out⟩
        have := HD3.out
        simpa [Dk.Is, mvS, chS, HP.out] using this.wide (Nat.le_succ N)
      · have HC := Lib.hid (change_go w2 d F N false fuse hf p HD2.out false 78 #[.pointer (some ⟨g, 0, none⟩), .pointer (some ⟨g + 1, 0, none⟩), .pointer (some ⟨g + 1 + 1, 0, none⟩)] (ent_mv _) (fun w' => DS Xs w' d F false (lessF fuse) (upd (wip p k) k2 (pl p k)) (N + 1) ∧ Turns (DSet d F) w2 w')
          (fun w1 h1 t1 => (mvDo w1 g (g + 1) (g + 1 + 1) d F N false (lessF fuse) p k k2 h1 (HBX2.out.turns t1 (by unfold DSet; omega) (by unfold DSet; omega)) ((t1.cell (p := ⟨g + 1 + 1, 0, none⟩) (World.block_lt_of_cell? w2 _ x2.out) (show ¬ (g + 1 + 1 = d ∨ g + 1 + 1 = F) by omega)).trans x2.out)).mono fun e w' ⟨he, hd, ht⟩ => ⟨he, hd, t1.then ht⟩))
        have hgd : ¬ (g = d ∨ g = F) ∧ ¬ (g + 1 = d ∨ g + 1 = F) := by omega
        go_wp2_with fail
        refine HC.out.mono ?_
        rintro e w3 ⟨rfl, hd3, ht3⟩
        have HD3 := Lib.hid hd3
        have HT3 := Lib.hid ht3
        clear hd3 ht3 HC
        go_wp2_with fail
        go_ret
        refine ⟨by simp [chC, HP.out, hf], ?_, ((HB.out.then (.of_below HB2.out)).mono (T := DSet d F) (fun _ _ e => e.elim)).then HT3.out⟩
        have := HD3.out
        simpa [Dk.Is, mvS, chS, HP.out, hf] using this
set_option maxRecDepth 20000 in
set_option maxHeartbeats 1000000 in
theorem appendD (w : World) (d F N : Nat) (s : Dk) (h : s.Is Xs w d F N) (k : ByteArray) (B : Option Addr) (m c : Nat) (lb : List UInt8) (hs : Bs w B m lb) (hc : m ≤ c) (hL : (pl s.p k).1.length + lb.length ≤ 100000000) (hxs : ∀ g, Xs g → g < w.heap.size) :
    Calls Tryz.prog 19 #[.pointer (some ⟨d, 0, none⟩), .string k, .slice B m c] w fun e w' => e = .returned (.int .i64 (apC s)) ∧ (apS s k lb).Is Xs w' d F (N + 1) ∧ Turns (DSet d F) w w' := by
  obtain ⟨off, fuse, p⟩ := s
  unfold Dk.Is at h
  simp only at h hL
  have HB : Hid (Turns (fun _ => False) w (((w.alloc (.cells #[.pointer (some ⟨d, 0, none⟩)] 32)).alloc (.cells #[.string k] 9)).alloc (.cells #[.slice B m c] 30))) := Lib.hid (.of_below (Below.new3 w (.cells #[.pointer (some ⟨d, 0, none⟩)] 32) (.cells #[.string k] 9) (.cells #[.slice B m c] 30)))
  have K2 : Hid (Blk (((w.alloc (.cells #[.pointer (some ⟨d, 0, none⟩)] 32)).alloc (.cells #[.string k] 9)).alloc (.cells #[.slice B m c] 30)) (w.heap.size + 1 + 1) 30 [.slice B m c]) := Lib.hid (Blk.new3 w (.cells #[.pointer (some ⟨d, 0, none⟩)] 32) (.cells #[.string k] 9) 30 [.slice B m c])
  have K0 : Hid (Blk (((w.alloc (.cells #[.pointer (some ⟨d, 0, none⟩)] 32)).alloc (.cells #[.string k] 9)).alloc (.cells #[.slice B m c] 30)) w.heap.size 32 [.pointer (some ⟨d, 0, none⟩)]) := Lib.hid (((Blk.new w 32 [.pointer (some ⟨d, 0, none⟩)]).alloc (.cells #[.string k] 9)).alloc (.cells #[.slice B m c] 30))
  have K1 : Hid (Blk (((w.alloc (.cells #[.pointer (some ⟨d, 0, none⟩)] 32)).alloc (.cells #[.string k] 9)).alloc (.cells #[.slice B m c] 30)) (w.heap.size + 1) 9 [.string k]) := Lib.hid ((Blk.new2 w (.cells #[.pointer (some ⟨d, 0, none⟩)] 32) 9 [.string k]).alloc (.cells #[.slice B m c] 30))
  have HH := Lib.hid h
  have HXS : Hid (∀ r, Xs r → r < (((w.alloc (.cells #[.pointer (some ⟨d, 0, none⟩)] 32)).alloc (.cells #[.string k] 9)).alloc (.cells #[.slice B m c] 30)).heap.size) := Lib.hid (fun r hr => Nat.lt_of_lt_of_le (hxs r hr) HB.out.size)
  have HD := Lib.hid (h.keep HB.out id id (fun _ _ _ _ => id))
  have HS := Lib.hid (hs.below (Below.new3 w (.cells #[.pointer (some ⟨d, 0, none⟩)] 32) (.cells #[.string k] 9) (.cells #[.slice B m c] 30)))
  have HSL : Hid (∀ ad, B = some ad → 0 < lb.length → ad.block < w.heap.size) := Lib.hid (fun ad e h0 => by
    obtain ⟨ad', e', hlt, _⟩ := hs.cell 0 h0
    obtain rfl : ad' = ad := Option.some.inj (e'.symm.trans e)
    exact hlt)
  have hlt := h.lts
  clear h hs hxs
  go_enter Tryz.func19, Tryz.ntmps19
  go_upto_region 1 with (fail)
  generalize ((w.alloc (.cells #[.pointer (some ⟨d, 0, none⟩)] 32)).alloc (.cells #[.string k] 9)).alloc (.cells #[.slice B m c] 30) = X at *
  generalize w.heap.size = g at *
  have HT := Lib.hid (goesD X d F N off fuse p HD.out)
  have x0 := K0.out.box
  cases off with
  | true =>
    unfold goC at HT
    simp only [if_true] at HT
    go_wp2_with (go_at_call 41; refine HT.out.mono ?_; rintro e w2 ⟨rfl, rfl⟩)
    go_ret
    exact ⟨rfl, (HH.out.keep HB.out id id (fun _ _ _ _ => id)).wide (Nat.le_succ N), HB.out.mono (fun _ _ e => e.elim)⟩
  | false =>
    unfold goC at HT
    simp only [if_false, Bool.false_eq_true] at HT
    go_upto_region 4 with (go_at_call 41; refine HT.out.mono ?_; rintro e w2 ⟨rfl, rfl⟩)
    have hdo : ∀ w1 f2 o2, DS Xs w1 d F o2 f2 p N → Turns (DSet d F) w2 w1 → Calls Tryz.prog 43 #[.pointer (some ⟨g, 0, none⟩), .pointer (some ⟨g + 1, 0, none⟩), .pointer (some ⟨g + 1 + 1, 0, none⟩)] w1 fun e w' => e = .returned (.tuple #[]) ∧ (DS Xs w' d F o2 f2 (upd p k ((pl p k).1 ++ lb, (pl p k).2)) (N + 1) ∧ Turns (DSet d F) w2 w') := fun w1 f2 o2 h1 t1 => by
      have hS1 : Bs w1 B m lb := HS.out.kept t1.size (fun ad e h0 => t1.block _ (by obtain ⟨ad', e', hlt, _⟩ := HS.out.cell 0 h0; obtain rfl : ad' = ad := Option.some.inj (e'.symm.trans e); exact hlt) (fun e2 => by
        obtain ⟨mv, n1, _, hm, _⟩ := HD.out.files
        obtain ⟨ad', e', _, hc0⟩ := HS.out.cell 0 h0
        obtain rfl : ad' = ad := Option.some.inj (e'.symm.trans e)
        have hc1 : w2.cell? ad' = some (.int .u8 (lb[0].toNat : Int)) := by simpa [Addr.add] using hc0
        rcases e2 with e2 | e2
        · exact no_u8 HD.out.blk ad' e2 _ hc1
        · obtain ⟨es, clock, hb, _⟩ := hm
          unfold World.cell? at hc1
          rw [e2, hb] at hc1
          simp at hc1))
      exact (apDo w1 g (g + 1) (g + 1 + 1) d F N B m c lb hS1 hc o2 f2 p k h1 ((Box2.mk K0.out.box K1.out.box).turns t1 (by unfold DSet; omega) (by unfold DSet; omega)) ((t1.cell (p := ⟨g + 1 + 1, 0, none⟩) K2.out.lt (show ¬ (g + 1 + 1 = d ∨ g + 1 + 1 = F) by omega)).trans K2.out.box) (fun r hr => by have := HXS.out r hr; have := t1.size; omega) hL).mono fun e w' ⟨he, hd, ht⟩ => ⟨he, hd, t1.then ht⟩
    by_cases hf : fuse = 0
    · subst hf
      have HC := Lib.hid (change_late w2 d F N false p HD.out 43 #[.pointer (some ⟨g, 0, none⟩), .pointer (some ⟨g + 1, 0, none⟩), .pointer (some ⟨g + 1 + 1, 0, none⟩)] (ent_ap _) _ (fun w1 h1 t1 => hdo w1 (-1) true h1 t1))
      clear hdo
      go_wp2_with fail
      refine HC.out.mono ?_
      rintro e w3 ⟨rfl, hd3, ht3⟩
      have HD3 := Lib.hid hd3
      have HT3 := Lib.hid ht3
      clear hd3 ht3 HC
      go_wp2_with fail
      go_ret
      exact ⟨rfl, HD3.out, (HB.out.mono (T := DSet d F) (fun _ _ e => e.elim)).then HT3.out⟩
    · have HC := Lib.hid (change_go w2 d F N false fuse hf p HD.out true 43 #[.pointer (some ⟨g, 0, none⟩), .pointer (some ⟨g + 1, 0, none⟩), .pointer (some ⟨g + 1 + 1, 0, none⟩)] (ent_ap _) _ (fun w1 h1 t1 => hdo w1 (lessF fuse) false h1 t1))
      clear hdo
      go_wp2_with fail
      refine HC.out.mono ?_
      rintro e w3 ⟨rfl, hd3, ht3⟩
      have HD3 := Lib.hid hd3
      have HT3 := Lib.hid ht3
      clear hd3 ht3 HC
      go_wp2_with fail
      go_ret
      refine ⟨by simp [apC, hf], ?_, (HB.out.mono (T := DSet d F) (fun _ _ e => e.elim)).then HT3.out⟩
      have := HD3.out
      simpa [Dk.Is, apS, hf] using this
end Go.Proofs.YteihedfmmiihiaaGreat
