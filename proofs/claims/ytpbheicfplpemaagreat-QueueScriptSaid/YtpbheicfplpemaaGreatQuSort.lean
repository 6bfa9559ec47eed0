/- queue: those that are out, sorted by their tokens. -/
import Derived.Test.YtpbheicfplpemaaGreatQuApp
import Derived.Test.YtpbheicfplpemaaGreatQuShelf
import Derived.Test.YtpbheicfplpemaaGreatSortRow
import Derived.Sort.Grow
import Derived.Deep.Draws
namespace Go.Proofs.YtpbheicfplpemaaGreat
open Go.RowKit Go.Sort Go.Shelf

theorem ret_i {k : IntKind} {a b : Int} (h : a = b) : Ending.returned (.int k a) = .returned (.int k b) := by rw [h]
/-- a token's bounds -/
def OtOk (x : Ot) : Prop := 0 < x.token ∧ x.token ≤ 4611686018427387904
abbrev Ok7 := { x : Ot // OtOk x }
instance ot_inhabited : Inhabited Ok7 := ⟨⟨⟨⟨⟨#[]⟩, ⟨#[]⟩, 0, 0⟩, 1, ⟨#[]⟩, 0⟩, by unfold OtOk; decide⟩⟩
def encK (z : Ok7) : List Value := otC z.1
def cmpK (x y : Ok7) : Int := x.1.token - y.1.token
theorem grow2 (w : World) (o1 o2 : Obj) : ((w.alloc o1).alloc o2).drew = grow (w.drewN 1) #[o1, o2] := by
  rw [alloc_eq_grow, alloc_eq_grow, grow_grow]
  rfl
theorem grow2' (w : World) (o1 o2 : Obj) : ((w.alloc o1).alloc o2) = grow (w.drewN 0) #[o1, o2] := by
  rw [alloc_eq_grow, alloc_eq_grow, grow_grow]
  rfl
set_option maxRecDepth 20000 in
set_option maxHeartbeats 800000 in
theorem cmpO (x y : Ok7) (w : World) : Calls Tryz.prog 99 #[.agg (encK x).toArray, .agg (encK y).toArray] w fun e w' => e = .returned (.int .i64 (cmpK x y)) ∧ ∃ q os, w' = grow (w.drewN q) os := by
  obtain ⟨x, hx⟩ := x
  obtain ⟨y, hy⟩ := y
  have hw : IntKind.i64.wrap (x.token - y.token) = x.token - y.token := by
    unfold OtOk at hx hy
    rw [IntKind.wrap_i64]; omega
  have HE : Hid (x.token - y.token = cmpK ⟨x, hx⟩ ⟨y, hy⟩) := Lib.hid rfl
  unfold encK otC
  simp only
  go_enter Tryz.func99, Tryz.ntmps99
  go_wp2_with fail
  go_ret
  exact ⟨rfl, _, _, grow2' w _ _⟩
set_option maxRecDepth 20000 in
theorem len64_0 (w : World) : Calls Tryz.prog 127 #[.int .u64 0] w fun e w' => e = .returned (.int .i64 0) ∧ w' = w := by
  go_enter Tryz.func127, Tryz.ntmps127
  go_wp2_with fail
  go_ret
  exact ⟨ret_i (by kernel_rfl), rfl⟩
set_option maxRecDepth 20000 in
theorem len_0 (w : World) : Calls Tryz.prog 117 #[.int .u64 0] w fun e w' => e = .returned (.int .i64 0) ∧ w' = w := by
  go_enter Tryz.func117, Tryz.ntmps117
  go_wp2_with (go_at_call 127; refine (len64_0 _).mono ?_; rintro e w' ⟨rfl, rfl⟩)
  go_ret
  exact ⟨rfl, rfl⟩
set_option maxRecDepth 20000 in
theorem insertion0 (c : Value) (w : World) : Calls Tryz.prog 118 #[.slice none 0 0, .int .i64 0, .int .i64 0, c] w fun e w' => e = .returned (.tuple #[]) ∧ w' = w := by
  go_enter Tryz.func118, Tryz.ntmps118
  go_wp2_with fail
  refine wp_loop_rounds 1 ?_
  rw [rounds_succ]
  go_wp2_with fail
  go_end0
  exact ⟨rfl, rfl⟩
set_option maxRecDepth 20000 in
set_option maxHeartbeats 800000 in
theorem pdq0 (c : Value) (w : World) : Calls Tryz.prog 116 #[.slice none 0 0, .int .i64 0, .int .i64 0, .int .i64 0, c] w fun e w' => e = .returned (.tuple #[]) ∧ w' = w := by
  go_enter Tryz.func116, Tryz.ntmps116
  go_wp2_with fail
  refine wp_loop_rounds 1 ?_
  rw [rounds_succ]
  go_wp2_with (go_at_call 118; refine (insertion0 _ _).mono ?_; rintro e w' ⟨rfl, rfl⟩)
  (try simp only [Exit.inBlock, Exit.then]); refine bodyPost_ret (results_none rfl _ _ _) rfl ?_
  exact ⟨rfl, rfl⟩
set_option maxRecDepth 20000 in
theorem sort0 (c : Value) (w : World) : Calls Tryz.prog 112 #[.slice none 0 0, c] w fun e w' => e = .returned (.tuple #[]) ∧ w' = w := by
  go_enter Tryz.func112, Tryz.ntmps112
  go_wp2_with (first | (go_at_call 117; refine (len_0 _).mono ?_; rintro e w' ⟨rfl, rfl⟩) | (go_at_call 116; refine (pdq0 _ _).mono ?_; rintro e w' ⟨rfl, rfl⟩))
  go_end0
  exact ⟨rfl, rfl⟩
theorem ltK (x y : Ok7) : ltOf cmpK x y = decide (x.1.token - y.1.token < 0) := rfl
theorem swoK : SWO (ltOf cmpK) where
  irrefl x := by rw [ltK]; simp
  trans x y z h1 h2 := by rw [ltK] at *; simp only [decide_eq_true_eq] at *; omega
  ntrans x y z h1 h2 := by rw [ltK] at *; simp only [decide_eq_false_iff_not] at *; omega
/-- by rising tokens -/
def Ris (zs : List Ot) : Prop := zs.Pairwise fun a b => a.token < b.token
/-- those that are out, by rising tokens -/
structure OutsS (om : Int → Option Ot) (zs : List Ot) : Prop where
  ris : Ris zs
  mem : ∀ k x, om k = some x ↔ x ∈ zs ∧ x.token = k
/-- each lies at its token -/
def TokOk (om : Int → Option Ot) : Prop := ∀ k x, om k = some x → x.token = k ∧ OtOk x
theorem OutsAll.ok {om : Int → Option Ot} {ys : List Ot} (h : OutsAll om ys) (ht : TokOk om) : ∀ x ∈ ys, OtOk x := by
  obtain ⟨ks, _, _, he⟩ := h
  intro x hx
  have : some x ∈ ks.map om := by rw [← he]; exact List.mem_map.2 ⟨x, hx, rfl⟩
  obtain ⟨k, _, hk⟩ := List.mem_map.1 this
  exact (ht k x hk).2
theorem OutsAll.toks {om : Int → Option Ot} {ys : List Ot} (h : OutsAll om ys) (ht : TokOk om) : (ys.map (·.token)).Nodup ∧ ∀ k x, om k = some x ↔ x ∈ ys ∧ x.token = k := by
  obtain ⟨ks, hn, ha, he⟩ := h
  have hk : ∀ (ks : List Int) (ys : List Ot), ys.map some = ks.map om → ys.map (·.token) = ks := by
    intro ks
    induction ks with
    | nil => intro ys h; cases ys with
      | nil => rfl
      | cons y ys => simp at h
    | cons k ks ih => intro ys h; cases ys with
      | nil => simp at h
      | cons y ys =>
        simp only [List.map_cons, List.cons.injEq] at h
        rw [List.map_cons, ih ys h.2, (ht k y h.1.symm).1]
  have e := hk ks ys he
  refine ⟨by rw [e]; exact hn, fun k x => ⟨fun h => ?_, fun h => ?_⟩⟩
  · have h1 : some x ∈ ys.map some := by rw [he, ← h]; exact List.mem_map.2 ⟨k, ha k x h, rfl⟩
    obtain ⟨y, hy, e1⟩ := List.mem_map.1 h1
    cases e1
    exact ⟨hy, (ht k x h).1⟩
  · obtain ⟨h1, rfl⟩ := h
    have h2 : some x ∈ ks.map om := by rw [← he]; exact List.mem_map.2 ⟨x, h1, rfl⟩
    obtain ⟨k, _, hk⟩ := List.mem_map.1 h2
    rw [(ht k x hk).1]
    exact hk
theorem flat_pmap (ys : List Ot) (h : ∀ x ∈ ys, OtOk x) : (ys.pmap Subtype.mk h).flatMap encK = ys.flatMap otC := by
  induction ys with
  | nil => rfl
  | cons y ys ih => rw [List.pmap_cons, List.flatMap_cons, List.flatMap_cons, ih]; rfl
theorem flat_val (zs : List Ok7) : zs.flatMap encK = (zs.map (·.1)).flatMap otC := by
  induction zs with
  | nil => rfl
  | cons z zs ih => rw [List.flatMap_cons, List.map_cons, List.flatMap_cons, ih]; rfl
theorem outs_of {om : Int → Option Ot} {ys : List Ot} (h : OutsAll om ys) (ht : TokOk om) {zs : List Ok7} (hp : zs.Perm (ys.pmap Subtype.mk (h.ok ht))) (hs : SortedIn (ltOf cmpK) 0 zs.length zs.toArray) : OutsS om (zs.map (·.1)) := by
  obtain ⟨h1, h2⟩ := h.toks ht
  have hp2 : (zs.map (·.1)).Perm ys := by
    have := hp.map (·.1)
    rwa [List.map_pmap, show ys.pmap (fun a h => (Subtype.mk a h : Ok7).1) (h.ok ht) = ys from by simp] at this
  refine ⟨?_, fun k x => by rw [h2, hp2.mem_iff]⟩
  have hnd : ((zs.map (·.1)).map (·.token)).Nodup := (hp2.map _).nodup_iff.2 h1
  unfold Ris
  rw [List.pairwise_iff_getElem]
  intro i j hi hj hij
  simp only [List.length_map] at hi hj
  have h3 := hs i j (Nat.zero_le _) hij hj
  rw [getElem!_pos zs.toArray i (by simpa using hi), getElem!_pos zs.toArray j (by simpa using hj)] at h3
  rw [ltK] at h3
  simp only [decide_eq_false_iff_not, List.getElem_toArray] at h3
  have h4 : (zs[i]).1.token ≠ (zs[j]).1.token := by
    have := List.pairwise_iff_getElem.1 hnd i j (by simpa using hi) (by simpa using hj) hij
    simpa using this
  simp only [List.getElem_map]
  omega
theorem ownsRow_base' {W : World} {base base' : Nat} {e : TypeId} {size : Nat} {v : Value} {k : Nat} {xs : List Value} (h : W.ownsRow base e size v k xs) (hb : base' ≤ base) : W.ownsRow base' e size v k xs := by
  refine ⟨h.1, ?_⟩
  rcases h.2 with hn | ⟨g, cap, cur, hv, hbg, rest⟩
  · exact .inl hn
  · exact .inr ⟨g, cap, cur, hv, Nat.le_trans hb hbg, rest⟩
set_option maxRecDepth 20000 in
theorem sortO_any (w : World) (base g cap n : Nat) (xs : List Ok7) (h : w.ownsRow base 88 7 (.slice (some ⟨g, 0, none⟩) n cap) n (xs.flatMap encK)) (hn : n = xs.length) (hg : g < w.heap.size) (hle : xs.length ≤ 1000000) :
    Calls Tryz.prog 112 #[.slice (some ⟨g, 0, none⟩) n cap, .func (.func 99) #[] #[]] w fun e w' => e = .returned (.tuple #[]) ∧
      ∃ ys : List Ok7, ys.Perm xs ∧ SortedIn (ltOf cmpK) 0 n ys.toArray ∧ w'.ownsRow base 88 7 (.slice (some ⟨g, 0, none⟩) n cap) n (ys.flatMap encK) ∧ w.grownBy w' (some g) := by
  have := sort_own encK 7 (fun _ => rfl) (by omega) Tryz.sortO Tryz.isAgg88 Tryz.sizeOf88 (fun x v hv => by simp [encK, otC] at hv; rcases hv with rfl | rfl | rfl | rfl | rfl | rfl | rfl <;> rfl) cmpK swoK 99 #[]
    (enters_of Tryz.func99 (by kernel_rfl) rfl) w base g cap n 88 xs (fun _ _ _ _ x y => cmpO x y _) h hn hg hle
  exact this
end Go.Proofs.YtpbheicfplpemaaGreat
