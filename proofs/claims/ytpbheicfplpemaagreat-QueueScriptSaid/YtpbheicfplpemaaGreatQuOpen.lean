/- queue: Open, at any bytes. -/
import Derived.Test.YtpbheicfplpemaaGreatQuAway
import Derived.Test.YtpbheicfplpemaaGreatQuHeadAny
import Derived.Deep.OwnRows
namespace Go.Proofs.YtpbheicfplpemaaGreat
open Go.RowKit

/-- those that are out, by rising tokens -/
def OutsQ (om : Int → Option Ot) (zs : List Ot) : Prop := zs.Pairwise (fun a b => a.token < b.token) ∧ ∀ k x, om k = some x ↔ x ∈ zs ∧ x.token = k
/-- what is known of the keys -/
structure TmQ (ts : List Tk) (zs : List Ot) (tm : ByteArray → Option Int) : Prop where
  wait : ∀ t ∈ ts, tm t.key = some 0
  out : ∀ x ∈ zs, tm x.tk.key = some x.token
  dom : ∀ k v, tm k = some v → keyT ts k = true ∨ keyO zs k = true
  nd : (ts.map (·.key)).Nodup
  pos : ∀ x ∈ zs, 0 < x.token
theorem OutsQ.nil : OutsQ (fun _ => none) [] := ⟨List.Pairwise.nil, fun k x => by simp⟩
theorem TmQ.nil : TmQ [] [] (fun _ => none) := ⟨by simp, by simp, fun k v h => by simp at h, by simp, by simp⟩
theorem TmQ.free {ts : List Tk} {zs : List Ot} {tm : ByteArray → Option Int} (h : TmQ ts zs tm) {k : ByteArray} : tm k = none ↔ (keyT ts k || keyO zs k) = false := by
  constructor
  · intro h0
    cases h1 : keyT ts k with
    | true => obtain ⟨t, ht, rfl⟩ := keyT_is.1 h1; rw [h.wait t ht] at h0; cases h0
    | false =>
      cases h2 : keyO zs k with
      | true => obtain ⟨x, hx, rfl⟩ := keyO_is.1 h2; rw [h.out x hx] at h0; cases h0
      | false => rfl
  · intro h0
    cases h1 : tm k with
    | none => rfl
    | some v =>
      rcases h.dom k v h1 with e | e
      · rw [e] at h0; simp at h0
      · rw [e] at h0; simp at h0
theorem keyT_snoc (ts : List Tk) (t : Tk) (k : ByteArray) : keyT (ts ++ [t]) k = (keyT ts k || decide (t.key = k)) := by simp [keyT]
theorem keyO_snoc (zs : List Ot) (x : Ot) (k : ByteArray) : keyO (zs ++ [x]) k = (keyO zs k || decide (x.tk.key = k)) := by simp [keyO]
theorem TmQ.put {ts : List Tk} {zs : List Ot} {tm : ByteArray → Option Int} (h : TmQ ts zs tm) {t : Tk} (hn : tm t.key = none) : TmQ (ts ++ [t]) zs (updS tm t.key 0) where
  wait s hs := by
    unfold updS
    split
    · rfl
    · rename_i hne
      rcases List.mem_append.1 hs with hs | hs
      · exact h.wait s hs
      · simp at hs; subst hs; exact absurd rfl hne
  out x hx := by
    unfold updS
    rw [if_neg (fun e => by rw [← e, h.out x hx] at hn; cases hn)]
    exact h.out x hx
  dom k v hk := by
    rw [keyT_snoc]
    unfold updS at hk
    split at hk
    · rename_i e; subst e; simp
    · rcases h.dom k v hk with e | e
      · left; rw [e]; rfl
      · exact .inr e
  nd := by
    rw [List.map_append, List.nodup_append]
    refine ⟨h.nd, by simp, fun a ha b hb e => ?_⟩
    simp at hb
    subst hb
    obtain ⟨s, hs, he⟩ := List.mem_map.1 ha
    have h1 := h.wait s hs
    have h2 : s.key = t.key := he.trans e
    rw [h2, hn] at h1
    cases h1
  pos := h.pos
theorem TmQ.send {ts : List Tk} {zs : List Ot} {tm : ByteArray → Option Int} (h : TmQ ts zs tm) {x : Ot} (hn : tm x.tk.key = none) (hp : 0 < x.token) : TmQ ts (zs ++ [x]) (updS tm x.tk.key x.token) where
  wait s hs := by
    unfold updS
    rw [if_neg (fun e => by rw [← e, h.wait s hs] at hn; cases hn)]
    exact h.wait s hs
  out y hy := by
    unfold updS
    split
    · rename_i e
      rcases List.mem_append.1 hy with hy | hy
      · have := h.out y hy; rw [e, hn] at this; cases this
      · simp at hy; subst hy; rfl
    · rename_i hne
      rcases List.mem_append.1 hy with hy | hy
      · exact h.out y hy
      · simp at hy; subst hy; exact absurd rfl hne
  dom k v hk := by
    rw [keyO_snoc]
    unfold updS at hk
    split at hk
    · rename_i e; subst e; simp
    · rcases h.dom k v hk with e | e
      · exact .inl e
      · right; rw [e]; rfl
  nd := h.nd
  pos y hy := by
    rcases List.mem_append.1 hy with hy | hy
    · exact h.pos y hy
    · simp at hy; subst hy; exact hp
theorem OutsQ.send {om : Int → Option Ot} {zs : List Ot} {last : Int} (h : OutsQ om zs) (hl : ∀ y ∈ zs, y.token ≤ last) {x : Ot} (hx : last < x.token) : OutsQ (updI om x.token x) (zs ++ [x]) := by
  refine ⟨List.pairwise_append.2 ⟨h.1, List.pairwise_singleton _ _, fun a ha b hb => ?_⟩, fun k y => ?_⟩
  · simp at hb; subst hb; have := hl a ha; omega
  · unfold updI
    split
    · rename_i e
      subst e
      constructor
      · intro e; injection e with e; subst e; simp
      · rintro ⟨hy, e⟩
        rcases List.mem_append.1 hy with hy | hy
        · have := hl y hy; omega
        · simp at hy; subst hy; rfl
    · rename_i hne
      rw [h.2 k y]
      constructor
      · rintro ⟨h1, h2⟩; exact ⟨List.mem_append_left _ h1, h2⟩
      · rintro ⟨h1, h2⟩
        rcases List.mem_append.1 h1 with h1 | h1
        · exact ⟨h1, h2⟩
        · simp at h1; subst h1; exact absurd h2.symm hne

/-- what is read behind so many tasks that still wait to be read -/
def rest1 (l : List UInt8) (h : Nat × Int × Nat) (k a : Nat) (ts : List Tk) : Except (Nat × Nat) (Qp × Nat) :=
  match rdWs l k a ts with
  | .error e => .error e
  | .ok r => rdQo l h r
def rest2 (l : List UInt8) (h : Nat × Int × Nat) (ts : List Tk) (k a : Nat) (last : Int) (zs : List Ot) : Except (Nat × Nat) (Qp × Nat) :=
  match rdOs l h.2.2 ts k a last zs with
  | .error e => .error e
  | .ok r => rdEnd l h ts r
section
variable {l : List UInt8} {h : Nat × Int × Nat} {k a tz p en : Nat} {ts : List Tk} {t : Tk} {last : Int} {zs : List Ot} {x : Ot}
theorem rest1_er (hr : rdTk l a = .error (p, en)) : rest1 l h (k + 1) a ts = .error (p, en) := by
  unfold rest1; conv => lhs; unfold rdWs
  rw [hr]
theorem rest1_there (hr : rdTk l a = .ok (t, tz)) (hk : keyT ts t.key = true) : rest1 l h (k + 1) a ts = .error (a, 6) := by
  unfold rest1; conv => lhs; unfold rdWs
  rw [hr]; simp only; rw [if_pos hk]
theorem rest1_go (hr : rdTk l a = .ok (t, tz)) (hk : keyT ts t.key = false) : rest1 l h (k + 1) a ts = rest1 l h k tz (ts ++ [t]) := by
  unfold rest1; conv => lhs; unfold rdWs
  rw [hr]; simp only; rw [if_neg (by rw [hk]; simp)]
theorem rest2_er (hr : rdOt l a = .error (p, en)) : rest2 l h ts (k + 1) a last zs = .error (p, en) := by
  unfold rest2; conv => lhs; unfold rdOs
  rw [hr]
theorem rest2_there (hr : rdOt l a = .ok (x, tz)) (hk : (keyT ts x.tk.key || keyO zs x.tk.key) = true) : rest2 l h ts (k + 1) a last zs = .error (a, 6) := by
  unfold rest2; conv => lhs; unfold rdOs
  rw [hr]; simp only; rw [if_pos hk]
theorem rest2_bad (hr : rdOt l a = .ok (x, tz)) (hk : (keyT ts x.tk.key || keyO zs x.tk.key) = false) (hb : badO (h.2.2 : Nat) last x = true) : rest2 l h ts (k + 1) a last zs = .error (a, 3) := by
  unfold rest2; conv => lhs; unfold rdOs
  rw [hr]; simp only; rw [if_neg (by rw [hk]; simp), if_pos hb]
theorem rest2_go (hr : rdOt l a = .ok (x, tz)) (hk : (keyT ts x.tk.key || keyO zs x.tk.key) = false) (hb : badO (h.2.2 : Nat) last x = false) : rest2 l h ts (k + 1) a last zs = rest2 l h ts k tz x.token (zs ++ [x]) := by
  unfold rest2; conv => lhs; unfold rdOs
  rw [hr]; simp only; rw [if_neg (by rw [hk]; simp), if_neg (by rw [hb]; simp)]
end
/-- what Open says -/
def OpenQ (w : World) (l : List UInt8) (e : Ending) (w' : World) : Prop :=
  (match rdQ l with
  | .ok (x, n) => ∃ q wv O T om tm, e = .returned (.tuple #[.pointer (some ⟨q, 0, none⟩), .int .i64 (n : Int), .int .i64 0]) ∧ QS w' q (x.most : Int) x.grace (x.next : Int) wv x.ts O T om tm ∧ OutsQ om x.zs ∧ TmQ x.ts x.zs tm ∧ (∀ i, QSet q wv O T i → w.heap.size ≤ i)
  | .error (p, en) => e = .returned (.tuple #[.pointer none, .int .i64 (p : Int), .int .i64 (en : Int)])) ∧ Below w.heap.size w w'
theorem OpenQ.er {w w' : World} {l : List UInt8} {p en : Nat} (h : rdQ l = .error (p, en)) (hb : Below w.heap.size w w') : OpenQ w l (.returned (.tuple #[.pointer none, .int .i64 (p : Int), .int .i64 (en : Int)])) w' := by
  unfold OpenQ
  rw [h]
  exact ⟨rfl, hb⟩
theorem OpenQ.ok {w w' : World} {l : List UInt8} {x : Qp} {n q : Nat} {wv : Value} {O T : Nat} {om : Int → Option Ot} {tm : ByteArray → Option Int} (h : rdQ l = .ok (x, n)) (hb : Below w.heap.size w w') (hq : QS w' q (x.most : Int) x.grace (x.next : Int) wv x.ts O T om tm) (ho : OutsQ om x.zs) (ht : TmQ x.ts x.zs tm) (hl : ∀ i, QSet q wv O T i → w.heap.size ≤ i) : OpenQ w l (.returned (.tuple #[.pointer (some ⟨q, 0, none⟩), .int .i64 (n : Int), .int .i64 0])) w' := by
  unfold OpenQ
  rw [h]
  exact ⟨⟨q, wv, O, T, om, tm, rfl, hq, ho, ht, hl⟩, hb⟩
theorem er_new (w : World) (A : Option Addr) (len cap : Nat) (l : List UInt8) (h : In w A len cap l) : ER (w.alloc (.cells #[.slice A len cap, .int .i64 0, .int .i64 0] 57)) w.heap.size 57 [] A len cap l 0 0 :=
  ⟨heap_alloc_new w _, h.below (Below.new w _), fun ad e h0 => by have := h.lt ad e h0; omega, Nat.zero_le _⟩
set_option maxRecDepth 20000 in
set_option maxHeartbeats 4000000 in
theorem openE (w : World) (A : Option Addr) (len cap : Nat) (l : List UInt8) (h : In w A len cap l) (hsz : l.length ≤ 1000000) (p en : Nat) (h1 : rdHd l = .error (p, en)) :
    Calls Tryz.prog 6 #[.slice A len cap] w (OpenQ w l) := by
  obtain rfl := h.bs.len
  have HR : Hid (rdQ l = .error (p, en)) := Lib.hid (by unfold rdQ; rw [h1])
  have ER0 := Lib.hid (er_new w A l.length cap l h)
  have B0 := Lib.hid (Below.new w (.cells #[.slice A l.length cap, .int .i64 0, .int .i64 0] 57))
  have HH := Lib.hid (fun (X : World) (hX : ER X w.heap.size 57 [] A l.length cap l 0 0) => by
    have := head_any X w.heap.size A l.length cap l hX hsz
    unfold HeadQ at this
    rw [h1] at this
    exact this)
  have HC1 := Lib.hid (fun (X : World) (hX : ER X w.heap.size 57 [] A l.length cap l p en) (hen : en ≠ 0) => count_idle X w.heap.size A l.length cap l p en hX hen)
  clear h h1
  go_enter Tryz.func6, Tryz.ntmps6
  go_upto_region 2 with (fail)
  have hrx : w.heap.size < (w.alloc (.cells #[.slice A l.length cap, .int .i64 0, .int .i64 0] 57)).heap.size := ER0.out.lt
  generalize w.alloc (.cells #[.slice A l.length cap, .int .i64 0, .int .i64 0] 57) = X at *
  have HB := Lib.hid (HH.out X ER0.out)
  go_upto_region 3 with (go_at_call 20; refine HB.out.mono ?_; rintro e w2 ⟨⟨rfl, e2, g2⟩, hen⟩; have E2 := Lib.hid e2; have G2 := Lib.hid g2; have HEN := Lib.hid hen; clear e2 g2 hen)
  have q1 : ((en : Int) == 0) = false := by rw [beq_eq_false_iff_ne]; have := HEN.out; omega
  have q2 : ((en : Int) != 0) = true := by rw [bne_iff_ne]; have := HEN.out; omega
  clear HB
  have HB := Lib.hid (HC1.out w2 E2.out HEN.out)
  go_wp2_with (go_at_call 21; refine HB.out.mono ?_; rintro e w3 ⟨rfl, rfl⟩)
  have c2 := E2.out.c2
  have c1 := E2.out.c1
  refine wp_loop_rounds 1 ?_
  rw [rounds_succ]
  go_wp2_with (go_at_call 21; refine HB.out.mono ?_; rintro e w3 ⟨rfl, rfl⟩)
  refine wp_loop_rounds 1 ?_
  rw [rounds_succ]
  go_upto_region 16 with (fail)
  go_quiet (fail)
  go_wp2_with fail
  go_ret3
  have hrb := B0.out.size
  have hd := below_drewN' (Below.refl w3.heap.size w3) nq
  exact OpenQ.er HR.out ((B0.out.grown G2.out hrb (fun r e => by injection e with e; omega)).trans (hd.mono (Nat.le_trans hrb G2.out.size)))
/-- how far Open is -/
structure OI1 (w wr : World) (A : Option Addr) (cap : Nat) (l : List UInt8) (q : Nat) (h : Nat × Int × Nat) (nv : Int) (s : Nat × Nat) : Prop where
  er : ER wr w.heap.size 57 [] A l.length cap l s.1 s.2
  B : Below w.heap.size w wr
  bad : s.2 ≠ 0 → rdQ l = .error s
  good : s.2 = 0 → ∃ (k : Nat) (wv : Value) (ts : List Tk) (O T : Nat) (tm : ByteArray → Option Int), nv = (k : Int) ∧ QS wr q (h.1 : Int) h.2.1 (h.2.2 : Int) wv ts O T (fun _ => none) tm ∧ TmQ ts [] tm ∧ (∀ i, QSet q wv O T i → w.heap.size < i) ∧ rdQ l = rest1 l h k s.1 ts ∧ ts.length + k ≤ 65536
structure OI2 (w wr : World) (A : Option Addr) (cap : Nat) (l : List UInt8) (q : Nat) (h : Nat × Int × Nat) (lv nv : Int) (s : Nat × Nat) : Prop where
  er : ER wr w.heap.size 57 [] A l.length cap l s.1 s.2
  B : Below w.heap.size w wr
  bad : s.2 ≠ 0 → rdQ l = .error s
  good : s.2 = 0 → ∃ (k : Nat) (wv : Value) (ts : List Tk) (zs : List Ot) (O T : Nat) (om : Int → Option Ot) (tm : ByteArray → Option Int), nv = (k : Int) ∧ QS wr q (h.1 : Int) h.2.1 (h.2.2 : Int) wv ts O T om tm ∧ TmQ ts zs tm ∧ OutsQ om zs ∧ (∀ y ∈ zs, y.token ≤ lv) ∧ 0 ≤ lv ∧ (∀ i, QSet q wv O T i → w.heap.size < i) ∧ rdQ l = rest2 l h ts k s.1 lv zs ∧ k ≤ 65536
theorem tk4_split {l : List UInt8} {a : Nat} : ((tk4 l (a, 0)).2.2 ≠ 0 ∧ rdTk l a = .error (tk4 l (a, 0)).2) ∨ ((tk4 l (a, 0)).2.2 = 0 ∧ rdTk l a = .ok ((tk4 l (a, 0)).1, (tk4 l (a, 0)).2.1)) := by
  unfold rdTk
  by_cases h : (tk4 l (a, 0)).2.2 = 0
  · right; rw [if_pos h]; exact ⟨h, rfl⟩
  · left; rw [if_neg h]; exact ⟨h, rfl⟩
theorem ot5_split {l : List UInt8} {a : Nat} : ((ot5 l (a, 0)).2.2 ≠ 0 ∧ rdOt l a = .error (ot5 l (a, 0)).2) ∨ ((ot5 l (a, 0)).2.2 = 0 ∧ rdOt l a = .ok ((ot5 l (a, 0)).1, (ot5 l (a, 0)).2.1)) := by
  unfold rdOt
  by_cases h : (ot5 l (a, 0)).2.2 = 0
  · right; rw [if_pos h]; exact ⟨h, rfl⟩
  · left; rw [if_neg h]; exact ⟨h, rfl⟩
section
variable {w wr w' : World} {A : Option Addr} {cap : Nat} {l : List UInt8} {q : Nat} {h : Nat × Int × Nat}
theorem OI1.step {a k : Nat} {wv : Value} {ts : List Tk} {O T : Nat} {tm : ByteArray → Option Int} {e : Ending} (hwr : w.heap.size < wr.heap.size) (hB : Below w.heap.size w wr) (ht : TmQ ts [] tm) (hlo : ∀ i, QSet q wv O T i → w.heap.size < i) (heq : rdQ l = rest1 l h (k + 1) a ts) (hf : ts.length + (k + 1) ≤ 65536)
    (hy : WaitingY wr q w.heap.size (h.1 : Int) h.2.1 (h.2.2 : Int) wv ts O T (fun _ => none) tm A l.length cap l a e w') : ∃ s, OI1 w w' A cap l q h (k : Int) s := by
  obtain ⟨_, hy⟩ := hy
  rcases hy with ⟨h1, h2, h3⟩ | ⟨h1, h2, h3, h4⟩ | ⟨h1, h2, h3, wv', h4, h5, h6⟩
  · rcases tk4_split (l := l) (a := a) with ⟨_, hr⟩ | ⟨h0, _⟩
    · exact ⟨(tk4 l (a, 0)).2, h2, hB.grown h3 hB.size (fun r e => by injection e with e; omega), fun _ => by rw [heq]; exact rest1_er hr, fun e => absurd e h1⟩
    · exact absurd h0 h1
  · rcases tk4_split (l := l) (a := a) with ⟨h0, _⟩ | ⟨_, hr⟩
    · exact absurd h1 h0
    · refine ⟨(a, 6), h3, hB.grown h4 hB.size (fun r e => by injection e with e; omega), fun _ => ?_, fun e => by cases e⟩
      have hk : keyT ts (tk4 l (a, 0)).1.key = true := by
        cases hk : keyT ts (tk4 l (a, 0)).1.key with
        | true => rfl
        | false => exact absurd (ht.free.2 (by rw [hk]; rfl)) h2
      rw [heq]; exact rest1_there hr hk
  · rcases tk4_split (l := l) (a := a) with ⟨h0, _⟩ | ⟨_, hr⟩
    · exact absurd h1 h0
    · have hk : keyT ts (tk4 l (a, 0)).1.key = false := by
        have := ht.free.1 h2
        cases hk : keyT ts (tk4 l (a, 0)).1.key with
        | false => rfl
        | true => rw [hk] at this; simp at this
      refine ⟨((tk4 l (a, 0)).2.1, 0), h3, ((Turns.of_below (S := fun i => w.heap.size ≤ i) hB).then (h6.mono (fun i _ e => e.elim (fun e => Nat.le_of_lt (hlo i e)) (fun e => Nat.le_of_eq e.symm)))).below (Nat.le_refl _) (fun _ _ e => e), fun e => absurd rfl e, fun _ => ⟨k, wv', ts ++ [(tk4 l (a, 0)).1], O, T, _, rfl, h4, ht.put h2, ?_, ?_, by simp; omega⟩⟩
      · rintro i (e | e | e | e)
        · exact hlo i (.inl e)
        · exact hlo i (.inr (.inl e))
        · exact hlo i (.inr (.inr (.inl e)))
        · rcases h5 i e with e | e
          · exact hlo i (.inr (.inr (.inr e)))
          · omega
      · rw [heq]; exact rest1_go hr hk
theorem OI2.step {a k : Nat} {wv : Value} {ts : List Tk} {zs : List Ot} {O T : Nat} {om : Int → Option Ot} {tm : ByteArray → Option Int} {lv : Int} {e : Ending} (hB : Below w.heap.size w wr) (ht : TmQ ts zs tm) (ho : OutsQ om zs) (hl : ∀ y ∈ zs, y.token ≤ lv) (h0l : 0 ≤ lv) (hlo : ∀ i, QSet q wv O T i → w.heap.size < i) (heq : rdQ l = rest2 l h ts (k + 1) a lv zs) (hkb : k + 1 ≤ 65536)
    (hy : AwayY wr q w.heap.size (h.1 : Int) h.2.1 (h.2.2 : Int) wv ts O T om tm A l.length cap l a lv e w') : ∃ s lv', e = .returned (.int .i64 lv') ∧ OI2 w w' A cap l q h lv' (k : Int) s := by
  obtain ⟨hT, hy⟩ := hy
  have hB' : Below w.heap.size w w' := ((Turns.of_below (S := fun i => w.heap.size ≤ i) hB).then (hT.mono (fun i _ e => e.elim (fun e => Nat.le_of_lt (hlo i e)) (fun e => Nat.le_of_eq e.symm)))).below (Nat.le_refl _) (fun _ _ e => e)
  rcases hy with ⟨h1, h2, h3⟩ | ⟨h1, h2, h3, h4⟩ | ⟨h1, h2, hb, h3, h4⟩ | ⟨h1, h2, hb, h3, h4, h5⟩
  · rcases ot5_split (l := l) (a := a) with ⟨_, hr⟩ | ⟨h0, _⟩
    · exact ⟨(ot5 l (a, 0)).2, _, h2, h3, hB', fun _ => by rw [heq]; exact rest2_er hr, fun e => absurd e h1⟩
    · exact absurd h0 h1
  · rcases ot5_split (l := l) (a := a) with ⟨h0, _⟩ | ⟨_, hr⟩
    · exact absurd h1 h0
    · refine ⟨(a, 6), _, h3, h4, hB', fun _ => ?_, fun e => by cases e⟩
      have hk : (keyT ts (ot5 l (a, 0)).1.tk.key || keyO zs (ot5 l (a, 0)).1.tk.key) = true := by
        cases hk : (keyT ts (ot5 l (a, 0)).1.tk.key || keyO zs (ot5 l (a, 0)).1.tk.key) with
        | true => rfl
        | false => exact absurd (ht.free.2 hk) h2
      rw [heq]; exact rest2_there hr hk
  · rcases ot5_split (l := l) (a := a) with ⟨h0, _⟩ | ⟨_, hr⟩
    · exact absurd h1 h0
    · exact ⟨(a, 3), _, h3, h4, hB', fun _ => by rw [heq]; exact rest2_bad hr (ht.free.1 h2) hb, fun e => by cases e⟩
  · rcases ot5_split (l := l) (a := a) with ⟨h0, _⟩ | ⟨_, hr⟩
    · exact absurd h1 h0
    · have hlt : lv < (ot5 l (a, 0)).1.token := by
        unfold badO at hb
        simp only [Bool.or_eq_false_iff, decide_eq_false_iff_not] at hb
        omega
      refine ⟨((ot5 l (a, 0)).2.1, 0), _, h3, h4, hB', fun e => absurd rfl e, fun _ => ⟨k, wv, ts, zs ++ [(ot5 l (a, 0)).1], O, T, _, _, rfl, h5, ht.send h2 (by omega), ho.send hl hlt, fun y hy => ?_, by omega, hlo, ?_, by omega⟩⟩
      · rcases List.mem_append.1 hy with hy | hy
        · have := hl y hy; omega
        · simp at hy; subst hy; exact Int.le_refl _
      · rw [heq]; exact rest2_go hr (ht.free.1 h2) hb
end
set_option maxRecDepth 20000 in
set_option maxHeartbeats 8000000 in
theorem openK (w : World) (A : Option Addr) (cap : Nat) (l : List UInt8) (h : In w A l.length cap l) (hsz : l.length ≤ 1000000) (m : Nat) (g : Int) (x t : Nat) (h1 : rdHd l = .ok ((m, g, x), t)) :
    Calls Tryz.prog 6 #[.slice A l.length cap] w (OpenQ w l) := by
  have HSZ := Lib.hid hsz
  have HR : Hid (rdQ l = rdQw l (m, g, x) t) := Lib.hid (by unfold rdQ; rw [h1])
  have ER0 := Lib.hid (er_new w A l.length cap l h)
  have B0 := Lib.hid (Below.new w (.cells #[.slice A l.length cap, .int .i64 0, .int .i64 0] 57))
  have II := Lib.hid h
  have HH := Lib.hid (fun (X : World) (hX : ER X w.heap.size 57 [] A l.length cap l 0 0) => by
    have := head_any X w.heap.size A l.length cap l hX hsz
    unfold HeadQ at this
    rw [h1] at this
    exact this)
  clear h h1
  go_enter Tryz.func6, Tryz.ntmps6
  go_upto_region 2 with (fail)
  have hrx : w.heap.size < (w.alloc (.cells #[.slice A l.length cap, .int .i64 0, .int .i64 0] 57)).heap.size := ER0.out.lt
  generalize w.alloc (.cells #[.slice A l.length cap, .int .i64 0, .int .i64 0] 57) = X at *
  have HB := Lib.hid (HH.out X ER0.out)
  go_upto_region 3 with (go_at_call 20; refine HB.out.mono ?_; rintro e w2 ⟨⟨q, O, T, rfl, s2, l2, e2, g2⟩, hm⟩; have S2 := Lib.hid s2; have L2 := Lib.hid l2; have E2 := Lib.hid e2; have G2 := Lib.hid g2; clear s2 l2 e2 g2 hm)
  clear HB HH
  have HB := Lib.hid (any_count w2 w.heap.size A l.length cap l (t, 0) E2.out HSZ.out)
  have BW2 : Hid (Below w.heap.size w w2) := Lib.hid (B0.out.grown G2.out B0.out.size (fun r e => by injection e with e; omega))
  have I0 : Hid (∀ X2, ER X2 w.heap.size 57 [] A l.length cap l (aft 0 (rdCnt l) (t, 0)).2.1 (aft 0 (rdCnt l) (t, 0)).2.2 → w2.grownBy X2 (some w.heap.size) → OI1 w X2 A cap l q (m, g, x) ((aft 0 (rdCnt l) (t, 0)).1 : Int) (aft 0 (rdCnt l) (t, 0)).2) := Lib.hid (fun X2 hE hG => by
    have hlo : ∀ i, QSet q (.slice none 0 0) O T i → w.heap.size < i := fun i hi => Nat.lt_of_lt_of_le hrx (L2.out i hi)
    refine ⟨hE, BW2.out.grown hG BW2.out.size (fun r e => by injection e with e; omega), fun hb => ?_, fun hb => ?_⟩
    · rcases hc : rdCnt l t with ⟨p, en⟩ | ⟨n, t4⟩
      · rw [aft_er hc, HR.out]; unfold rdQw; rw [hc]
      · rw [aft_ok hc] at hb; exact absurd rfl hb
    · rcases hc : rdCnt l t with ⟨p, en⟩ | ⟨n, t4⟩
      · rw [aft_er hc] at hb; exact absurd hb (rdCnt_er E2.out.at_le hc).2
      · rw [aft_ok hc] at hE ⊢
        refine ⟨n, _, [], O, T, _, rfl, S2.out.keep (Turns.of_grown (S := fun i => i = w.heap.size) hG (fun r e => by injection e with e; exact e.symm)) (fun i hi e => by have := hlo i hi; have e2 : i = w.heap.size := e; omega), TmQ.nil, hlo, ?_, by have := (rdCnt_le hc).2; simp; omega⟩
        rw [HR.out]; unfold rdQw rest1; rw [hc]; rfl)
  clear ER0 B0
  generalize aft 0 (rdCnt l) (t, 0) = p0 at *
  obtain ⟨nv0, s0⟩ := p0
  go_wp2_with (go_at_call 21; refine HB.out.mono ?_; rintro e w3 ⟨rfl, e3, g3⟩; have J0 := Lib.hid (I0.out w3 e3 g3); clear e3 g3)
  clear HB I0 E2 G2 S2 L2 BW2 HR
  go_loopw [7] (fun nv wr => ∃ n s, nv = .int .i64 n ∧ Hid (OI1 w wr A cap l q (m, g, x) n s)) (fun nv _ => (intOf nv).toNat)
  case atStart => exact ⟨_, _, rfl, J0⟩
  case round =>
    clear J0
    obtain ⟨nv, s, rfl, J⟩ := hrel
    have c2 := J.out.er.c2
    obtain ⟨a, en⟩ := s
    simp only at c2
    by_cases hen : en = 0
    · subst hen
      obtain ⟨k, wv, ts, O1, T1, tm, rfl, hq, ht, hlo, heq, hfew⟩ := J.out.good rfl
      cases k with
      | succ k =>
        have hk0 : (0 : Int) < ((k + 1 : Nat) : Int) := by omega
        have hk1 : ((k + 1 : Nat) : Int) - 1 = (k : Int) := by omega
        have hk2 : decide ((0 : Int) < ((k + 1 : Nat) : Int)) = true := decide_eq_true hk0
        have HW := Lib.hid (waiting_any wr q w.heap.size (m : Int) g (x : Int) wv ts O1 T1 _ tm A l.length cap l a J.out.er hq (fun i hi e => by have := hlo i hi; omega) (fun ad e h0 hi => by have := II.out.lt ad e h0; have := hlo _ hi; omega) HSZ.out (by omega))
        have HS := Lib.hid (fun e w' (hy : WaitingY wr q w.heap.size (m : Int) g (x : Int) wv ts O1 T1 (fun _ => none) tm A l.length cap l a e w') => OI1.step (h := (m, g, x)) (e := e) (w' := w') J.out.er.lt J.out.B ht hlo heq hfew hy)
        have hkb2 : (k : Int) ≤ 65536 := by omega
        clear hq ht hlo heq hfew
        go_wp2_with (go_at_call 22; refine HW.out.mono ?_; rintro e w4 hy; obtain ⟨s4, hs4⟩ := HS.out e w4 hy; have J4 := Lib.hid hs4; obtain rfl := hy.1; clear hy hs4)
        go_roundw
        case rel => exact ⟨(k : Int), s4, by go_num, J4⟩
        case measure => simp only [intOf]; omega
      | zero =>
        have hk2 : decide ((0 : Int) < ((0 : Nat) : Int)) = false := by decide
        have hlr := J.out.er.lt
        have HB := Lib.hid (any_count wr w.heap.size A l.length cap l (a, 0) J.out.er HSZ.out)
        have HR : Hid (rdQ l = rdQo l (m, g, x) (ts, a)) := Lib.hid heq
        have E0 := Lib.hid J.out.er
        have I0 : Hid (∀ X2, ER X2 w.heap.size 57 [] A l.length cap l (aft 0 (rdCnt l) (a, 0)).2.1 (aft 0 (rdCnt l) (a, 0)).2.2 → wr.grownBy X2 (some w.heap.size) → OI2 w X2 A cap l q (m, g, x) 0 ((aft 0 (rdCnt l) (a, 0)).1 : Int) (aft 0 (rdCnt l) (a, 0)).2) := Lib.hid (fun X2 hE hG => by
          refine ⟨hE, J.out.B.grown hG J.out.B.size (fun r e => by injection e with e; omega), fun hb => ?_, fun hb => ?_⟩
          · rcases hc : rdCnt l a with ⟨p, en⟩ | ⟨n, t4⟩
            · rw [aft_er hc, HR.out]; unfold rdQo; simp only; rw [hc]
            · rw [aft_ok hc] at hb; exact absurd rfl hb
          · rcases hc : rdCnt l a with ⟨p, en⟩ | ⟨n, t4⟩
            · rw [aft_er hc] at hb; exact absurd hb (rdCnt_er E0.out.at_le hc).2
            · rw [aft_ok hc] at hE ⊢
              refine ⟨n, _, ts, [], O1, T1, _, _, rfl, hq.keep (Turns.of_grown (S := fun i => i = w.heap.size) hG (fun r e => by injection e with e; exact e.symm)) (fun i hi e => by have := hlo i hi; have e2 : i = w.heap.size := e; omega), ht, OutsQ.nil, by simp, by omega, hlo, ?_, (rdCnt_le hc).2⟩
              rw [HR.out]; unfold rdQo rest2; simp only; rw [hc]; rfl)
        clear hq ht hlo heq hfew E0
        generalize aft 0 (rdCnt l) (a, 0) = p1 at *
        obtain ⟨nv1, s1⟩ := p1
        go_wp2_with (go_at_call 21; refine HB.out.mono ?_; rintro e w5 ⟨rfl, e5, g5⟩; have J5 := Lib.hid (I0.out w5 e5 g5); clear e5 g5)
        clear HB I0 c2 J HR hk2 hlr
        go_loopw [8, 9] (fun lv nv wr => ∃ la n s, lv = .int .i64 la ∧ nv = .int .i64 n ∧ Hid (OI2 w wr A cap l q (m, g, x) la n s)) (fun _ nv _ => (intOf nv).toNat)
        case atStart => exact ⟨_, _, _, rfl, rfl, J5⟩
        case round =>
          clear J5
          obtain ⟨la, nv, s, rfl, rfl, J⟩ := hrel
          have c2 := J.out.er.c2
          have c1 := J.out.er.c1
          obtain ⟨a2, en⟩ := s
          simp only at c1 c2
          by_cases hen : en = 0
          · subst hen
            obtain ⟨k, wv2, ts2, zs, O2, T2, om, tm2, rfl, hq, ht, ho, hlz, hl0, hlo, heq, hkb⟩ := J.out.good rfl
            cases k with
            | succ k =>
              have hk0 : (0 : Int) < ((k + 1 : Nat) : Int) := by omega
              have hk1 : ((k + 1 : Nat) : Int) - 1 = (k : Int) := by omega
              have hk2 : decide ((0 : Int) < ((k + 1 : Nat) : Int)) = true := decide_eq_true hk0
              have HW := Lib.hid (away_any wr q w.heap.size (m : Int) g (x : Int) wv2 ts2 O2 T2 om tm2 A l.length cap l a2 la J.out.er hq (fun i hi e => by have := hlo i hi; omega) (fun ad e h0 hi => by have := II.out.lt ad e h0; have := hlo _ hi; omega) HSZ.out)
              have HS := Lib.hid (fun e w' (hy : AwayY wr q w.heap.size (m : Int) g (x : Int) wv2 ts2 O2 T2 om tm2 A l.length cap l a2 la e w') => OI2.step (h := (m, g, x)) (e := e) (w' := w') J.out.B ht ho hlz hl0 hlo heq hkb hy)
              have hkb2 : (k : Int) ≤ 65536 := by omega
              clear hq ht ho hlz hl0 hlo heq c1
              go_wp2_with (go_at_call 23; refine HW.out.mono ?_; rintro e w4 hy; obtain ⟨s4, l4, he4, hs4⟩ := HS.out e w4 hy; have J4 := Lib.hid hs4; obtain rfl := he4; clear hy hs4)
              go_roundw
              case rel => exact ⟨l4, (k : Int), s4, rfl, by go_num, J4⟩
              case measure => simp only [intOf]; omega
            | zero =>
              have hk2 : decide ((0 : Int) < ((0 : Nat) : Int)) = false := by decide
              have HR : Hid (rdQ l = rdEnd l (m, g, x) ts2 (zs, a2)) := Lib.hid heq
              have HQ := Lib.hid hq
              have HT := Lib.hid ht
              have HO := Lib.hid ho
              have HL := Lib.hid hlo
              have E9 := Lib.hid J.out.er
              have hat := J.out.er.at_le
              have B9 := Lib.hid J.out.B
              clear hq ht ho hlz hl0 hlo heq
              by_cases hlt : a2 < l.length
              · have hlt1 : (a2 : Int) < (l.length : Int) := by omega
                have hlt2 : decide ((a2 : Int) < (l.length : Int)) = true := decide_eq_true hlt1
                have HRE : Hid (rdQ l = .error (a2, 3)) := Lib.hid (by rw [HR.out]; unfold rdEnd; rw [if_pos hlt])
                clear hlt
                have HF := Lib.hid (fail1 wr w.heap.size _ rfl A l.length cap l a2 0 E9.out a2 3 hat)
                go_wp2_with (go_at_call 24; refine HF.out.mono ?_; rintro e w6 ⟨rfl, e6, g6⟩; have E6 := Lib.hid e6; have G6 := Lib.hid g6; clear e6 g6 c1 c2; have c1 := E6.out.c1; have c2 := E6.out.c2)
                go_quiet (fail)
                go_wp2_with fail
                go_ret3
                have hd := below_drewN' (Below.refl w6.heap.size w6) nq
                exact OpenQ.er HRE.out (below_trans' (B9.out.grown G6.out B9.out.size (fun r e => by injection e with e; omega)) hd)
              · have hlt1 : ¬ (a2 : Int) < (l.length : Int) := by omega
                have hlt2 : decide ((a2 : Int) < (l.length : Int)) = false := decide_eq_false hlt1
                have HRE : Hid (rdQ l = .ok (⟨m, g, x, ts2, zs⟩, a2)) := Lib.hid (by rw [HR.out]; unfold rdEnd; rw [if_neg hlt])
                clear hlt
                go_upto_region 16 with (fail)
                go_quiet (fail)
                go_wp2_with fail
                go_ret3
                have hd := below_drewN' (Below.refl wr.heap.size wr) nq
                exact OpenQ.ok HRE.out (below_trans' B9.out hd) (HQ.out.bel hd) HO.out HT.out (fun i hi => Nat.le_of_lt (HL.out i hi))
          · have q1 : ((en : Int) == 0) = false := by rw [beq_eq_false_iff_ne]; omega
            have q2 : ((en : Int) != 0) = true := by rw [bne_iff_ne]; omega
            have HRE := Lib.hid (J.out.bad hen)
            have B9 := Lib.hid J.out.B
            clear hen
            go_upto_region 16 with (fail)
            go_quiet (fail)
            go_wp2_with fail
            go_ret3
            have hd := below_drewN' (Below.refl wr.heap.size wr) nq
            exact OpenQ.er HRE.out (below_trans' B9.out hd)
    · have q1 : ((en : Int) == 0) = false := by rw [beq_eq_false_iff_ne]; omega
      have q2 : ((en : Int) != 0) = true := by rw [bne_iff_ne]; omega
      have HB := Lib.hid (count_idle wr w.heap.size A l.length cap l a en J.out.er hen)
      have HRE := Lib.hid (J.out.bad hen)
      have B9 := Lib.hid J.out.B
      have c1 := J.out.er.c1
      simp only at c1
      clear hen
      go_wp2_with (go_at_call 21; refine HB.out.mono ?_; rintro e w3 ⟨rfl, rfl⟩)
      refine wp_loop_rounds 1 ?_
      rw [rounds_succ]
      go_upto_region 16 with (fail)
      go_quiet (fail)
      go_wp2_with fail
      go_ret3
      have hd := below_drewN' (Below.refl w3.heap.size w3) nq
      exact OpenQ.er HRE.out (below_trans' B9.out hd)
theorem openQ (w : World) (A : Option Addr) (cap : Nat) (l : List UInt8) (h : In w A l.length cap l) (hsz : l.length ≤ 1000000) :
    Calls Tryz.prog 6 #[.slice A l.length cap] w (OpenQ w l) := by
  rcases h1 : rdHd l with ⟨p, en⟩ | ⟨⟨m, g, x⟩, t⟩
  · exact openE w A l.length cap l h hsz p en h1
  · exact openK w A cap l h hsz m g x t h1
end Go.Proofs.YtpbheicfplpemaaGreat
