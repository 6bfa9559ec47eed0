/- The document's readers of nodes: they say what the plain words say. -/
import Derived.Test.YticipdjfkpakpaaNodeSpec
import Derived.Test.YticipdjfkpakpaaCodeRefNum
import Derived.Test.YticipdjfkpakpaaCodeRefs
import Derived.Test.YticipdjfkpakpaaNodeDoor
namespace Go.Proofs.Yticipdjfkpakpaa
open Go.RowKit

theorem run_store_cx' (P : Program) (w : World) (a : Addr) (m : Mode) (k : FloatKind) (x y : Nat) : (store a (.complex k x y) m).run P w = stored P w a (.complex k x y) m := run_store P w a _ m rfl
attribute [local go_sem] run_store_cx'

def ndV (x : Nd) : Value := .agg #[.int .u8 x.kind, .int .i64 x.kids, .int .i64 x.int, strV x.text, .complex .f64 x.re x.im]
/-- what the document's reader of a node tells -/
def NodeSays (w : World) (res : Except (Nat × Nat) (Nd × Nat)) (e : Ending) (w' : World) : Prop :=
  (match res with
  | .ok (x, tn) => e = .returned (.tuple #[ndV x, .int .i64 (tn : Int), .int .i64 0])
  | .error (p, en) => ∃ y, e = .returned (.tuple #[ndV y, .int .i64 (p : Int), .int .i64 (en : Int)])) ∧ Below w.heap.size w w'

theorem two_first (w : World) (o1 o2 : Obj) : ((w.alloc o1).alloc o2).heap[w.heap.size]? = some o1 := by
  rw [Below.heap_alloc _ _ _ (by rw [World.size_alloc]; omega)]
  exact heap_alloc_new w _
theorem results_node {tmps : Array Value} {W : World} {b : Nat} {x : Nd} (h6 : tmps.getD 6 undef = .pointer (some ⟨b, 0, none⟩))
    (h : W.heap[b]? = some (.cells #[.int .u8 x.kind, .int .i64 x.kids, .int .i64 x.int, strV x.text, .complex .f64 x.re x.im] 40 (0, 0))) :
    (results Try.f50 tmps).run Try.prog W = .ok (.tuple #[ndV x, tmps.getD 7 undef, tmps.getD 8 undef]) W := by
  have c : ∀ o, W.cell? ⟨b, o, none⟩ = (#[.int .u8 x.kind, .int .i64 x.kids, .int .i64 x.int, strV x.text, .complex .f64 x.re x.im] : Array Value)[o]? := fun o => cell_of_row W b o _ _ _ h
  have e0 := c 0
  have e1 := c 1
  have e2 := c 2
  have e3 := c 3
  have e4 := c 4
  simp at e0 e1 e2 e3 e4
  have h6' : tmps[6]?.getD undef = .pointer (some ⟨b, 0, none⟩) := by simpa using h6
  simp [results, Try.results50, go_sem, h6', e0, e1, e2, e3, e4, ndV]

set_option maxRecDepth 100000 in
set_option maxHeartbeats 8000000 in
theorem refNode_any (w : World) (A : Option Addr) (len cap : Nat) (l : List UInt8) (a size : Nat) (h : Bs w A len l) (hcap : l.length ≤ cap) (ha : a < l.length) (hs : size + 1 ≤ 4096) (hsz : l.length ≤ 1000000) :
    Calls Try.prog 50 #[.slice A len cap, .int .i64 a, .int .i64 size] w (NodeSays w (rdNode l a size)) := by
  obtain rfl := h.len
  obtain ⟨ad, rfl, hlt, hc⟩ := h.cell a ha
  have hai : (a : Int) ≤ 1000000 := by omega
  have hsi : (size : Int) ≤ 4095 := by omega
  have ha0 : ¬ ((a : Int) < 0) := by omega
  have hb1 : (l[a].toNat : Int) ≤ 255 := by have := UInt8.toNat_lt l[a]; omega
  have B2 : ∀ o1 o2 : Obj, Below w.heap.size w ((w.alloc o1).alloc o2) := fun o1 o2 => ((Below.refl _ _).alloc (Nat.le_refl _) _).alloc (by simp) _
  have hW : ∀ (o1 o2 : Obj) (ad' : Addr) (v : Value), w.cell? ad' = some v → ((w.alloc o1).alloc o2).cell? ad' = some v := fun o1 o2 ad' v hv =>
    (World.cell?_of_block (w := w) ((B2 o1 o2).block _ (World.block_lt_of_cell? w _ hv))).trans hv
  have hc1 : ∀ o1 : Obj, (w.alloc o1).cell? (ad.add a) = some (.int .u8 (l[a].toNat : Int)) := fun o1 => (World.cell?_alloc_lt w o1 _ (World.block_lt_of_cell? w _ hc)).trans hc
  have hc2 := fun o1 o2 => hW o1 o2 _ _ hc
  have HB : Hid (∀ o1 o2, Bs ((w.alloc o1).alloc o2) (some ad) l.length l) := Lib.hid fun o1 o2 => h.below (B2 o1 o2)
  have HB2 := Lib.hid B2
  have HW := Lib.hid hW
  clear B2 hW
  go_enter Try.func50, Try.ntmps50
  have hq : ∀ k : Nat, (l[a].toNat = k) → (((l[a].toNat : Int) == (k : Int)) = true) := fun k e => by rw [beq_iff_eq]; omega
  have hq' : ∀ k : Nat, (l[a].toNat ≠ k) → (((l[a].toNat : Int) == (k : Int)) = false) := fun k e => by rw [beq_eq_false_iff_ne]; omega
  by_cases k0 : l[a].toNat = 0
  · have q0 : ((l[a].toNat : Int) == 0) = true := hq 0 k0
    have HX := Lib.hid (show rdNode l a size = .ok (nd0 l[a].toNat, a + 1) by simp [rdNode, ha, k0])
    clear k0 hq hq'
    go_wp2_with fail
    try simp only [Exit.inBlock, Exit.then]
    refine bodyPost_ret (results_node (x := nd0 l[a].toNat) rfl (two_first _ _ _)) rfl ?_
    show NodeSays w (rdNode l a size) _ _
    rw [HX.out]
    exact ⟨rfl, HB2.out _ _⟩
  have q0 : ((l[a].toNat : Int) == 0) = false := hq' 0 k0
  by_cases k1 : l[a].toNat = 1
  · have q1 : ((l[a].toNat : Int) == 1) = true := hq 1 k1
    by_cases h1 : a + 1 < l.length
    · have t1 : ¬ ((l.length : Int) ≤ (a : Int) + 1) := by omega
      obtain ⟨ad', e', _, hd⟩ := h.cell (a + 1) h1
      obtain rfl : ad' = ad := Option.some.inj e'.symm
      have hd2 := fun o1 o2 => HW.out o1 o2 _ _ hd
      have hd3 : w.cell? { block := ad'.block, off := ad'.off + (a + 1) } = some (.int .u8 (l[a + 1].toNat : Int)) := by simpa [Addr.add] using hd
      have hc2' : (l[a + 1].toNat : Int) ≤ 255 := by have := UInt8.toNat_lt l[a + 1]; omega
      have hc3 : IntKind.i64.wrap (l[a + 1].toNat : Int) = (l[a + 1].toNat : Int) := wrap_i64' _ (by omega) (by omega)
      have t2 : ((a : Int) + 1).toNat = a + 1 := by omega
      have t3 : ¬ ((a : Int) + 1 < 0) := by omega
      have t4 : ((a : Int) + 1 < (l.length : Int)) := by omega
      by_cases hb : 1 < (l[a + 1].toNat : Int)
      · have hbN : 1 < l[a + 1].toNat := by omega
        have HX := Lib.hid (show rdNode l a size = .error (a + 1, 3) by simp [rdNode, ha, k1, h1, hbN])
        clear k0 k1 hq hq' hbN
        go_wp2_with fail
        try simp only [Exit.inBlock, Exit.then]
        refine bodyPost_ret (results_node (x := nd0 l[a].toNat) rfl (two_first _ _ _)) rfl ?_
        show NodeSays w (rdNode l a size) _ _
        rw [HX.out]
        exact ⟨⟨_, rfl⟩, HB2.out _ _⟩
      · have hbN : ¬ 1 < l[a + 1].toNat := by omega
        have HX := Lib.hid (show rdNode l a size = .ok ({ nd0 l[a].toNat with int := l[a + 1].toNat }, a + 2) by simp [rdNode, ha, k1, h1, hbN])
        clear k0 k1 hq hq' hbN
        go_wp2_with fail
        try simp only [Exit.inBlock, Exit.then]
        refine bodyPost_ret (results_node (x := { nd0 l[a].toNat with int := l[a + 1].toNat }) rfl (two_first _ _ _)) rfl ?_
        show NodeSays w (rdNode l a size) _ _
        rw [HX.out]
        exact ⟨rfl, HB2.out _ _⟩
    · have t1 : ((l.length : Int) ≤ (a : Int) + 1) := by omega
      have HX := Lib.hid (show rdNode l a size = .error (l.length, 4) by simp [rdNode, ha, k1, h1])
      clear k0 k1 hq hq'
      go_wp2_with fail
      try simp only [Exit.inBlock, Exit.then]
      refine bodyPost_ret (results_node (x := nd0 l[a].toNat) rfl (two_first _ _ _)) rfl ?_
      show NodeSays w (rdNode l a size) _ _
      rw [HX.out]
      exact ⟨⟨_, rfl⟩, HB2.out _ _⟩
  have q1 : ((l[a].toNat : Int) == 1) = false := hq' 1 k1
  by_cases k2 : l[a].toNat = 2
  · have q2 : ((l[a].toNat : Int) == 2) = true := hq 2 k2
    rcases hres : Cd.rdInt l (a + 1) with ⟨p, en⟩ | ⟨x, tn⟩
    · have HX := Lib.hid (show rdNode l a size = .error (p, en) by unfold rdNode; rw [dif_pos ha, if_neg k0, if_neg k1, if_pos k2, hres])
      have HS := Lib.hid hres
      clear hres k0 k1 k2 hq hq'
      go_wp2_with fail
      refine (refInt_any _ (some ad) l.length cap l (a + 1) (HB.out _ _) (by omega) (by omega)).mono ?_
      rintro e w' ⟨hs, rfl⟩
      obtain rfl := hs.of_error HS.out
      go_wp2_with fail
      try simp only [Exit.inBlock, Exit.then]
      refine bodyPost_ret (results_node (x := nd0 l[a].toNat) rfl (two_first _ _ _)) rfl ?_
      show NodeSays w (rdNode l a size) _ _
      rw [HX.out]
      exact ⟨⟨_, rfl⟩, HB2.out _ _⟩
    · have HX := Lib.hid (show rdNode l a size = .ok ({ nd0 l[a].toNat with int := x }, tn) by unfold rdNode; rw [dif_pos ha, if_neg k0, if_neg k1, if_pos k2, hres]; simp [k2])
      have HS := Lib.hid hres
      clear hres k0 k1 k2 hq hq'
      go_wp2_with fail
      refine (refInt_any _ (some ad) l.length cap l (a + 1) (HB.out _ _) (by omega) (by omega)).mono ?_
      rintro e w' ⟨hs, rfl⟩
      obtain rfl := hs.of_ok HS.out
      unfold i64V
      go_wp2_with fail
      try simp only [Exit.inBlock, Exit.then]
      refine bodyPost_ret (results_node (x := { nd0 l[a].toNat with int := x }) rfl (two_first _ _ _)) rfl ?_
      show NodeSays w (rdNode l a size) _ _
      rw [HX.out]
      exact ⟨rfl, HB2.out _ _⟩
  have q2 : ((l[a].toNat : Int) == 2) = false := hq' 2 k2
  by_cases k3 : l[a].toNat = 3
  · have q3 : ((l[a].toNat : Int) == 3) = true := hq 3 k3
    have w3a : IntKind.i64.wrap (4096 - (size : Int)) = 4096 - (size : Int) := wrap_i64' _ (by omega) (by omega)
    have w3b : IntKind.i64.wrap (4096 - (size : Int) - 1) = 4096 - (size : Int) - 1 := wrap_i64' _ (by omega) (by omega)
    have w3c : IntKind.u64.wrap (4096 - (size : Int) - 1) = 4096 - (size : Int) - 1 := by rw [wrap_u64']; omega
    rcases hres : Cd.rdUint l (a + 1) with ⟨p, en⟩ | ⟨x, tn⟩
    · have HX := Lib.hid (show rdNode l a size = .error (p, en) by unfold rdNode; rw [dif_pos ha, if_neg k0, if_neg k1, if_neg k2, if_pos k3, hres])
      have HT := Lib.hid (show Cd.rdText l (a + 1) = .error (p, en) by simp [Cd.rdText, hres])
      have hen : ((en : Int) == 0) = false := by rw [beq_eq_false_iff_ne]; have := rdUint_errno hres; omega
      have HS := Lib.hid hres
      clear hres k0 k1 k2 k3 hq hq'
      go_wp2_with fail
      refine (refUint_any _ (some ad) l.length cap l (a + 1) (HB.out _ _) (by omega) (by omega)).mono ?_
      rintro e w' ⟨hs, rfl⟩
      obtain rfl := hs.of_error HS.out
      go_wp2_with fail
      refine (refText_any _ (some ad) l.length cap l (a + 1) (HB.out _ _) hcap (by omega) (by omega)).mono ?_
      rintro e w' ⟨hs, rfl⟩
      obtain rfl := hs.of_error HT.out
      go_wp2_with fail
      try simp only [Exit.inBlock, Exit.then]
      refine bodyPost_ret (results_node (x := nd0 l[a].toNat) rfl (two_first _ _ _)) rfl ?_
      show NodeSays w (rdNode l a size) _ _
      rw [HX.out]
      exact ⟨⟨_, rfl⟩, HB2.out _ _⟩
    · by_cases hlong : 4096 - (size : Int) - 1 < (x : Int)
      · have HX := Lib.hid (show rdNode l a size = .error (a + 1, 2) by unfold rdNode; rw [dif_pos ha, if_neg k0, if_neg k1, if_neg k2, if_pos k3, hres]; show (if _ then _ else _) = _; rw [if_pos (by omega)])
        have HS := Lib.hid hres
        clear hres k0 k1 k2 k3 hq hq'
        go_wp2_with fail
        refine (refUint_any _ (some ad) l.length cap l (a + 1) (HB.out _ _) (by omega) (by omega)).mono ?_
        rintro e w' ⟨hs, rfl⟩
        obtain rfl := hs.of_ok HS.out
        unfold u64V
        go_wp2_with fail
        try simp only [Exit.inBlock, Exit.then]
        refine bodyPost_ret (results_node (x := nd0 l[a].toNat) rfl (two_first _ _ _)) rfl ?_
        show NodeSays w (rdNode l a size) _ _
        rw [HX.out]
        exact ⟨⟨_, rfl⟩, HB2.out _ _⟩
      · rcases hre2 : Cd.rdBytes l x tn with ⟨p, en⟩ | ⟨t, tn2⟩
        · have HX := Lib.hid (show rdNode l a size = .error (p, en) by unfold rdNode; rw [dif_pos ha, if_neg k0, if_neg k1, if_neg k2, if_pos k3, hres]; show (if _ then _ else _) = _; rw [if_neg (by omega), hre2])
          have HT := Lib.hid (show Cd.rdText l (a + 1) = .error (p, en) by simp [Cd.rdText, hres, hre2])
          have HS := Lib.hid hres
          clear hres hre2 k0 k1 k2 k3 hq hq'
          go_wp2_with fail
          refine (refUint_any _ (some ad) l.length cap l (a + 1) (HB.out _ _) (by omega) (by omega)).mono ?_
          rintro e w' ⟨hs, rfl⟩
          obtain rfl := hs.of_ok HS.out
          unfold u64V
          go_wp2_with fail
          refine (refText_any _ (some ad) l.length cap l (a + 1) (HB.out _ _) hcap (by omega) (by omega)).mono ?_
          rintro e w' ⟨hs, rfl⟩
          obtain rfl := hs.of_error HT.out
          go_wp2_with fail
          try simp only [Exit.inBlock, Exit.then]
          refine bodyPost_ret (results_node (x := nd0 l[a].toNat) rfl (two_first _ _ _)) rfl ?_
          show NodeSays w (rdNode l a size) _ _
          rw [HX.out]
          exact ⟨⟨_, rfl⟩, HB2.out _ _⟩
        · have HX := Lib.hid (show rdNode l a size = .ok ({ nd0 l[a].toNat with text := t }, tn2) by unfold rdNode; rw [dif_pos ha, if_neg k0, if_neg k1, if_neg k2, if_pos k3, hres]; show (if _ then _ else _) = _; rw [if_neg (by omega), hre2]; simp [k3])
          have HT := Lib.hid (show Cd.rdText l (a + 1) = .ok (t, tn2) by simp [Cd.rdText, hres, hre2])
          have HS := Lib.hid hres
          clear hres hre2 k0 k1 k2 k3 hq hq'
          go_wp2_with fail
          refine (refUint_any _ (some ad) l.length cap l (a + 1) (HB.out _ _) (by omega) (by omega)).mono ?_
          rintro e w' ⟨hs, rfl⟩
          obtain rfl := hs.of_ok HS.out
          unfold u64V
          go_wp2_with fail
          refine (refText_any _ (some ad) l.length cap l (a + 1) (HB.out _ _) hcap (by omega) (by omega)).mono ?_
          rintro e w' ⟨hs, rfl⟩
          obtain rfl := hs.of_ok HT.out
          unfold strV
          go_wp2_with fail
          try simp only [Exit.inBlock, Exit.then]
          refine bodyPost_ret (results_node (x := { nd0 l[a].toNat with text := t }) rfl (two_first _ _ _)) rfl ?_
          show NodeSays w (rdNode l a size) _ _
          rw [HX.out]
          exact ⟨rfl, HB2.out _ _⟩
  have q3 : ((l[a].toNat : Int) == 3) = false := hq' 3 k3
  by_cases k4 : l[a].toNat = 4
  · have q4 : ((l[a].toNat : Int) == 4) = true := hq 4 k4
    rcases hres : rdNum l (a + 1) with ⟨p, en⟩ | ⟨x, tn⟩
    · have HX := Lib.hid (show rdNode l a size = .error (p, en) by unfold rdNode; rw [dif_pos ha, if_neg k0, if_neg k1, if_neg k2, if_neg k3, if_pos k4, hres])
      have HS := Lib.hid hres
      clear hres k0 k1 k2 k3 k4 hq hq'
      go_wp2_with fail
      refine (refNum_any _ (some ad) l.length cap l (a + 1) (HB.out _ _) (by omega) (by omega)).mono ?_
      rintro e w' ⟨hs, rfl⟩
      obtain rfl := hs.of_error HS.out
      go_wp2_with fail
      try simp only [Exit.inBlock, Exit.then]
      refine bodyPost_ret (results_node (x := nd0 l[a].toNat) rfl (two_first _ _ _)) rfl ?_
      show NodeSays w (rdNode l a size) _ _
      rw [HX.out]
      exact ⟨⟨_, rfl⟩, HB2.out _ _⟩
    · have HX := Lib.hid (show rdNode l a size = .ok ({ nd0 l[a].toNat with re := x.1, im := x.2 }, tn) by unfold rdNode; rw [dif_pos ha, if_neg k0, if_neg k1, if_neg k2, if_neg k3, if_pos k4, hres]; simp [k4])
      have HS := Lib.hid hres
      clear hres k0 k1 k2 k3 k4 hq hq'
      go_wp2_with fail
      refine (refNum_any _ (some ad) l.length cap l (a + 1) (HB.out _ _) (by omega) (by omega)).mono ?_
      rintro e w' ⟨hs, rfl⟩
      obtain rfl := hs.of_ok HS.out
      unfold numV
      go_wp2_with fail
      try simp only [Exit.inBlock, Exit.then]
      refine bodyPost_ret (results_node (x := { nd0 l[a].toNat with re := x.1, im := x.2 }) rfl (two_first _ _ _)) rfl ?_
      show NodeSays w (rdNode l a size) _ _
      rw [HX.out]
      exact ⟨rfl, HB2.out _ _⟩
  have q4 : ((l[a].toNat : Int) == 4) = false := hq' 4 k4
  by_cases k5 : l[a].toNat = 5
  · have q5 : ((l[a].toNat : Int) == 5) = true := hq 5 k5
    rcases hres : Cd.rdUint l (a + 1) with ⟨p, en⟩ | ⟨x, tn⟩
    · have HX := Lib.hid (show rdNode l a size = .error (p, en) by unfold rdNode; rw [dif_pos ha, if_neg k0, if_neg k1, if_neg k2, if_neg k3, if_neg k4, if_pos k5, hres])
      have hen : ((en : Int) == 0) = false := by rw [beq_eq_false_iff_ne]; have := rdUint_errno hres; omega
      have HS := Lib.hid hres
      clear hres k0 k1 k2 k3 k4 k5 hq hq'
      go_wp2_with fail
      refine (refUint_any _ (some ad) l.length cap l (a + 1) (HB.out _ _) (by omega) (by omega)).mono ?_
      rintro e w' ⟨hs, rfl⟩
      obtain rfl := hs.of_error HS.out
      go_wp2_with fail
      try simp only [Exit.inBlock, Exit.then]
      refine bodyPost_ret (results_node (x := nd0 l[a].toNat) rfl (two_first _ _ _)) rfl ?_
      show NodeSays w (rdNode l a size) _ _
      rw [HX.out]
      exact ⟨⟨_, rfl⟩, HB2.out _ _⟩
    · by_cases hlong : 1024 < (x : Int)
      · have HX := Lib.hid (show rdNode l a size = .error (a + 1, 2) by unfold rdNode; rw [dif_pos ha, if_neg k0, if_neg k1, if_neg k2, if_neg k3, if_neg k4, if_pos k5, hres]; show (if _ then _ else _) = _; rw [if_pos (by omega)])
        have HS := Lib.hid hres
        clear hres k0 k1 k2 k3 k4 k5 hq hq'
        go_wp2_with fail
        refine (refUint_any _ (some ad) l.length cap l (a + 1) (HB.out _ _) (by omega) (by omega)).mono ?_
        rintro e w' ⟨hs, rfl⟩
        obtain rfl := hs.of_ok HS.out
        unfold u64V
        go_wp2_with fail
        try simp only [Exit.inBlock, Exit.then]
        refine bodyPost_ret (results_node (x := nd0 l[a].toNat) rfl (two_first _ _ _)) rfl ?_
        show NodeSays w (rdNode l a size) _ _
        rw [HX.out]
        exact ⟨⟨_, rfl⟩, HB2.out _ _⟩
      · have HX := Lib.hid (show rdNode l a size = .ok ({ nd0 l[a].toNat with kids := x }, tn) by unfold rdNode; rw [dif_pos ha, if_neg k0, if_neg k1, if_neg k2, if_neg k3, if_neg k4, if_pos k5, hres]; show (if _ then _ else _) = _; rw [if_neg (by omega)]; simp [k5])
        have HS := Lib.hid hres
        have hwx : IntKind.i64.wrap (x : Int) = (x : Int) := wrap_i64' _ (by omega) (by omega)
        clear hres k0 k1 k2 k3 k4 k5 hq hq'
        go_wp2_with fail
        refine (refUint_any _ (some ad) l.length cap l (a + 1) (HB.out _ _) (by omega) (by omega)).mono ?_
        rintro e w' ⟨hs, rfl⟩
        obtain rfl := hs.of_ok HS.out
        unfold u64V
        go_wp2_with fail
        try simp only [Exit.inBlock, Exit.then]
        refine bodyPost_ret (results_node (x := { nd0 l[a].toNat with kids := x }) rfl (two_first _ _ _)) rfl ?_
        show NodeSays w (rdNode l a size) _ _
        rw [HX.out]
        exact ⟨rfl, HB2.out _ _⟩
  have q5 : ((l[a].toNat : Int) == 5) = false := hq' 5 k5
  have HX := Lib.hid (show rdNode l a size = .error (a, 3) by simp [rdNode, ha, k0, k1, k2, k3, k4, k5])
  clear k0 k1 k2 k3 k4 k5 hq hq'
  go_wp2_with fail
  try simp only [Exit.inBlock, Exit.then]
  refine bodyPost_ret (results_node (x := nd0 l[a].toNat) rfl (two_first _ _ _)) rfl ?_
  show NodeSays w (rdNode l a size) _ _
  rw [HX.out]
  exact ⟨⟨_, rfl⟩, HB2.out _ _⟩
end Go.Proofs.Yticipdjfkpakpaa
