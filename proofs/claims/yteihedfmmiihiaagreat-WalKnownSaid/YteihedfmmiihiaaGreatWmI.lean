/- WmI: texts of wal, merged (a claim may hold few texts) -/
import Derived.Test.YteihedfmmiihiaaGreatWlOpen
namespace Go.Proofs.YteihedfmmiihiaaGreat
open Go.RowKit
variable {Xs : Nat → Prop}

def sameSv (s old : Sv) : Bool := decide (s.term = old.term) && (decide (s.vote = old.vote) && decide (s.log = old.log))
/-- what keeping does to the disk, and how large the file is then -/
def keepR (dk : Dk) (old s : Sv) (size : Nat) : Int × Dk :=
  if 4096 + 2 * full s < size + (runB (recB old s)).length then anewR dk (runB (recB none0 s))
  else if sameSv s old then (0, dk) else moreR dk (runB (recB old s))
def keepN (old s : Sv) (size : Nat) : Nat :=
  if 4096 + 2 * full s < size + (runB (recB old s)).length then full s
  else if sameSv s old then size else size + (runB (recB old s)).length
def KeepY (Xs : Nat → Prop) (w : World) (d F N wl : Nat) (old s : Sv) (A0 : Option Addr) (c0 size : Nat) (e : Ending) (w' : World) (rc : Int) (rd : Dk) (sz2 : Nat) : Prop :=
  e = .returned (.int .i64 rc) ∧ rd.Is Xs w' d F (N + 5) ∧ Turns (AnS d F wl) w w' ∧
  ((rc = 0 ∧ ∃ A c, Blk w' wl 41 (walC d s.term s.vote (.slice A s.log.length c) false sz2) ∧ Lg w' A s.log.length c s.log ∧ ∀ g, A.map Addr.block = some g → w.heap.size ≤ g) ∨
   (rc ≠ 0 ∧ Blk w' wl 41 (walC d old.term old.vote (.slice A0 old.log.length c0) true size)))
set_option maxRecDepth 20000 in
set_option maxHeartbeats 4000000 in
theorem keep_bad (w : World) (wl d : Nat) (cs : List Value) (hb : Blk w wl 41 (.pointer (some ⟨d, 0, none⟩) :: cs)) (A : Option Addr) (n c : Nat) (s : Sv) (hl : Lg w A n c s.log) (hm : mayB s = false) :
    Calls Tryz.prog 12 #[.pointer (some ⟨wl, 0, none⟩), svV s.term s.vote A n c] w fun e w' => e = .returned (.int .i64 3) ∧ Below w.heap.size w w' := by
  have B0 := Lib.hid (Below.new w (.cells #[.int .i64 s.term, .int .i64 s.vote, .slice A n c] 27))
  have K0 := Lib.hid (Blk.new w 27 [.int .i64 s.term, .int .i64 s.vote, .slice A n c])
  have HM := may_any _ A n c s (hl.bel B0.out)
  rw [hm] at HM
  unfold svV at HM ⊢
  have HM := Lib.hid HM
  have HW := Lib.hid (hb.bel B0.out)
  clear hl hm hb
  go_enter Tryz.func12, Tryz.ntmps12
  go_upto_region 1 with (fail)
  generalize w.alloc (.cells #[.int .i64 s.term, .int .i64 s.vote, .slice A n c] 27) = X at *
  have k0 : X.cell? ⟨w.heap.size, 0, none⟩ = some (.int .i64 s.term) := K0.out.cell 0
  have k1 : X.cell? ⟨w.heap.size, 1, none⟩ = some (.int .i64 s.vote) := K0.out.cell 1
  have k2 : X.cell? ⟨w.heap.size, 2, none⟩ = some (.slice A n c) := K0.out.cell 2
  have w0 : X.cell? ⟨wl, 0, none⟩ = some (.pointer (some ⟨d, 0, none⟩)) := HW.out.cell 0
  go_wp2_with fail
  refine HM.out.mono ?_
  rintro e W ⟨rfl, hb2⟩
  have HB := Lib.hid (B0.out.trans (hb2.mono B0.out.size))
  clear hb2
  go_wp2_with fail
  go_ret
  exact ⟨rfl, HB.out⟩
set_option maxRecDepth 20000 in
set_option maxHeartbeats 4000000 in
theorem keep_no (w : World) (a : Option Addr) (h : NoWal w a) (A : Option Addr) (n c : Nat) (t v : Int) :
    Calls Tryz.prog 12 #[.pointer a, svV t v A n c] w fun e w' => e = .returned (.int .i64 1) ∧ Below w.heap.size w w' := by
  have B0 := Lib.hid (Below.new w (.cells #[.int .i64 t, .int .i64 v, .slice A n c] 27))
  unfold svV
  rcases h with rfl | ⟨wl, rfl, hc⟩
  · go_enter Tryz.func12, Tryz.ntmps12
    go_wp2_with fail
    go_ret
    exact ⟨rfl, B0.out⟩
  · have hlt := World.block_lt_of_cell? w _ hc
    have hc2 := (B0.out.cell (p := ⟨wl, 0, none⟩) hlt).trans hc
    go_enter Tryz.func12, Tryz.ntmps12
    go_wp2_with fail
    go_ret
    exact ⟨rfl, B0.out⟩
set_option maxRecDepth 20000 in
set_option maxHeartbeats 4000000 in
theorem keep_down (w : World) (d F N wl : Nat) (dk : Dk) (hd : dk.Is Xs w d F N) (t v : Int) (sl : Value) (dn : Bool) (sz : Nat) (hb : Blk w wl 41 (walC d t v sl dn sz)) (hdn : dn = true ∨ dk.off = true) (A : Option Addr) (n c : Nat) (s : Sv) (hl : Lg w A n c s.log) (hs : SvOk s) :
    Calls Tryz.prog 12 #[.pointer (some ⟨wl, 0, none⟩), svV s.term s.vote A n c] w fun e w' => e = .returned (.int .i64 250) ∧ Blk w' wl 41 (walC d t v sl true sz) ∧ Turns (fun i => i = wl) w w' := by
  have B0 := Lib.hid (Below.new w (.cells #[.int .i64 s.term, .int .i64 s.vote, .slice A n c] 27))
  have K0 := Lib.hid (Blk.new w 27 [.int .i64 s.term, .int .i64 s.vote, .slice A n c])
  have HM := may_any _ A n c s (hl.bel B0.out)
  rw [(mayB_iff s).2 hs] at HM
  unfold svV at HM ⊢
  have HM := Lib.hid HM
  have HW := Lib.hid (hb.bel B0.out)
  have HD := Lib.hid (DS.bel hd B0.out)
  clear hl hs hb hd
  go_enter Tryz.func12, Tryz.ntmps12
  go_upto_region 1 with (fail)
  generalize w.alloc (.cells #[.int .i64 s.term, .int .i64 s.vote, .slice A n c] 27) = X at *
  have k0 : X.cell? ⟨w.heap.size, 0, none⟩ = some (.int .i64 s.term) := K0.out.cell 0
  have k1 : X.cell? ⟨w.heap.size, 1, none⟩ = some (.int .i64 s.vote) := K0.out.cell 1
  have k2 : X.cell? ⟨w.heap.size, 2, none⟩ = some (.slice A n c) := K0.out.cell 2
  have w0 : X.cell? ⟨wl, 0, none⟩ = some (.pointer (some ⟨d, 0, none⟩)) := HW.out.cell 0
  go_wp2_with fail
  refine HM.out.mono ?_
  rintro e W ⟨rfl, hb2⟩
  have HB := Lib.hid (B0.out.trans (hb2.mono B0.out.size))
  have NW := Lib.hid (HW.out.bel hb2)
  have ND := Lib.hid (DS.bel HD.out hb2)
  clear hb2 k0 k1 k2 w0
  have w0 : W.cell? ⟨wl, 0, none⟩ = some (.pointer (some ⟨d, 0, none⟩)) := NW.out.cell 0
  have w5 : W.cell? ⟨wl, 5, none⟩ = some (.bool dn) := NW.out.cell 5
  have z5 := NW.out.fz 5
  have hfin := Lib.hid (NW.out.set 5 (.bool true))
  have TT : Turns (fun i => i = wl) w (W.setCell ⟨wl, 5, none⟩ (.bool true)) := Turns.set (S := fun i => i = wl) (Turns.of_below HB.out) ⟨wl, 5, none⟩ (.bool true) (fun _ => rfl)
  have HTT := Lib.hid TT
  clear TT
  cases dn with
  | true =>
    clear hdn
    go_wp2_with fail
    go_ret
    exact ⟨rfl, hfin.out, HTT.out⟩
  | false =>
    have hoff : dk.off = true := hdn.resolve_left (by decide)
    have HO := offD W d F N dk.off dk.fuse dk.p ND.out
    rw [hoff] at HO
    have HO := Lib.hid HO
    clear hdn hoff
    go_wp2_with fail
    refine HO.out.mono ?_
    rintro e W2 ⟨rfl, rfl⟩
    go_wp2_with fail
    go_ret
    exact ⟨rfl, hfin.out, HTT.out⟩
end Go.Proofs.YteihedfmmiihiaaGreat

namespace Go.Proofs.YteihedfmmiihiaaGreat
open Go.RowKit

theorem Sv.eq {a b : Sv} (h1 : a.term = b.term) (h2 : a.vote = b.vote) (h3 : a.log = b.log) : a = b := by
  cases a; cases b; simp only at h1 h2 h3; subst h1 h2 h3; rfl
theorem sameSv_iff {a b : Sv} : sameSv a b = true ↔ a = b := by
  constructor
  · intro h
    unfold sameSv at h
    simp only [Bool.and_eq_true, decide_eq_true_eq] at h
    exact Sv.eq h.1 h.2.1 h.2.2
  · rintro rfl
    unfold sameSv
    simp
instance : DecidableEq Sv := fun _ _ => decidable_of_iff _ sameSv_iff
/-- what is opened: done and tidy, or the power failed and nothing is lost -/
theorem open_says {S : Sv → Prop} {M : Nat} {dk : Dk} (hoff : dk.off = false) (hg : Good S M dk.p) (hall : (pl dk.p kW).2 = (pl dk.p kW).1.length) (hS : ∀ y, S y → full y ≤ M) :
    ∃ l t s, (pl dk.p kW).1 = l ++ t ∧ FileIs l s ∧ Rest t ∧ S s ∧
      (((openR dk s t).1 = 0 ∧ (openR dk s t).2.off = false ∧ Tidy s (openN s l t) (openR dk s t).2.p) ∨
       ((openR dk s t).1 = 250 ∧ (openR dk s t).2.off = true ∧ Good S M (openR dk s t).2.p)) := by
  obtain ⟨l, t, s, e, hF, hT, hs, hl⟩ := hg.says (pl dk.p kW).1.length (by omega) (Nat.le_refl _)
  rw [List.take_length] at e
  refine ⟨l, t, s, e, hF, hT, hs, ?_⟩
  unfold openR openN
  by_cases ht : t = []
  · rw [if_pos ht, if_pos ht]
    subst ht
    rw [List.append_nil] at e
    rcases clR_says dk hoff with ⟨h1, h2, h3, h4⟩ | ⟨h1, h2, h3⟩
    · have e4 := pl_same (h4 kW kWN)
      exact .inl ⟨h1, h2, ⟨by rw [e4, e]; exact hF, by rw [e4]; exact hall, by rw [e4, e], hl, h3, by rw [h4 kO kON]; exact hg.other, keys_same hg.keys (fun k _ k2 => h4 k k2)⟩⟩
    · exact .inr ⟨h1, h2, by rw [h3]; exact hg⟩
  · rw [if_neg ht, if_neg ht]
    exact anew_says hoff hg hF.ok (hS s hs)
/-- what is kept: done and tidy, or the power failed and it is there or not -/
theorem keep_says {old s : Sv} {size M : Nat} {dk : Dk} (hoff : dk.off = false) (ht : Tidy old size dk.p) (hs : SvOk s) (hM : 4096 + 2 * full s ≤ M) (hM2 : size ≤ M) :
    ((keepR dk old s size).1 = 0 ∧ (keepR dk old s size).2.off = false ∧ Tidy s (keepN old s size) (keepR dk old s size).2.p) ∨
    ((keepR dk old s size).1 = 250 ∧ (keepR dk old s size).2.off = true ∧ Good (fun y => y = old ∨ y = s) M (keepR dk old s size).2.p) := by
  unfold keepR keepN
  by_cases hb : 4096 + 2 * full s < size + (runB (recB old s)).length
  · rw [if_pos hb, if_pos hb]
    exact anew_says hoff (ht.good (S := fun y => y = old ∨ y = s) (.inl rfl) hM2) hs (by omega)
  · rw [if_neg hb, if_neg hb]
    cases he : sameSv s old
    · simp only [Bool.false_eq_true, if_false]
      exact more_says hoff ht hs (by omega) hM (.inl rfl) (.inr rfl)
    · simp only [if_true]
      obtain rfl := sameSv_iff.1 he
      exact .inl ⟨trivial, hoff, ht⟩
/-! ### what a deed makes of what is saved -/
structure Dd where
  act : Nat
  term : Int
  data : ByteArray
  n : Int
def termN (t : Int) : Int := 1 + (t % 18446744073709551616) % 1000
def addN : Nat → En → List En → List En
  | 0, _, l => l
  | k + 1, x, l => addN k x (l ++ [x])
def nextP (s : Sv) (x : Dd) : Sv :=
  if x.act = 0 then ⟨s.term, s.vote, s.log ++ [⟨termN x.term, x.data⟩]⟩
  else if x.act = 1 then ⟨s.term, s.vote, s.log.take ((x.n % 18446744073709551616) % (s.log.length + 1)).toNat⟩
  else if x.act = 2 then ⟨termN x.term, (x.n % 18446744073709551616) % 8 - 1, s.log⟩
  else if x.act = 6 then ⟨s.term, s.vote, addN (min x.n.toNat 40) ⟨termN x.term, ⟨(x.data.data.toList.take 50).toArray⟩⟩ s.log⟩
  else s
/-- small enough behind i deeds -/
structure Few (i : Nat) (s : Sv) : Prop where
  ok : SvOk s
  len : s.log.length ≤ 40 * i
  wgt : wt s ≤ 64 + 3300 * i
theorem termN_ok (t : Int) : 1 ≤ termN t ∧ termN t ≤ 1000 := by unfold termN; omega
theorem log_sum (a b : List En) : ((a ++ b).map fun x => 32 + x.data.size).sum = (a.map fun x => 32 + x.data.size).sum + (b.map fun x => 32 + x.data.size).sum := by
  rw [List.map_append, List.sum_append]
theorem addN_eq : ∀ (k : Nat) (x : En) (l : List En), addN k x l = l ++ List.replicate k x
  | 0, x, l => by simp [addN]
  | k + 1, x, l => by rw [addN, addN_eq k x (l ++ [x]), List.append_assoc]; rfl
theorem sum_rep (k : Nat) (x : En) : ((List.replicate k x).map fun x => 32 + x.data.size).sum = k * (32 + x.data.size) := by
  rw [List.map_replicate, List.sum_replicate_nat]
theorem take_sum : ∀ (l : List En) (k : Nat), ((l.take k).map fun x => 32 + x.data.size).sum ≤ (l.map fun x => 32 + x.data.size).sum
  | [], _ => by simp
  | x :: l, 0 => by simp
  | x :: l, k + 1 => by
    have := take_sum l k
    simp only [List.take_succ_cons, List.map_cons, List.sum_cons]
    omega
theorem Few.mono {i j : Nat} {s : Sv} (h : Few i s) (hj : i ≤ j) : Few j s := ⟨h.ok, by have := h.len; omega, by have := h.wgt; omega⟩
theorem Few.zero : Few 0 none0 := ⟨⟨by decide, by decide, by decide, by simp [none0]⟩, by simp [none0], by decide⟩
theorem next_few {i : Nat} {s : Sv} (h : Few i s) (x : Dd) (hx : x.data.size ≤ 3000) (hi : i ≤ 60) : Few (i + 1) (nextP s x) := by
  have ht := termN_ok x.term
  have hw := h.wgt
  have hl := h.len
  have hk := h.ok.log
  unfold wt at hw
  unfold nextP
  split
  · refine ⟨⟨h.ok.term, h.ok.vote, by simp only [List.length_append, List.length_singleton]; omega, fun y hy => ?_⟩, by simp only [List.length_append, List.length_singleton]; omega, ?_⟩
    · rcases List.mem_append.1 hy with hy | hy
      · exact h.ok.en y hy
      · obtain rfl := List.mem_singleton.1 hy
        exact ⟨⟨ht.1, by simp only; omega⟩, by simp only; omega⟩
    · unfold wt
      simp only [log_sum, List.map_cons, List.map_nil, List.sum_cons, List.sum_nil]
      omega
  · split
    · refine ⟨⟨h.ok.term, h.ok.vote, ?_, fun y hy => h.ok.en y (List.mem_of_mem_take hy)⟩, ?_, ?_⟩
      · simp only [List.length_take]; omega
      · simp only [List.length_take]; omega
      · have := take_sum s.log ((x.n % 18446744073709551616) % (s.log.length + 1)).toNat
        unfold wt
        simp only
        omega
    · split
      · exact ⟨⟨⟨by simp only; omega, by simp only; omega⟩, ⟨by simp only; omega, by simp only; omega⟩, h.ok.log, h.ok.en⟩, by simp only; omega, by unfold wt; simp only; omega⟩
      · split
        · simp only [addN_eq]
          have h50 : (⟨(x.data.data.toList.take 50).toArray⟩ : ByteArray).size ≤ 50 := by
            show (x.data.data.toList.take 50).toArray.size ≤ 50
            simp only [List.size_toArray, List.length_take]; omega
          refine ⟨⟨h.ok.term, h.ok.vote, by simp only [List.length_append, List.length_replicate]; omega, fun y hy => ?_⟩, by simp only [List.length_append, List.length_replicate]; omega, ?_⟩
          · rcases List.mem_append.1 hy with hy | hy
            · exact h.ok.en y hy
            · obtain rfl := List.eq_of_mem_replicate hy
              exact ⟨⟨ht.1, by simp only; omega⟩, by simp only; omega⟩
          · unfold wt
            simp only [log_sum, sum_rep]
            have : min x.n.toNat 40 * (32 + (⟨(x.data.data.toList.take 50).toArray⟩ : ByteArray).size) ≤ 40 * 82 := Nat.mul_le_mul (Nat.min_le_right _ _) (by omega)
            omega
        · exact h.mono (by omega)
theorem Few.caps {i : Nat} {s : Sv} (h : Few i s) (hi : i ≤ 61) : wt s ≤ 300000 ∧ full s ≤ 600100 ∧ s.log.length ≤ 4096 := by
  have h1 := h.wgt
  have h2 := full_len s h.ok
  have h3 := h.ok.log
  exact ⟨by omega, by omega, h3⟩
end Go.Proofs.YteihedfmmiihiaaGreat
