/- WmD: texts of wal, merged (a claim may hold few texts) -/
import Derived.Test.YteihedfmmiihiaaGreatWmC
import Derived.Test.YteihedfmmiihiaaGreatWmA
import Derived.Test.YteihedfmmiihiaaGreatCodeBits
import Derived.Test.YteihedfmmiihiaaGreatBlk
import Derived.Test.YteihedfmmiihiaaGreatBytes
import Derived.Test.YteihedfmmiihiaaGreatCodeAsk
import Derived.Deep.WholeRow
import Derived.Test.YteihedfmmiihiaaGreatCodePuts
namespace Go.Proofs.YteihedfmmiihiaaGreat
open Go.RowKit

def kW : ByteArray := ⟨#[119, 97, 108]⟩
def kN : ByteArray := ⟨#[119, 97, 108, 46, 110, 101, 119]⟩
def kO : ByteArray := ⟨#[111, 116, 104, 101, 114]⟩
theorem kNW : kN ≠ kW := by decide
theorem kWN : kW ≠ kN := by decide
theorem kON : kO ≠ kN := by decide
theorem kOW : kO ≠ kW := by decide
/-! ### one change behind the other -/
def thenR (r : Int × Dk) (f : Dk → Int × Dk) : Int × Dk := if r.1 = 0 then f r.2 else r
def clR (s : Dk) : Int × Dk := (if chC s kN = 5 then 0 else chC s kN, rmS s kN)
def apR (k : ByteArray) (B : List UInt8) (s : Dk) : Int × Dk := (apC s, apS s k B)
def syR (k : ByteArray) (s : Dk) : Int × Dk := (chC s k, syS s k)
def mvR (s : Dk) : Int × Dk := (chC s kN, mvS s kN kW)
def anewR (s : Dk) (B : List UInt8) : Int × Dk := thenR (thenR (thenR (clR s) (apR kN B)) (syR kN)) mvR
def moreR (s : Dk) (B : List UInt8) : Int × Dk := thenR (apR kW B s) (syR kW)
theorem thenR_ok {r : Int × Dk} {f : Dk → Int × Dk} (h : r.1 = 0) : thenR r f = f r.2 := by unfold thenR; rw [if_pos h]
theorem thenR_no {r : Int × Dk} {f : Dk → Int × Dk} (h : r.1 = 250) : thenR r f = r := by unfold thenR; rw [if_neg (by omega)]
theorem clR_says (s : Dk) (h : s.off = false) : ((clR s).1 = 0 ∧ (clR s).2.off = false ∧ (clR s).2.p kN = none ∧ ∀ k, k ≠ kN → (clR s).2.p k = s.p k) ∨ ((clR s).1 = 250 ∧ (clR s).2.off = true ∧ (clR s).2.p = s.p) := by
  unfold clR rmS chC chS
  cases hp : s.p kN with
  | none => left; simp [h, hp]
  | some f =>
    by_cases hf : s.fuse = 0
    · right; simp [h, hf]
    · left; simp [h, hf, wip]
      intro k hk e; exact absurd e hk
theorem apR_says (s : Dk) (h : s.off = false) (k : ByteArray) (B : List UInt8) : (apR k B s).2.p = upd s.p k ((pl s.p k).1 ++ B, (pl s.p k).2) ∧ (((apR k B s).1 = 0 ∧ (apR k B s).2.off = false) ∨ ((apR k B s).1 = 250 ∧ (apR k B s).2.off = true)) := by
  unfold apR apC apS
  by_cases hf : s.fuse = 0 <;> simp [h, hf]
theorem syR_says (s : Dk) (h : s.off = false) (k : ByteArray) (hk : (s.p k).isSome = true) : ((syR k s).1 = 0 ∧ (syR k s).2.off = false ∧ (syR k s).2.p = upd s.p k ((pl s.p k).1, (pl s.p k).1.length)) ∨ ((syR k s).1 = 250 ∧ (syR k s).2.off = true ∧ (syR k s).2.p = s.p) := by
  unfold syR syS chC chS
  by_cases hf : s.fuse = 0 <;> simp [h, hf, hk]
theorem mvR_says (s : Dk) (h : s.off = false) (hk : (s.p kN).isSome = true) : ((mvR s).1 = 0 ∧ (mvR s).2.off = false ∧ (mvR s).2.p = upd (wip s.p kN) kW (pl s.p kN)) ∨ ((mvR s).1 = 250 ∧ (mvR s).2.off = true ∧ (mvR s).2.p = s.p) := by
  unfold mvR mvS chC chS
  by_cases hf : s.fuse = 0 <;> simp [h, hf, hk]
theorem upd_ne {p : Fs} {k k' : ByteArray} {v : Fd} (h : k' ≠ k) : upd p k v k' = p k' := by unfold upd; rw [if_neg h]
theorem upd_at {p : Fs} {k : ByteArray} {v : Fd} : upd p k v k = some v := by unfold upd; rw [if_pos rfl]
theorem wip_ne {p : Fs} {k k' : ByteArray} (h : k' ≠ k) : wip p k k' = p k' := by unfold wip; rw [if_neg h]
theorem pl_at {p : Fs} {k : ByteArray} {v : Fd} (h : p k = some v) : pl p k = v := by unfold pl; rw [h]; rfl
theorem pl_none {p : Fs} {k : ByteArray} (h : p k = none) : pl p k = ([], 0) := by unfold pl; rw [h]; rfl
/-- written anew: done, or the power failed and all but the fresh file is as it was -/
theorem anewR_says (s : Dk) (h : s.off = false) (B : List UInt8) :
    ((anewR s B).1 = 0 ∧ (anewR s B).2.off = false ∧ (anewR s B).2.p kW = some (B, B.length) ∧ (anewR s B).2.p kN = none ∧ ∀ k, k ≠ kW → k ≠ kN → (anewR s B).2.p k = s.p k) ∨
    ((anewR s B).1 = 250 ∧ (anewR s B).2.off = true ∧ (∀ k, k ≠ kN → (anewR s B).2.p k = s.p k) ∧ ((anewR s B).2.p kN = s.p kN ∨ ∃ m, (anewR s B).2.p kN = some (B, m))) := by
  unfold anewR
  rcases clR_says s h with ⟨a1, a2, a3, a4⟩ | ⟨a1, a2, a3⟩
  · rw [thenR_ok a1]
    have hp1 : pl (clR s).2.p kN = ([], 0) := pl_none a3
    obtain ⟨b1, ⟨b2, b3⟩ | ⟨b2, b3⟩⟩ := apR_says (clR s).2 a2 kN B
    · rw [thenR_ok b2]
      have hp2 : (apR kN B (clR s).2).2.p kN = some (B, 0) := by rw [b1, upd_at, hp1]; rfl
      rcases syR_says (apR kN B (clR s).2).2 b3 kN (by rw [hp2]; rfl) with ⟨c1, c2, c3⟩ | ⟨c1, c2, c3⟩
      · rw [thenR_ok c1]
        have hp3 : (syR kN (apR kN B (clR s).2).2).2.p kN = some (B, B.length) := by rw [c3, upd_at, pl_at hp2]
        have hk3 : ∀ k, k ≠ kN → (syR kN (apR kN B (clR s).2).2).2.p k = s.p k := fun k hk => by rw [c3, upd_ne hk, b1, upd_ne hk, a4 k hk]
        rcases mvR_says (syR kN (apR kN B (clR s).2).2).2 c2 (by rw [hp3]; rfl) with ⟨d1, d2, d3⟩ | ⟨d1, d2, d3⟩
        · left
          refine ⟨d1, d2, by rw [d3, upd_at, pl_at hp3], by rw [d3, upd_ne kNW]; unfold wip; rw [if_pos rfl], fun k k1 k2 => ?_⟩
          rw [d3, upd_ne k1, wip_ne k2, hk3 k k2]
        · right
          exact ⟨d1, d2, fun k hk => by rw [d3, hk3 k hk], .inr ⟨_, by rw [d3]; exact hp3⟩⟩
      · right
        rw [thenR_no c1]
        exact ⟨c1, c2, fun k hk => by rw [c3, b1, upd_ne hk, a4 k hk], .inr ⟨_, by rw [c3]; exact hp2⟩⟩
    · right
      rw [thenR_no b2, thenR_no b2]
      exact ⟨b2, b3, fun k hk => by rw [b1, upd_ne hk, a4 k hk], .inr ⟨0, by rw [b1, upd_at, hp1]; rfl⟩⟩
  · right
    rw [thenR_no a1, thenR_no a1, thenR_no a1]
    exact ⟨a1, a2, fun k hk => by rw [a3], .inl (by rw [a3])⟩
/-- bytes put behind: done, or the power failed, and they wait -/
theorem moreR_says (s : Dk) (h : s.off = false) (B : List UInt8) :
    ((moreR s B).1 = 0 ∧ (moreR s B).2.off = false ∧ (moreR s B).2.p kW = some ((pl s.p kW).1 ++ B, ((pl s.p kW).1 ++ B).length) ∧ ∀ k, k ≠ kW → (moreR s B).2.p k = s.p k) ∨
    ((moreR s B).1 = 250 ∧ (moreR s B).2.off = true ∧ (moreR s B).2.p kW = some ((pl s.p kW).1 ++ B, (pl s.p kW).2) ∧ ∀ k, k ≠ kW → (moreR s B).2.p k = s.p k) := by
  unfold moreR
  obtain ⟨b1, ⟨b2, b3⟩ | ⟨b2, b3⟩⟩ := apR_says s h kW B
  · rw [thenR_ok b2]
    have hp2 : (apR kW B s).2.p kW = some ((pl s.p kW).1 ++ B, (pl s.p kW).2) := by rw [b1, upd_at]
    rcases syR_says (apR kW B s).2 b3 kW (by rw [hp2]; rfl) with ⟨c1, c2, c3⟩ | ⟨c1, c2, c3⟩
    · left
      exact ⟨c1, c2, by rw [c3, upd_at, pl_at hp2], fun k hk => by rw [c3, upd_ne hk, b1, upd_ne hk]⟩
    · right
      exact ⟨c1, c2, by rw [c3, hp2], fun k hk => by rw [c3, b1, upd_ne hk]⟩
  · right
    rw [thenR_no b2]
    exact ⟨b2, b3, by rw [b1, upd_at], fun k hk => by rw [b1, upd_ne hk]⟩
/-! ### sizes -/
def wt (s : Sv) : Nat := 64 + (s.log.map fun x => 32 + x.data.size).sum
def full (s : Sv) : Nat := (runB (recB none0 s)).length
theorem runB_len (r : List UInt8) : (runB r).length ≤ r.length + 13 * (r.length / 60000 + 1) := by
  by_cases h : r.length ≤ 60000
  · rw [runB_len_le h]; omega
  · have ih := runB_len (r.drop 60000)
    rw [List.length_drop] at ih
    rw [runB_gt h, List.length_append, frameB_len, List.length_cons, List.length_take]
    have : r.length / 60000 = (r.length - 60000) / 60000 + 1 := by omega
    omega
termination_by r.length
decreasing_by rw [List.length_drop]; omega
theorem enB_len {x : En} (h : EnOk x) : (enB x).length ≤ 32 + x.data.size := by
  have h1 := Cd.uB_len 8 x.term.toNat (by have := h.term; omega)
  have h2 := Cd.uB_len 2 x.data.size (by have := h.data; omega)
  have e : x.data.data.toList.length = x.data.size := by simp
  unfold enB Cd.textB
  rw [List.length_append, List.length_append, e]
  omega
theorem ens_len : ∀ (l : List En), (∀ x ∈ l, EnOk x) → (l.flatMap enB).length ≤ (l.map fun x => 32 + x.data.size).sum
  | [], _ => by simp
  | x :: l, h => by
    have h1 := enB_len (h x List.mem_cons_self)
    have h2 := ens_len l (fun y hy => h y (List.mem_cons_of_mem _ hy))
    simp only [List.flatMap_cons, List.length_append, List.map_cons, List.sum_cons]
    omega
theorem drop_wt : ∀ (l : List En) (k : Nat), ((l.drop k).map fun x => 32 + x.data.size).sum ≤ (l.map fun x => 32 + x.data.size).sum
  | [], _ => by simp
  | x :: l, 0 => by simp
  | x :: l, k + 1 => by
    have := drop_wt l k
    simp only [List.drop_succ_cons, List.map_cons, List.sum_cons]
    omega
theorem zig_vote {v : Int} (h : -1 ≤ v ∧ v ≤ 6) : Cd.zig v < 128 := by unfold Cd.zig; split <;> omega
theorem recB_len (was s : Sv) (h : SvOk s) : (recB was s).length ≤ wt s := by
  have h1 := Cd.uB_len 8 s.term.toNat (by have := h.term; omega)
  have h2 := Cd.uB_len 0 (Cd.zig s.vote) (by have := zig_vote h.vote; omega)
  have hc := (cutN_le was.log s.log).2
  have h3 := Cd.uB_len 1 (cutN was.log s.log) (by have := h.log; omega)
  have h4 := Cd.uB_len 1 (s.log.length - cutN was.log s.log) (by have := h.log; omega)
  have h5 := ens_len (s.log.drop (cutN was.log s.log)) (fun x hx => h.en x (List.mem_of_mem_drop hx))
  have h6 := drop_wt s.log (cutN was.log s.log)
  unfold recB wt
  simp only [List.length_append]
  omega
theorem run_len (was s : Sv) (h : SvOk s) : (runB (recB was s)).length ≤ 2 * wt s + 13 := by
  have h1 := recB_len was s h
  have h2 := runB_len (recB was s)
  omega
theorem full_len (s : Sv) (h : SvOk s) : full s ≤ 2 * wt s + 13 := run_len none0 s h
/-- what the law asks of the files' sizes -/
theorem small_of {s : Sv} (h : SvOk s) {n : Nat} (hn : n ≤ 4096 + 2 * full s) : n ≤ 8192 + 4 * wt s := by
  have := full_len s h
  omega
/-! ### what the files say -/
def leftA : List UInt8 := [108, 101, 102, 116, 32, 97, 108, 111, 110, 101]
/-- bytes that say one of these -/
def Reads (S : Sv → Prop) (b : List UInt8) : Prop := ∃ l t s, b = l ++ t ∧ FileIs l s ∧ Rest t ∧ S s ∧ l.length ≤ 4096 + 2 * full s
def Says (S : Sv → Prop) (f : Fd) : Prop := ∀ k, f.2 ≤ k → k ≤ f.1.length → Reads S (f.1.take k)
structure Good (S : Sv → Prop) (M : Nat) (p : Fs) : Prop where
  says : Says S (pl p kW)
  other : p kO = some (leftA, 10)
  keys : ∀ k, p k ≠ none → k = kW ∨ k = kN ∨ k = kO
  short : (pl p kW).1.length ≤ M ∧ (pl p kN).1.length ≤ M
structure Tidy (s : Sv) (size : Nat) (p : Fs) : Prop where
  file : FileIs (pl p kW).1 s
  all : (pl p kW).2 = (pl p kW).1.length
  sz : (pl p kW).1.length = size
  small : size ≤ 4096 + 2 * full s
  fresh : p kN = none
  other : p kO = some (leftA, 10)
  keys : ∀ k, p k ≠ none → k = kW ∨ k = kN ∨ k = kO
theorem Good.mono {S T : Sv → Prop} {M : Nat} {p : Fs} (h : Good S M p) (hs : ∀ x, S x → T x) : Good T M p :=
  ⟨fun k h1 h2 => by obtain ⟨l, t, s, e, f, r, hx, b⟩ := h.says k h1 h2; exact ⟨l, t, s, e, f, r, hs s hx, b⟩, h.other, h.keys, h.short⟩
theorem Tidy.good {s : Sv} {size M : Nat} {p : Fs} (h : Tidy s size p) {S : Sv → Prop} (hs : S s) (hM : size ≤ M) : Good S M p := by
  refine ⟨fun k h1 h2 => ?_, h.other, h.keys, by rw [h.sz]; exact hM, by rw [pl_none h.fresh]; exact Nat.zero_le _⟩
  have e : k = (pl p kW).1.length := by have := h.all; omega
  subst e
  rw [List.take_length]
  exact ⟨_, [], s, (List.append_nil _).symm, h.file, .nil, hs, by rw [h.sz]; exact h.small⟩
/-- all names: what was there, and these -/
theorem keys_same {p p' : Fs} (h : ∀ k, p k ≠ none → k = kW ∨ k = kN ∨ k = kO) (he : ∀ k, k ≠ kW → k ≠ kN → p' k = p k) : ∀ k, p' k ≠ none → k = kW ∨ k = kN ∨ k = kO := fun k hk => by
  by_cases h1 : k = kW
  · exact .inl h1
  · by_cases h2 : k = kN
    · exact .inr (.inl h2)
    · exact h k (by rw [← he k h1 h2]; exact hk)
theorem pl_same {p p' : Fs} {k : ByteArray} (h : p' k = p k) : pl p' k = pl p k := by unfold pl; rw [h]
/-- the file is written anew with what is saved -/
theorem anew_says {S : Sv → Prop} {M : Nat} {d : Dk} (hoff : d.off = false) (hg : Good S M d.p) {x : Sv} (hx : SvOk x) (hM : full x ≤ M) :
    ((anewR d (runB (recB none0 x))).1 = 0 ∧ (anewR d (runB (recB none0 x))).2.off = false ∧ Tidy x (full x) (anewR d (runB (recB none0 x))).2.p) ∨
    ((anewR d (runB (recB none0 x))).1 = 250 ∧ (anewR d (runB (recB none0 x))).2.off = true ∧ Good S M (anewR d (runB (recB none0 x))).2.p) := by
  rcases anewR_says d hoff (runB (recB none0 x)) with ⟨h1, h2, h3, h4, h5⟩ | ⟨h1, h2, h3, h4⟩
  · refine .inl ⟨h1, h2, ?_⟩
    have e := pl_at h3
    refine ⟨by rw [e]; exact .anew hx, by rw [e], by rw [e]; rfl, by omega, h4, by rw [h5 kO kOW kON]; exact hg.other, keys_same hg.keys h5⟩
  · refine .inr ⟨h1, h2, by rw [pl_same (h3 kW kWN)]; exact hg.says, by rw [h3 kO kON]; exact hg.other, keys_same hg.keys (fun k _ k2 => h3 k k2), by rw [pl_same (h3 kW kWN)]; exact hg.short.1, ?_⟩
    rcases h4 with h4 | ⟨m, h4⟩
    · rw [pl_same h4]; exact hg.short.2
    · rw [pl_at h4]; exact hM
/-- a run is put behind the file -/
theorem more_says {s x : Sv} {size M : Nat} {d : Dk} (hoff : d.off = false) (ht : Tidy s size d.p) (hx : SvOk x) (hsz : size + (runB (recB s x)).length ≤ 4096 + 2 * full x) (hM : 4096 + 2 * full x ≤ M) {S : Sv → Prop} (h1 : S s) (h2 : S x) :
    ((moreR d (runB (recB s x))).1 = 0 ∧ (moreR d (runB (recB s x))).2.off = false ∧ Tidy x (size + (runB (recB s x)).length) (moreR d (runB (recB s x))).2.p) ∨
    ((moreR d (runB (recB s x))).1 = 250 ∧ (moreR d (runB (recB s x))).2.off = true ∧ Good S M (moreR d (runB (recB s x))).2.p) := by
  rcases moreR_says d hoff (runB (recB s x)) with ⟨k1, k2, k3, k4⟩ | ⟨k1, k2, k3, k4⟩
  · refine .inl ⟨k1, k2, ?_⟩
    have e := pl_at k3
    exact ⟨by rw [e]; exact ht.file.more hx, by rw [e], by rw [e]; simp only [List.length_append]; rw [ht.sz], hsz, by rw [k4 kN kNW]; exact ht.fresh, by rw [k4 kO kOW]; exact ht.other, keys_same ht.keys (fun k q1 _ => k4 k q1)⟩
  · refine .inr ⟨k1, k2, ?_, by rw [k4 kO kOW]; exact ht.other, keys_same ht.keys (fun k q1 _ => k4 k q1), ?_, ?_⟩
    · rw [pl_at k3]
      intro k hk1 hk2
      simp only at hk1 hk2 ⊢
      rw [ht.all] at hk1
      obtain ⟨j, rfl⟩ : ∃ j, k = (pl d.p kW).1.length + j := ⟨k - (pl d.p kW).1.length, by omega⟩
      rw [List.length_append] at hk2
      rw [List.take_append, List.take_of_length_le (by omega), Nat.add_sub_cancel_left]
      by_cases hj : j = (runB (recB s x)).length
      · subst hj
        rw [List.take_length]
        refine ⟨_, [], x, (List.append_nil _).symm, ht.file.more hx, .nil, h2, ?_⟩
        rw [List.length_append, ht.sz]
        exact hsz
      · refine ⟨_, _, s, rfl, ht.file, rest_of (List.take_append_drop j _).symm (fun e => ?_), h1, by rw [ht.sz]; exact ht.small⟩
        have := congrArg List.length e
        rw [List.length_drop] at this
        simp at this
        omega
    · rw [pl_at k3]
      simp only [List.length_append]
      rw [ht.sz]
      omega
    · rw [pl_same (k4 kN kNW), pl_none ht.fresh]
      exact Nat.zero_le _
/-! ### a crash -/
theorem crash_pl (n : Nat) (z : Nat → Int) : ∀ (ks : List (List UInt8)) (i : Nat) (p : Fs) (_ : ks.Nodup) (_ : ∀ k, (pl p k).2 ≤ (pl p k).1.length) (k : ByteArray),
    (k.data.toList ∈ ks → ∃ m, (pl p k).2 ≤ m ∧ m ≤ (pl p k).1.length ∧ pl (crashF n z ks i p) k = ((pl p k).1.take m, m)) ∧ (k.data.toList ∉ ks → crashF n z ks i p k = p k)
  | [], _, _, _, _, _ => ⟨fun h => absurd h (by simp), fun _ => rfl⟩
  | x :: xs, i, p, hn, hw, k => by
    have hn1 := List.nodup_cons.1 hn
    have hx : (keyB x).data.toList = x := by simp [keyB]
    have hxk : k.data.toList = x ↔ k = keyB x := ⟨fun e => key_inj (by rw [hx]; exact e), fun e => by rw [e, hx]⟩
    unfold crashF
    split
    · rename_i hl
      obtain ⟨h1, h2⟩ := crash_pl n z xs i p hn1.2 hw k
      by_cases hk : k = keyB x
      · refine ⟨fun _ => ?_, fun h => absurd (List.mem_cons.2 (.inl (hxk.2 hk))) h⟩
        have h3 := h2 (by rw [hxk.2 hk]; exact hn1.1)
        have h4 := pl_same h3
        rw [hk] at h4 ⊢
        exact ⟨(pl p (keyB x)).1.length, hw _, Nat.le_refl _, by rw [h4, List.take_length]; exact Prod.ext rfl hl⟩
      · exact ⟨fun h => h1 ((List.mem_cons.1 h).resolve_left (fun e => hk (hxk.1 e))), fun h => h2 (fun q => h (List.mem_cons.2 (.inr q)))⟩
    · rename_i hl
      have hm := more_le n z i ((pl p (keyB x)).1.length - (pl p (keyB x)).2)
      have hwx := hw (keyB x)
      obtain ⟨h1, h2⟩ := crash_pl n z xs (i + 1) (upd p (keyB x) ((pl p (keyB x)).1.take ((pl p (keyB x)).2 + more n z i ((pl p (keyB x)).1.length - (pl p (keyB x)).2)), (pl p (keyB x)).2 + more n z i ((pl p (keyB x)).1.length - (pl p (keyB x)).2))) hn1.2 (fun y => by
        rw [pl_upd]
        split
        · simp only [List.length_take]; omega
        · exact hw y) k
      by_cases hk : k = keyB x
      · refine ⟨fun _ => ?_, fun h => absurd (List.mem_cons.2 (.inl (hxk.2 hk))) h⟩
        have h3 := h2 (by rw [hxk.2 hk]; exact hn1.1)
        have h4 := pl_same h3
        rw [hk] at h4 ⊢
        rw [pl_upd, if_pos rfl] at h4
        exact ⟨_, by omega, by omega, h4⟩
      · have e1 : ∀ v, pl (upd p (keyB x) v) k = pl p k := fun v => by rw [pl_upd, if_neg hk]
        have e2 : ∀ v, upd p (keyB x) v k = p k := fun v => upd_ne hk
        rw [e1] at h1
        rw [e2] at h2
        exact ⟨fun h => h1 ((List.mem_cons.1 h).resolve_left (fun e => hk (hxk.1 e))), fun h => h2 (fun q => h (List.mem_cons.2 (.inr q)))⟩
theorem crash_good {S : Sv → Prop} {M n : Nat} {z : Nat → Int} {p : Fs} {ks : List (List UInt8)} (hk : KeysOf p ks) (hw : ∀ k, (pl p k).2 ≤ (pl p k).1.length) (h : Good S M p) :
    Good S M (crashF n z ks 0 p) ∧ (pl (crashF n z ks 0 p) kW).2 = (pl (crashF n z ks 0 p) kW).1.length := by
  have hc := crash_pl n z ks 0 p hk.nodup hw
  have hall : ∀ k, ∃ m, (pl p k).2 ≤ m ∧ m ≤ (pl p k).1.length ∧ pl (crashF n z ks 0 p) k = ((pl p k).1.take m, m) := fun k => by
    by_cases hm : k.data.toList ∈ ks
    · exact (hc k).1 hm
    · have hn : p k = none := by
        cases e : p k with
        | none => rfl
        | some f => exact absurd ((hk.2 k).2 (by rw [e]; simp)) hm
      refine ⟨0, by rw [pl_none hn]; exact Nat.le_refl _, Nat.zero_le _, ?_⟩
      rw [pl_same ((hc k).2 hm), pl_none hn]
      rfl
  obtain ⟨m, h1, h2, h3⟩ := hall kW
  obtain ⟨m', h1', h2', h3'⟩ := hall kN
  have hlen : (pl (crashF n z ks 0 p) kW).1.length = m := by rw [h3]; simp only [List.length_take]; omega
  refine ⟨⟨?_, ?_, ?_, ?_, ?_⟩, ?_⟩
  · intro k k1 k2
    rw [hlen] at k2
    rw [h3] at k1 ⊢
    simp only at k1 ⊢
    obtain rfl : k = m := by omega
    rw [List.take_take, Nat.min_self]
    exact h.says k h1 h2
  · have ho : kO.data.toList ∈ ks := (hk.2 kO).2 (by rw [h.other]; simp)
    obtain ⟨m2, q1, q2, q3⟩ := (hc kO).1 ho
    rw [pl_at h.other] at q1 q2 q3
    have : m2 = 10 := by
      have e : leftA.length = 10 := rfl
      simp only at q1 q2
      omega
    subst this
    cases e : crashF n z ks 0 p kO with
    | none => rw [pl_none e] at q3; cases q3
    | some f => rw [pl_at e] at q3; rw [q3]; rfl
  · intro k hk2
    refine h.keys k (fun e => hk2 ?_)
    have : k.data.toList ∉ ks := fun hm => (hk.2 k).1 hm e
    rw [(hc k).2 this, e]
  · rw [hlen]; have := h.short.1; omega
  · rw [h3']; simp only [List.length_take]; have := h.short.2; omega
  · rw [hlen, h3]
end Go.Proofs.YteihedfmmiihiaaGreat

namespace Go.Proofs.YteihedfmmiihiaaGreat
open Go.RowKit

def itN : Nat → Nat → Nat
  | 0, c => c
  | j + 1, c => rowStep (itN j c)
theorem itN_lt {c : Nat} (h : c < 4294967296) : ∀ j, itN j c < 4294967296
  | 0 => h
  | j + 1 => rowStep_lt (itN_lt h j)
theorem wrap_u32' (n : Int) (h0 : 0 ≤ n) (h1 : n < 4294967296) : IntKind.u32.wrap n = n := by simp [IntKind.wrap, IntKind.bits, IntKind.signed]; omega
theorem rowStep_bits {c : Nat} (h : c < 4294967296) : bits .xor .u32 ((c : Int) / 2) (3988292384 * bits .and .u32 (c : Int) 1 % 4294967296) = (rowStep c : Int) := by
  have h1 := u32_and_nat c 1 h (by omega)
  rw [show ((1 : Nat) : Int) = 1 from rfl] at h1
  have hb : c &&& 1 ≤ 1 := Nat.and_le_right
  rw [h1, show (3988292384 : Int) * ((c &&& 1 : Nat) : Int) % 4294967296 = 3988292384 * ((c &&& 1 : Nat) : Int) from by omega]
  have h2 := u32_xor_nat (c / 2) (3988292384 * (c &&& 1)) (by omega) (by omega)
  have e : ((c / 2 : Nat) : Int) = (c : Int) / 2 := by omega
  rw [e] at h2
  rw [show (3988292384 : Int) * ((c &&& 1 : Nat) : Int) = ((3988292384 * (c &&& 1) : Nat) : Int) from by omega, h2]
  rfl
def tabV (k : Nat) : List Value := (List.range 16).map fun i => .int .u32 ((if i < k then rowN i else 0 : Nat) : Int)
theorem tabV_set (k : Nat) (hk : k < 16) : (tabV k).set k (.int .u32 (rowN k : Int)) = tabV (k + 1) := by
  apply List.ext_getElem?
  intro j
  rw [List.getElem?_set]
  unfold tabV
  by_cases hj : k = j
  · subst hj
    rw [if_pos rfl]
    simp [hk]
  · rw [if_neg hj]
    simp only [List.getElem?_map]
    by_cases hj16 : j < 16
    · have : (List.range 16)[j]? = some j := by simp [hj16]
      rw [this]
      simp only [Option.map_some]
      congr 3
      have : (j < k) = (j < k + 1) := by apply propext; omega
      simp only [this]
    · have : (List.range 16)[j]? = none := by simp; omega
      rw [this]; rfl
set_option maxRecDepth 20000 in
set_option maxHeartbeats 4000000 in
theorem row_any (w : World) : Calls Tryz.prog 88 #[] w fun e w' => e = .returned (.agg (tabV 16).toArray) ∧ Below w.heap.size w w' := by
  go_enter Tryz.func88, Tryz.ntmps88
  go_wp2_with fail
  have hb0 := Blk.new2 w (.cells (tabV 0).toArray 122) 122 (tabV 0)
  have hlo : Below w.heap.size w ((w.alloc (.cells (tabV 0).toArray 122)).alloc (.cells (tabV 0).toArray 122)) := Below.new2 w _ _
  have hr0 := (Blk.new w 122 (tabV 0)).alloc (.cells (tabV 0).toArray 122)
  go_loopw [4] (fun iv wr => ∃ i : Nat, i ≤ 16 ∧ iv = .int .i64 (i : Int) ∧ Hid (Blk wr (w.heap.size + 1) 122 (tabV i)) ∧ Hid (Blk wr w.heap.size 122 (tabV 0)) ∧ Hid (Below w.heap.size w wr)) (fun iv _ => 16 - (intOf iv).toNat)
  case atStart => exact ⟨0, by omega, rfl, Lib.hid hb0, Lib.hid hr0, Lib.hid hlo⟩
  case round =>
    obtain ⟨i, hi, rfl, hB, hR, hL⟩ := hrel
    clear hb0 hr0 hlo
    by_cases hlt : i < 16
    · have hlt1 : (i : Int) < 16 := by omega
      have hw1 : IntKind.u32.wrap (i : Int) = (i : Int) := wrap_u32' _ (by omega) (by omega)
      go_wp2_with fail
      go_loopw [3, 9] (fun cv jv wq => ∃ j : Nat, j ≤ 4 ∧ jv = .int .i64 (j : Int) ∧ cv = .int .u32 (itN j i : Int) ∧ wq = wr) (fun _ jv _ => 4 - (intOf jv).toNat)
      case atStart => exact ⟨0, by omega, rfl, rfl, rfl⟩
      case round =>
        obtain ⟨j, hj, rfl, rfl, rfl⟩ := hrel
        by_cases hjl : j < 4
        · have hjl1 : (j : Int) < 4 := by omega
          have hs := rowStep_bits (itN_lt (c := i) (by omega) j)
          go_wp2_with fail
          refine ⟨⟨j + 1, by omega, by rw [Int.natCast_add]; rfl, rfl, trivial⟩, ?_⟩
          simp [intOf]; omega
        · obtain rfl : j = 4 := by omega
          have hz := hB.out.fz i
          obtain ⟨x, hx⟩ : ∃ x, wr.cell? ⟨w.heap.size + 1, i, none⟩ = some x := by
            have := hB.out.cell i
            rw [List.getElem?_eq_getElem (by simpa [tabV] using hlt)] at this
            exact ⟨_, this⟩
          have hst := Lib.hid (hB.out.set i (.int .u32 (rowN i : Int)))
          go_wp2_with fail
          refine ⟨⟨i + 1, by omega, by rw [Int.natCast_add]; rfl, ?_, Lib.hid (hR.out.far (by simp only; omega) _), Lib.hid (hL.out.setCell (p := ⟨w.heap.size + 1, i, none⟩) (by simp only; omega) _)⟩, ?_⟩
          · have := hst.out
            rw [tabV_set i hlt] at this
            exact Lib.hid this
          · simp [intOf]; omega
    · obtain rfl : i = 16 := by omega
      have c0 : wr.cell? ⟨w.heap.size + 1, 0, none⟩ = some (.int .u32 ((rowN 0 : Nat) : Int)) := hB.out.cell 0
      have c1 : wr.cell? ⟨w.heap.size + 1, 1, none⟩ = some (.int .u32 ((rowN 1 : Nat) : Int)) := hB.out.cell 1
      have c2 : wr.cell? ⟨w.heap.size + 1, 2, none⟩ = some (.int .u32 ((rowN 2 : Nat) : Int)) := hB.out.cell 2
      have c3 : wr.cell? ⟨w.heap.size + 1, 3, none⟩ = some (.int .u32 ((rowN 3 : Nat) : Int)) := hB.out.cell 3
      have c4 : wr.cell? ⟨w.heap.size + 1, 4, none⟩ = some (.int .u32 ((rowN 4 : Nat) : Int)) := hB.out.cell 4
      have c5 : wr.cell? ⟨w.heap.size + 1, 5, none⟩ = some (.int .u32 ((rowN 5 : Nat) : Int)) := hB.out.cell 5
      have c6 : wr.cell? ⟨w.heap.size + 1, 6, none⟩ = some (.int .u32 ((rowN 6 : Nat) : Int)) := hB.out.cell 6
      have c7 : wr.cell? ⟨w.heap.size + 1, 7, none⟩ = some (.int .u32 ((rowN 7 : Nat) : Int)) := hB.out.cell 7
      have c8 : wr.cell? ⟨w.heap.size + 1, 8, none⟩ = some (.int .u32 ((rowN 8 : Nat) : Int)) := hB.out.cell 8
      have c9 : wr.cell? ⟨w.heap.size + 1, 9, none⟩ = some (.int .u32 ((rowN 9 : Nat) : Int)) := hB.out.cell 9
      have c10 : wr.cell? ⟨w.heap.size + 1, 10, none⟩ = some (.int .u32 ((rowN 10 : Nat) : Int)) := hB.out.cell 10
      have c11 : wr.cell? ⟨w.heap.size + 1, 11, none⟩ = some (.int .u32 ((rowN 11 : Nat) : Int)) := hB.out.cell 11
      have c12 : wr.cell? ⟨w.heap.size + 1, 12, none⟩ = some (.int .u32 ((rowN 12 : Nat) : Int)) := hB.out.cell 12
      have c13 : wr.cell? ⟨w.heap.size + 1, 13, none⟩ = some (.int .u32 ((rowN 13 : Nat) : Int)) := hB.out.cell 13
      have c14 : wr.cell? ⟨w.heap.size + 1, 14, none⟩ = some (.int .u32 ((rowN 14 : Nat) : Int)) := hB.out.cell 14
      have c15 : wr.cell? ⟨w.heap.size + 1, 15, none⟩ = some (.int .u32 ((rowN 15 : Nat) : Int)) := hB.out.cell 15
      have z0 := hR.out.fz 0
      have d0 : wr.cell? ⟨w.heap.size, 0, none⟩ = some (.int .u32 0) := hR.out.cell 0
      have z1 := hR.out.fz 1
      have d1 : wr.cell? ⟨w.heap.size, 1, none⟩ = some (.int .u32 0) := hR.out.cell 1
      have z2 := hR.out.fz 2
      have d2 : wr.cell? ⟨w.heap.size, 2, none⟩ = some (.int .u32 0) := hR.out.cell 2
      have z3 := hR.out.fz 3
      have d3 : wr.cell? ⟨w.heap.size, 3, none⟩ = some (.int .u32 0) := hR.out.cell 3
      have z4 := hR.out.fz 4
      have d4 : wr.cell? ⟨w.heap.size, 4, none⟩ = some (.int .u32 0) := hR.out.cell 4
      have z5 := hR.out.fz 5
      have d5 : wr.cell? ⟨w.heap.size, 5, none⟩ = some (.int .u32 0) := hR.out.cell 5
      have z6 := hR.out.fz 6
      have d6 : wr.cell? ⟨w.heap.size, 6, none⟩ = some (.int .u32 0) := hR.out.cell 6
      have z7 := hR.out.fz 7
      have d7 : wr.cell? ⟨w.heap.size, 7, none⟩ = some (.int .u32 0) := hR.out.cell 7
      have z8 := hR.out.fz 8
      have d8 : wr.cell? ⟨w.heap.size, 8, none⟩ = some (.int .u32 0) := hR.out.cell 8
      have z9 := hR.out.fz 9
      have d9 : wr.cell? ⟨w.heap.size, 9, none⟩ = some (.int .u32 0) := hR.out.cell 9
      have z10 := hR.out.fz 10
      have d10 : wr.cell? ⟨w.heap.size, 10, none⟩ = some (.int .u32 0) := hR.out.cell 10
      have z11 := hR.out.fz 11
      have d11 : wr.cell? ⟨w.heap.size, 11, none⟩ = some (.int .u32 0) := hR.out.cell 11
      have z12 := hR.out.fz 12
      have d12 : wr.cell? ⟨w.heap.size, 12, none⟩ = some (.int .u32 0) := hR.out.cell 12
      have z13 := hR.out.fz 13
      have d13 : wr.cell? ⟨w.heap.size, 13, none⟩ = some (.int .u32 0) := hR.out.cell 13
      have z14 := hR.out.fz 14
      have d14 : wr.cell? ⟨w.heap.size, 14, none⟩ = some (.int .u32 0) := hR.out.cell 14
      have z15 := hR.out.fz 15
      have d15 : wr.cell? ⟨w.heap.size, 15, none⟩ = some (.int .u32 0) := hR.out.cell 15
      go_wp2_with fail
      have hk := ((((((((((((((((hR.out.set 0 (.int .u32 ((rowN 0 : Nat) : Int))).set 1 (.int .u32 ((rowN 1 : Nat) : Int))).set 2 (.int .u32 ((rowN 2 : Nat) : Int))).set 3 (.int .u32 ((rowN 3 : Nat) : Int))).set 4 (.int .u32 ((rowN 4 : Nat) : Int))).set 5 (.int .u32 ((rowN 5 : Nat) : Int))).set 6 (.int .u32 ((rowN 6 : Nat) : Int))).set 7 (.int .u32 ((rowN 7 : Nat) : Int))).set 8 (.int .u32 ((rowN 8 : Nat) : Int))).set 9 (.int .u32 ((rowN 9 : Nat) : Int))).set 10 (.int .u32 ((rowN 10 : Nat) : Int))).set 11 (.int .u32 ((rowN 11 : Nat) : Int))).set 12 (.int .u32 ((rowN 12 : Nat) : Int))).set 13 (.int .u32 ((rowN 13 : Nat) : Int))).set 14 (.int .u32 ((rowN 14 : Nat) : Int))).set 15 (.int .u32 ((rowN 15 : Nat) : Int)))
      have hl := ((((((((((((((((hL.out.setCell (p := ⟨w.heap.size, 0, none⟩) (Nat.le_refl _) (.int .u32 ((rowN 0 : Nat) : Int))).setCell (p := ⟨w.heap.size, 1, none⟩) (Nat.le_refl _) (.int .u32 ((rowN 1 : Nat) : Int))).setCell (p := ⟨w.heap.size, 2, none⟩) (Nat.le_refl _) (.int .u32 ((rowN 2 : Nat) : Int))).setCell (p := ⟨w.heap.size, 3, none⟩) (Nat.le_refl _) (.int .u32 ((rowN 3 : Nat) : Int))).setCell (p := ⟨w.heap.size, 4, none⟩) (Nat.le_refl _) (.int .u32 ((rowN 4 : Nat) : Int))).setCell (p := ⟨w.heap.size, 5, none⟩) (Nat.le_refl _) (.int .u32 ((rowN 5 : Nat) : Int))).setCell (p := ⟨w.heap.size, 6, none⟩) (Nat.le_refl _) (.int .u32 ((rowN 6 : Nat) : Int))).setCell (p := ⟨w.heap.size, 7, none⟩) (Nat.le_refl _) (.int .u32 ((rowN 7 : Nat) : Int))).setCell (p := ⟨w.heap.size, 8, none⟩) (Nat.le_refl _) (.int .u32 ((rowN 8 : Nat) : Int))).setCell (p := ⟨w.heap.size, 9, none⟩) (Nat.le_refl _) (.int .u32 ((rowN 9 : Nat) : Int))).setCell (p := ⟨w.heap.size, 10, none⟩) (Nat.le_refl _) (.int .u32 ((rowN 10 : Nat) : Int))).setCell (p := ⟨w.heap.size, 11, none⟩) (Nat.le_refl _) (.int .u32 ((rowN 11 : Nat) : Int))).setCell (p := ⟨w.heap.size, 12, none⟩) (Nat.le_refl _) (.int .u32 ((rowN 12 : Nat) : Int))).setCell (p := ⟨w.heap.size, 13, none⟩) (Nat.le_refl _) (.int .u32 ((rowN 13 : Nat) : Int))).setCell (p := ⟨w.heap.size, 14, none⟩) (Nat.le_refl _) (.int .u32 ((rowN 14 : Nat) : Int))).setCell (p := ⟨w.heap.size, 15, none⟩) (Nat.le_refl _) (.int .u32 ((rowN 15 : Nat) : Int)))
      refine bodyPost_ret (results_cell_row (h := rfl) (g := w.heap.size) (t := 122) (cs := (tabV 16).toArray) (fr := (0, 0)) (hp := rfl) (hg := hk) (hu := Tryz.underlying122) (hd := rfl) (hi := by kernel_rfl) _ _) rfl ?_
      exact ⟨rfl, hl⟩
end Go.Proofs.YteihedfmmiihiaaGreat

namespace Go.Proofs.YteihedfmmiihiaaGreat
open Go.RowKit

theorem half_bits {c k c2 : Nat} (h : c < 4294967296) (hk : c &&& 15 = k) (h2 : (c / 16) ^^^ rowN k = c2) :
    bits .and .u32 (c : Int) 15 = (k : Int) ∧ k < 16 ∧ bits .xor .u32 ((c : Int) / 16) (rowN k : Int) = (c2 : Int) ∧ c2 < 4294967296 := by
  subst hk h2
  have h1 := u32_and_nat c 15 h (by omega)
  have hk := and15 c
  have h3 := u32_xor_nat (c / 16) (rowN (c &&& 15)) (by omega) (rowN_lt (by omega))
  have e : ((c / 16 : Nat) : Int) = (c : Int) / 16 := by omega
  rw [e] at h3
  exact ⟨h1, hk, h3, xor32 (by omega) (rowN_lt (by omega))⟩
theorem tab_cell {w : World} {g : Nat} (h : Blk w g 122 (tabV 16)) {k : Nat} (hk : k < 16) : w.cell? ⟨g, k, none⟩ = some (.int .u32 (rowN k : Int)) := by
  rw [h.cell k]
  unfold tabV
  simp [hk]
theorem fold_at (l : List UInt8) (i : Nat) (h : i < l.length) (c : Nat) : (l.take (i + 1)).foldl sumStep c = sumStep ((l.take i).foldl sumStep c) l[i] := by
  rw [List.take_succ_eq_append_getElem h, List.foldl_append]; rfl
set_option maxRecDepth 20000 in
set_option maxHeartbeats 4000000 in
theorem sum_any (w : World) (A : Option Addr) (n c : Nat) (l : List UInt8) (h : Bs w A n l) :
    Calls Tryz.prog 74 #[.slice A n c] w fun e w' => e = .returned (.int .u32 (sumN l : Int)) ∧ Below w.heap.size w w' := by
  have hlen := h.len
  have H := Lib.hid h
  clear h
  go_enter Tryz.func74, Tryz.ntmps74
  go_wp2_with (go_at_call 88; refine (row_any w).mono ?_; rintro e w1 ⟨rfl, hb⟩; have HB := Lib.hid hb; clear hb; have hst : (storeCells ⟨w1.heap.size, 0, none⟩ (tabV 16)).run Tryz.prog (w1.alloc (.cells (tabV 0).toArray 122)) = .ok () (w1.alloc (.cells (tabV 16).toArray 122)) := run_storeCells_new w1 122 (tabV 0).toArray (tabV 16).toArray (by kernel_rfl) rfl (by kernel_rfl); have htl : (tabV 16).length = 16 := rfl; have ht0 : (tabV 0).toArray = #[.int .u32 0, .int .u32 0, .int .u32 0, .int .u32 0, .int .u32 0, .int .u32 0, .int .u32 0, .int .u32 0, .int .u32 0, .int .u32 0, .int .u32 0, .int .u32 0, .int .u32 0, .int .u32 0, .int .u32 0, .int .u32 0] := rfl; rw [ht0] at hst; clear ht0)
  have HT := Lib.hid (Blk.new w1 122 (tabV 16))
  have HW := Lib.hid (HB.out.trans ((Below.new w1 (.cells (tabV 16).toArray 122)).mono HB.out.size))
  clear hst
  generalize w1.alloc (.cells (tabV 16).toArray 122) = X at *
  generalize w1.heap.size = g at *
  go_loopw [4, 10] (fun cv iv wr => ∃ i cc : Nat, i ≤ l.length ∧ iv = .int .i64 (i : Int) ∧ cv = .int .u32 (cc : Int) ∧ Hid (cc = (l.take i).foldl sumStep 4294967295) ∧ wr = X) (fun _ iv _ => l.length - (intOf iv).toNat)
  case atStart => exact ⟨0, 4294967295, Nat.zero_le _, rfl, rfl, Lib.hid rfl, rfl⟩
  case round =>
    obtain ⟨i, cc, hi, rfl, rfl, hcc, rfl⟩ := hrel
    have hc0 : cc < 4294967296 := by have := fold_lt (l.take i) 4294967295 (by omega); have := hcc.out; omega
    by_cases hlt : i < l.length
    · have hlt1 : (i : Int) < (l.length : Int) := by omega
      have hfold := Lib.hid (fold_at l i hlt 4294967295)
      obtain ⟨ad, rfl, hbl, hb⟩ := (H.out.below HW.out).cell i hlt
      have hx256 : (l[i].toNat : Int) < 256 := by have := l[i].toNat_lt; omega
      have hxw : IntKind.u32.wrap (l[i].toNat : Int) = (l[i].toNat : Int) := wrap_u32' _ (by omega) (by omega)
      have hxm : (l[i].toNat : Int) % 4294967296 = (l[i].toNat : Int) := by omega
      have hxx := u32_xor_nat cc l[i].toNat hc0 (by have := l[i].toNat_lt; omega)
      have hc1 : cc ^^^ l[i].toNat < 4294967296 := xor32 hc0 (by have := l[i].toNat_lt; omega)
      have hs1 : Hid (sumStep cc l[i] = sumHalf (sumHalf (cc ^^^ l[i].toNat))) := Lib.hid rfl
      generalize cc ^^^ l[i].toNat = c1 at hxx hc1 hs1
      obtain ⟨k1, hk1⟩ : ∃ k, c1 &&& 15 = k := ⟨_, rfl⟩
      obtain ⟨c2, hc2⟩ : ∃ k, (c1 / 16) ^^^ rowN k1 = k := ⟨_, rfl⟩
      obtain ⟨q1, q2, q3, q4⟩ := half_bits hc1 hk1 hc2
      obtain ⟨k2, hk2⟩ : ∃ k, c2 &&& 15 = k := ⟨_, rfl⟩
      obtain ⟨c3, hc3⟩ : ∃ k, (c2 / 16) ^^^ rowN k2 = k := ⟨_, rfl⟩
      obtain ⟨r1, r2, r3, r4⟩ := half_bits q4 hk2 hc3
      have t1 := tab_cell HT.out q2
      have t2 := tab_cell HT.out r2
      have q2' : (k1 : Int) < 16 := by omega
      have r2' : (k2 : Int) < 16 := by omega
      have hfin : Hid (c3 = (l.take (i + 1)).foldl sumStep 4294967295) := Lib.hid (by
        rw [hfold.out, ← hcc.out, hs1.out]
        unfold sumHalf
        rw [hk1, hc2, hk2, hc3])
      clear hk1 hc2 hk2 hc3 hs1 hfold hc1 q4 r4
      have hml := H.out.le
      unfold maxLen at hml
      have hw64 : IntKind.i64.wrap ((i : Int) + 1) = (i : Int) + 1 := wrap_i64' _ (by omega) (by omega)
      clear hml
      go_wp2_with fail
      refine ⟨⟨i + 1, c3, by omega, by simp, rfl, hfin, trivial⟩, ?_⟩
      simp [intOf]; omega
    · obtain rfl : i = l.length := by omega
      have hxo : bits .xor .u32 4294967295 (cc : Int) = ((4294967295 - cc : Nat) : Int) := by
        have h1 := u32_xor_nat 4294967295 cc (by omega) hc0
        have e : 4294967295 ^^^ cc = 4294967295 - cc := by
          have hb : ((BitVec.allOnes 32) ^^^ (BitVec.ofNat 32 cc)).toNat = (~~~ (BitVec.ofNat 32 cc)).toNat := by rw [BitVec.xor_comm, BitVec.xor_allOnes]
          rw [BitVec.toNat_xor, BitVec.toNat_not, BitVec.toNat_ofNat, BitVec.toNat_allOnes] at hb
          have e1 : cc % 2 ^ 32 = cc := Nat.mod_eq_of_lt (by omega)
          rw [e1] at hb
          have e2 : (2 : Nat) ^ 32 - 1 = 4294967295 := by decide
          rw [e2] at hb
          exact hb
        rw [e] at h1
        exact h1
      go_wp2_with fail
      go_ret
      have hmx : IntKind.u32.max = 4294967295 := by decide
      refine ⟨?_, HW.out⟩
      rw [hmx, hxo]
      unfold sumN
      rw [hcc.out, List.take_length]
      rfl
end Go.Proofs.YteihedfmmiihiaaGreat

namespace Go.Proofs.YteihedfmmiihiaaGreat
open Go.RowKit

theorem or_mul (a b i m : Nat) (hm : m = 2 ^ i) (h : a < m) : a ||| (b * m) = b * m + a := by
  subst hm
  rw [Nat.or_comm, ← Nat.shiftLeft_eq, Nat.shiftLeft_add_eq_or_of_lt h]
theorem le_bits (a b c d : Nat) (ha : a < 256) (hb : b < 256) (hc : c < 256) (hd : d < 256) :
    bits .or .u32 (bits .or .u32 (bits .or .u32 (a : Int) ((b : Int) * 256)) ((c : Int) * 65536)) ((d : Int) * 16777216) = ((a + 256 * b + 65536 * c + 16777216 * d : Nat) : Int) := by
  have e2 : ((b : Int) * 256) = ((b * 256 : Nat) : Int) := by omega
  have e1 : ((c : Int) * 65536) = ((c * 65536 : Nat) : Int) := by omega
  have e0 : ((d : Int) * 16777216) = ((d * 16777216 : Nat) : Int) := by omega
  rw [e2, e1, e0, u32_or_nat a (b * 256) (by omega) (by omega), or_mul a b 8 256 (by decide) (by omega), u32_or_nat _ (c * 65536) (by omega) (by omega), or_mul _ c 16 65536 (by decide) (by omega), u32_or_nat _ (d * 16777216) (by omega) (by omega), or_mul _ d 24 16777216 (by decide) (by omega)]
  omega
set_option maxRecDepth 20000 in
set_option maxHeartbeats 4000000 in
theorem get_any (w : World) (A : Option Addr) (n c : Nat) (l : List UInt8) (h : Bs w A n l) (h4 : 4 ≤ l.length) :
    Calls Tryz.prog 104 #[.slice A n c] w fun e w' => e = .returned (.int .u32 (get32 l 0 : Int)) ∧ ∃ k, w' = w.drewN k := by
  have hlen := h.len
  have hmax := h.le
  unfold maxLen at hmax
  obtain ⟨ad, rfl, hbl, b0⟩ := h.cell 0 (by omega)
  have hc : ∀ i (hi : i < l.length), w.cell? (ad.add i) = some (.int .u8 (l[i].toNat : Int)) := fun i hi => by
    obtain ⟨ad', e, _, hx⟩ := h.cell i hi
    obtain rfl := Option.some.inj e
    exact hx
  have b0' := hc 0 (by omega)
  have ha0 : ad.add 0 = ad := by unfold Addr.add; split <;> simp_all
  rw [ha0] at b0 b0'
  have b1 : w.cell? ⟨ad.block, ad.off + 1, none⟩ = _ := hc 1 (by omega)
  have b2 : w.cell? ⟨ad.block, ad.off + 2, none⟩ = _ := hc 2 (by omega)
  have b3 : w.cell? ⟨ad.block, ad.off + 3, none⟩ = _ := hc 3 (by omega)
  have hg : get32 l 0 = l[0].toNat + 256 * l[1].toNat + 65536 * l[2].toNat + 16777216 * l[3].toNat := by
    unfold get32
    simp only [List.getD_eq_getElem?_getD, Nat.zero_add]
    rw [List.getElem?_eq_getElem (by omega), List.getElem?_eq_getElem (by omega), List.getElem?_eq_getElem (by omega), List.getElem?_eq_getElem (by omega)]
    rfl
  have hbits := le_bits l[0].toNat l[1].toNat l[2].toNat l[3].toNat (UInt8.toNat_lt _) (UInt8.toNat_lt _) (UInt8.toNat_lt _) (UInt8.toNat_lt _)
  rw [← hg] at hbits
  have HG := Lib.hid hbits
  clear hbits hg hc h
  have x0 : (l[0].toNat : Int) < 256 := by have := l[0].toNat_lt; omega
  have x1 : (l[1].toNat : Int) < 256 := by have := l[1].toNat_lt; omega
  have x2 : (l[2].toNat : Int) < 256 := by have := l[2].toNat_lt; omega
  have x3 : (l[3].toNat : Int) < 256 := by have := l[3].toNat_lt; omega
  generalize l[0].toNat = v0 at *
  generalize l[1].toNat = v1 at *
  generalize l[2].toNat = v2 at *
  generalize l[3].toNat = v3 at *
  have m0 : (v0 : Int) % 4294967296 = v0 := by omega
  have m1 : (v1 : Int) % 4294967296 = v1 := by omega
  have m2 : (v2 : Int) % 4294967296 = v2 := by omega
  have m3 : (v3 : Int) % 4294967296 = v3 := by omega
  have g0 : (0 : Int) < (l.length : Int) := by omega
  have g1 : (1 : Int) < (l.length : Int) := by omega
  have g2 : (2 : Int) < (l.length : Int) := by omega
  have g3 : (3 : Int) < (l.length : Int) := by omega
  go_enter Tryz.func104, Tryz.ntmps104
  go_wp2_with fail
  refine wp_region_quiet_lit (by kernel_rfl) (by kernel_rfl) ?_
  repeat (go_big_quiet_step (fail))
  refine wpQuiet_nil ?_
  rintro _ ⟨nq, rfl⟩
  go_wp2_with fail
  go_ret
  refine ⟨?_, nq, rfl⟩
  rw [← HG.out]
  rfl
theorem le32_v (m : Nat) : Cd.bytesV (le32 m) = [.int .u8 ((m : Int) % 256), .int .u8 ((m : Int) / 256 % 256), .int .u8 ((m : Int) / 65536 % 256), .int .u8 ((m : Int) / 16777216 % 256)] := by
  simp only [Cd.bytesV, le32, List.map_cons, List.map_nil, Cd.byteV]
  rw [u8lit _ (by omega), u8lit _ (by omega), u8lit _ (by omega), u8lit _ (by omega)]
  congr 1
set_option maxRecDepth 20000 in
set_option maxHeartbeats 4000000 in
theorem put_b (w : World) (base : Nat) (v : Value) (n : Nat) (xs : List Value) (m : Nat) (hm : m < 4294967296) (hown : w.ownsRow base 5 1 v n xs)
    (hb : base ≤ w.heap.size) (hn : n + 4 ≤ 140737488355328) :
    Calls Tryz.prog 73 #[v, .int .u32 m] w (ApdB w base n xs (le32 m)) := by
  obtain ⟨i0, hi, hz0, hz1, hz2⟩ := info_parts info_u8
  have HM := Lib.hid hm
  clear hm
  have ho2 := hown.alloc (.cells #[.int .u8 ((m : Int) % 256), .int .u8 ((m : Int) / 256 % 256), .int .u8 ((m : Int) / 65536 % 256), .int .u8 ((m : Int) / 16777216 % 256)] 5)
  have HO := Lib.hid hown
  have B1 : Hid (n + 4 ≤ maxLen) := by unfold Hid maxLen; omega
  have B2 : Hid ((n + 4) * 1 ≤ 140737488355328) := by unfold Hid; omega
  clear hown hn
  go_enter Tryz.func73, Tryz.ntmps73
  have hnews := (Blk.new w 5 [.int .u8 ((m : Int) % 256), .int .u8 ((m : Int) / 256 % 256), .int .u8 ((m : Int) / 65536 % 256), .int .u8 ((m : Int) / 16777216 % 256)]).news
  go_wp2_with (at_builtin; refine wpList_append_own_at _ rfl _ _ 30 rfl base 5 i0 (.int .u8 0) 1 1 Tryz.underlying30 hi hz0 hz1 hz2 rfl (by decide) _ _ _ rfl ho2 ⟨w.heap.size, 0, none⟩ 4 4 [.int .u8 ((m : Int) % 256), .int .u8 ((m : Int) / 256 % 256), .int .u8 ((m : Int) / 65536 % 256), .int .u8 ((m : Int) / 16777216 % 256)] rfl rfl hnews (by simp [Value.oneCell']) B1.out B2.out (by simp; omega) ?_; intro v1 w1 hown1 hg1 _ hat1)
  go_ret
  refine ⟨v1, rfl, by rw [le32_v]; exact hown1, ?_⟩
  exact ((Below.refl base w).alloc hb _).grown hg1 (by simp; omega) (fun k hk => (HO.out.lt k hk).1)
end Go.Proofs.YteihedfmmiihiaaGreat
