/- SqB: texts of queue's claims, merged (a claim may hold few texts) -/
import Derived.Test.YtpbheicfplpemaaGreatQuOpen
import Derived.Test.YtpbheicfplpemaaGreatCodeSpec
import Derived.Test.YtpbheicfplpemaaGreatSqR
import Derived.Test.YtpbheicfplpemaaGreatRqTold
import Derived.Test.YtpbheicfplpemaaGreatQuBytes
import Derived.Test.YtpbheicfplpemaaGreatSqA
namespace Go.Proofs.YtpbheicfplpemaaGreat
open Go.RowKit

theorem upd_wipS (m : ByteArray → Option Int) (k : ByteArray) (x : Int) : updS (wipS m k) k x = updS m k x := by
  funext k'; unfold updS wipS; split <;> simp_all
theorem mem_cut {α : Type} {l : List α} {n : Nat} {x : α} : x ∈ l.eraseIdx n ↔ ∃ i, ∃ h : i < l.length, i ≠ n ∧ l[i] = x := by
  rw [List.mem_eraseIdx_iff_getElem]
section
variable {ts : List Tk} {zs : List Ot} {om : Int → Option Ot} {tm : ByteArray → Option Int}
theorem OutsQ.tok_ne (h : OutsQ om zs) {i j : Nat} (hi : i < zs.length) (hj : j < zs.length) (hn : i ≠ j) : zs[i].token ≠ zs[j].token := by
  rcases Nat.lt_or_gt_of_ne hn with e | e
  · have := List.pairwise_iff_getElem.1 h.1 i j hi hj e; omega
  · have := List.pairwise_iff_getElem.1 h.1 j i hj hi e; omega
theorem TmQ.key_ne (h : TmQ ts zs tm) {i j : Nat} (hi : i < ts.length) (hj : j < ts.length) (hn : i ≠ j) : ts[i].key ≠ ts[j].key := by
  intro e
  rcases Nat.lt_or_gt_of_ne hn with e1 | e1
  · have := List.pairwise_iff_getElem.1 h.nd i j (by simpa using hi) (by simpa using hj) e1
    simp only [List.getElem_map] at this
    exact this e
  · have := List.pairwise_iff_getElem.1 h.nd j i (by simpa using hj) (by simpa using hi) e1
    simp only [List.getElem_map] at this
    exact this e.symm
theorem TmQ.apart (h : TmQ ts zs tm) {t : Tk} {x : Ot} (ht : t ∈ ts) (hx : x ∈ zs) : t.key ≠ x.tk.key := by
  intro e
  have h1 := h.wait t ht
  have h2 := h.out x hx
  have h3 := h.pos x hx
  rw [e, h2] at h1
  injection h1 with h1
  omega
theorem OutsQ.key_ne (h : OutsQ om zs) (ht : TmQ ts zs tm) {i j : Nat} (hi : i < zs.length) (hj : j < zs.length) (hn : i ≠ j) : zs[i].tk.key ≠ zs[j].tk.key := by
  intro e
  have h1 := ht.out zs[i] (List.getElem_mem hi)
  have h2 := ht.out zs[j] (List.getElem_mem hj)
  rw [e, h2] at h1
  injection h1 with h1
  exact h.tok_ne hi hj hn h1.symm
theorem TmQ.cutT (h : TmQ ts zs tm) {n : Nat} (hn : n < ts.length) : TmQ (ts.eraseIdx n) zs (wipS tm ts[n].key) where
  wait t ht := by
    obtain ⟨i, hi, hne, rfl⟩ := mem_cut.1 ht
    unfold wipS
    rw [if_neg (h.key_ne hi hn hne)]
    exact h.wait _ (List.getElem_mem hi)
  out x hx := by
    unfold wipS
    rw [if_neg (fun e => h.apart (List.getElem_mem hn) hx e.symm)]
    exact h.out x hx
  dom k v hk := by
    unfold wipS at hk
    split at hk
    · cases hk
    · rename_i hne
      rcases h.dom k v hk with e | e
      · left
        obtain ⟨t, ht, rfl⟩ := keyT_is.1 e
        obtain ⟨i, hi, rfl⟩ := List.getElem_of_mem ht
        exact keyT_is.2 ⟨ts[i], mem_cut.2 ⟨i, hi, fun e => hne (by subst e; rfl), rfl⟩, rfl⟩
      · exact .inr e
  nd := by
    exact h.nd.sublist ((List.eraseIdx_sublist ts n).map _)
  pos := h.pos
theorem TmQ.cutZ (h : TmQ ts zs tm) (ho : OutsQ om zs) {n : Nat} (hn : n < zs.length) : TmQ ts (zs.eraseIdx n) (wipS tm zs[n].tk.key) where
  wait t ht := by
    unfold wipS
    rw [if_neg (h.apart ht (List.getElem_mem hn))]
    exact h.wait t ht
  out x hx := by
    obtain ⟨i, hi, hne, rfl⟩ := mem_cut.1 hx
    unfold wipS
    rw [if_neg (ho.key_ne h hi hn hne)]
    exact h.out _ (List.getElem_mem hi)
  dom k v hk := by
    unfold wipS at hk
    split at hk
    · cases hk
    · rename_i hne
      rcases h.dom k v hk with e | e
      · exact .inl e
      · right
        obtain ⟨t, ht, rfl⟩ := keyO_is.1 e
        obtain ⟨i, hi, rfl⟩ := List.getElem_of_mem ht
        exact keyO_is.2 ⟨zs[i], mem_cut.2 ⟨i, hi, fun e => hne (by subst e; rfl), rfl⟩, rfl⟩
  nd := h.nd
  pos x hx := by
    obtain ⟨i, hi, hne, rfl⟩ := mem_cut.1 hx
    exact h.pos _ (List.getElem_mem hi)
theorem TmQ.set (h : TmQ ts zs tm) {n : Nat} (hn : n < zs.length) {y : Ot} (hk : y.tk.key = zs[n].tk.key) (ht : y.token = zs[n].token) : TmQ ts (zs.set n y) tm where
  wait := h.wait
  out x hx := by
    rcases List.mem_or_eq_of_mem_set hx with hx | rfl
    · exact h.out x hx
    · rw [hk, ht]; exact h.out _ (List.getElem_mem hn)
  dom k v hv := by
    rcases h.dom k v hv with e | e
    · exact .inl e
    · right
      obtain ⟨x, hx, rfl⟩ := keyO_is.1 e
      obtain ⟨i, hi, rfl⟩ := List.getElem_of_mem hx
      by_cases hin : i = n
      · subst hin
        exact keyO_is.2 ⟨y, List.mem_set hi y, hk⟩
      · exact keyO_is.2 ⟨zs[i], List.mem_iff_getElem.2 ⟨i, by simpa using hi, by rw [List.getElem_set_ne (Ne.symm hin)]⟩, rfl⟩
  nd := h.nd
  pos x hx := by
    rcases List.mem_or_eq_of_mem_set hx with hx | rfl
    · exact h.pos x hx
    · rw [ht]; exact h.pos _ (List.getElem_mem hn)
theorem OutsQ.cut (h : OutsQ om zs) {n : Nat} (hn : n < zs.length) : OutsQ (wipI om zs[n].token) (zs.eraseIdx n) := by
  refine ⟨h.1.sublist (List.eraseIdx_sublist _ _), fun k x => ?_⟩
  unfold wipI
  constructor
  · intro hk
    split at hk
    · cases hk
    · rename_i hne
      obtain ⟨hx, e⟩ := (h.2 k x).1 hk
      obtain ⟨i, hi, rfl⟩ := List.getElem_of_mem hx
      exact ⟨mem_cut.2 ⟨i, hi, fun e2 => hne (by subst e2; exact e.symm), rfl⟩, e⟩
  · rintro ⟨hx, rfl⟩
    obtain ⟨i, hi, hne, rfl⟩ := mem_cut.1 hx
    rw [if_neg (h.tok_ne hi hn hne)]
    exact (h.2 _ _).2 ⟨List.getElem_mem hi, rfl⟩
theorem OutsQ.set (h : OutsQ om zs) {n : Nat} (hn : n < zs.length) {y : Ot} (ht : y.token = zs[n].token) : OutsQ (updI om zs[n].token y) (zs.set n y) := by
  refine ⟨?_, fun k x => ?_⟩
  · rw [List.pairwise_iff_getElem]
    intro i j hi hj hij
    rw [List.length_set] at hi hj
    have h1 := List.pairwise_iff_getElem.1 h.1 i j hi hj hij
    rw [List.getElem_set, List.getElem_set]
    split
    · rename_i e; subst e; rw [if_neg (by omega)]; omega
    · split
      · rename_i e; subst e; omega
      · exact h1
  · unfold updI
    constructor
    · intro hk
      split at hk
      · rename_i e
        injection hk with hk
        subst hk e
        exact ⟨List.mem_set hn y, ht⟩
      · rename_i hne
        obtain ⟨hx, e⟩ := (h.2 k x).1 hk
        obtain ⟨i, hi, rfl⟩ := List.getElem_of_mem hx
        refine ⟨List.mem_iff_getElem.2 ⟨i, by simpa using hi, ?_⟩, e⟩
        rw [List.getElem_set_ne (fun e2 => hne (by subst e2; exact e.symm))]
    · rintro ⟨hx, rfl⟩
      obtain ⟨i, hi, rfl⟩ := List.getElem_of_mem hx
      rw [List.length_set] at hi
      rw [List.getElem_set]
      split
      · rename_i e; simp
      · rename_i e
        rw [if_neg (h.tok_ne hi hn (Ne.symm e))]
        exact (h.2 _ _).2 ⟨List.getElem_mem hi, rfl⟩
end
/-- what fits behind m steps -/
structure TF (m : Nat) (t : Tk) : Prop where
  key : t.key.size ≤ 200
  st : t.sticky.size ≤ 200
  rd : tkRdy t
  at_ : 0 ≤ t.att ∧ t.att ≤ (m : Int)
structure ZF (m : Nat) (next : Int) (x : Ot) : Prop where
  key : x.tk.key.size ≤ 200
  who : x.worker.size ≤ 200
  un : -9223372036854775808 ≤ x.until_ ∧ x.until_ ≤ 9223372036854775807
  at_ : 1 ≤ x.tk.att ∧ x.tk.att ≤ (m : Int)
  tok : x.token < next
structure PI (m : Nat) (next : Int) (ts : List Tk) (zs : List Ot) (om : Int → Option Ot) (tm : ByteArray → Option Int) : Prop where
  outs : OutsQ om zs
  tq : TmQ ts zs tm
  tf : ∀ t ∈ ts, TF m t
  zf : ∀ x ∈ zs, ZF m next x
  len : ts.length + zs.length ≤ m
  nx : 1 ≤ next ∧ next ≤ 1 + (m : Int)
section
variable {m : Nat} {next : Int} {ts : List Tk} {zs : List Ot} {om : Int → Option Ot} {tm : ByteArray → Option Int}
theorem PI.nil : PI 0 1 [] [] (fun _ => none) (fun _ => none) := ⟨OutsQ.nil, TmQ.nil, by simp, by simp, by simp, by omega⟩
theorem TF.up {m' : Nat} {t : Tk} (h : TF m t) (hm : m ≤ m') : TF m' t := ⟨h.key, h.st, h.rd, by have := h.at_; omega⟩
theorem ZF.up {m' : Nat} {next' : Int} {x : Ot} (h : ZF m next x) (hm : m ≤ m') (hn : next ≤ next') : ZF m' next' x := ⟨h.key, h.who, h.un, by have := h.at_; omega, by have := h.tok; omega⟩
theorem PI.up (h : PI m next ts zs om tm) : PI (m + 1) next ts zs om tm :=
  ⟨h.outs, h.tq, fun t ht => (h.tf t ht).up (by omega), fun x hx => (h.zf x hx).up (by omega) (Int.le_refl _), by have := h.len; omega, by have := h.nx; omega⟩
theorem PI.put (h : PI m next ts zs om tm) {t : Tk} (ht : TF 0 t) (hn : tm t.key = none) : PI (m + 1) next (ts ++ [t]) zs om (updS tm t.key 0) where
  outs := h.outs
  tq := h.tq.put hn
  tf s hs := by
    rcases List.mem_append.1 hs with hs | hs
    · exact (h.tf s hs).up (by omega)
    · simp at hs; subst hs; exact ht.up (by omega)
  zf x hx := (h.zf x hx).up (by omega) (Int.le_refl _)
  len := by have := h.len; rw [List.length_append, List.length_singleton]; omega
  nx := by have := h.nx; omega
theorem PI.poll (h : PI m next ts zs om tm) {i : Nat} (hi : i < ts.length) {who : ByteArray} (hw : who.size ≤ 200) {u : Int} (hu : -9223372036854775808 ≤ u ∧ u ≤ 9223372036854775807) :
    PI (m + 1) (next + 1) (ts.eraseIdx i) (zs ++ [⟨{ ts[i] with att := ts[i].att + 1 }, next, who, u⟩]) (updI om next ⟨{ ts[i] with att := ts[i].att + 1 }, next, who, u⟩) (updS tm ts[i].key next) where
  outs := OutsQ.send (last := next - 1) h.outs (fun y hy => by have := (h.zf y hy).tok; omega) (by simp only; omega)
  tq := by
    have h1 := (h.tq.cutT hi).send (x := ⟨{ ts[i] with att := ts[i].att + 1 }, next, who, u⟩) (by unfold wipS; simp) (by have := h.nx; simp only; omega)
    simp only [upd_wipS] at h1
    exact h1
  tf s hs := by
    obtain ⟨j, hj, _, rfl⟩ := mem_cut.1 hs
    exact (h.tf _ (List.getElem_mem hj)).up (by omega)
  zf x hx := by
    rcases List.mem_append.1 hx with hx | hx
    · exact (h.zf x hx).up (by omega) (by omega)
    · simp only [List.mem_singleton] at hx
      subst hx
      have f := h.tf _ (List.getElem_mem hi)
      exact ⟨f.key, hw, hu, by have := f.at_; simp only; omega, by simp only; omega⟩
  len := by have := h.len; rw [List.length_append, List.length_singleton, List.length_eraseIdx_of_lt hi]; omega
  nx := by have := h.nx; omega
theorem PI.cut (h : PI m next ts zs om tm) {n : Nat} (hn : n < zs.length) : PI m next ts (zs.eraseIdx n) (wipI om zs[n].token) (wipS tm zs[n].tk.key) where
  outs := h.outs.cut hn
  tq := h.tq.cutZ h.outs hn
  tf := h.tf
  zf x hx := by
    obtain ⟨j, hj, _, rfl⟩ := mem_cut.1 hx
    exact h.zf _ (List.getElem_mem hj)
  len := by have := h.len; rw [List.length_eraseIdx_of_lt hn]; omega
  nx := h.nx
theorem PI.cutT (h : PI m next ts zs om tm) {n : Nat} (hn : n < ts.length) : PI m next (ts.eraseIdx n) zs om (wipS tm ts[n].key) where
  outs := h.outs
  tq := h.tq.cutT hn
  tf x hx := by
    obtain ⟨j, hj, _, rfl⟩ := mem_cut.1 hx
    exact h.tf _ (List.getElem_mem hj)
  zf := h.zf
  len := by have := h.len; rw [List.length_eraseIdx_of_lt hn]; omega
  nx := h.nx
theorem PI.back (h : PI m next ts zs om tm) {n : Nat} (hn : n < zs.length) {ready : Int} (hr : -9223372036854775808 ≤ ready ∧ ready ≤ 9223372036854775807) :
    PI m next (ts ++ [⟨zs[n].tk.key, ⟨#[]⟩, ready, zs[n].tk.att⟩]) (zs.eraseIdx n) (wipI om zs[n].token) (updS tm zs[n].tk.key 0) where
  outs := h.outs.cut hn
  tq := by
    have h1 := (h.tq.cutZ h.outs hn).put (t := ⟨zs[n].tk.key, ⟨#[]⟩, ready, zs[n].tk.att⟩) (by unfold wipS; simp)
    simp only [upd_wipS] at h1
    exact h1
  tf s hs := by
    rcases List.mem_append.1 hs with hs | hs
    · exact h.tf s hs
    · simp only [List.mem_singleton] at hs
      subst hs
      have f := h.zf _ (List.getElem_mem hn)
      exact ⟨f.key, Nat.zero_le _, hr, by have := f.at_; simp only; omega⟩
  zf x hx := by
    obtain ⟨j, hj, _, rfl⟩ := mem_cut.1 hx
    exact h.zf _ (List.getElem_mem hj)
  len := by have := h.len; rw [List.length_append, List.length_singleton, List.length_eraseIdx_of_lt hn]; omega
  nx := h.nx
theorem PI.beat (h : PI m next ts zs om tm) {n : Nat} (hn : n < zs.length) {y : Ot} (hk : y.tk = zs[n].tk) (ht : y.token = zs[n].token) (hw : y.worker = zs[n].worker) (hu : -9223372036854775808 ≤ y.until_ ∧ y.until_ ≤ 9223372036854775807) :
    PI m next ts (zs.set n y) (updI om zs[n].token y) tm where
  outs := h.outs.set hn ht
  tq := h.tq.set hn (by rw [hk]) ht
  tf := h.tf
  zf x hx := by
    rcases List.mem_or_eq_of_mem_set hx with hx | rfl
    · exact h.zf x hx
    · have f := h.zf _ (List.getElem_mem hn)
      exact ⟨by rw [hk]; exact f.key, by rw [hw]; exact f.who, hu, by rw [hk]; exact f.at_, by rw [ht]; exact f.tok⟩
  len := by rw [List.length_set]; exact h.len
  nx := h.nx
/-- where a token lies -/
theorem PI.at_ (h : PI m next ts zs om tm) {k : Int} {x : Ot} (hx : om k = some x) : ∃ n, ∃ hn : n < zs.length, zs[n] = x ∧ x.token = k := by
  obtain ⟨h1, h2⟩ := (h.outs.2 k x).1 hx
  obtain ⟨n, hn, e⟩ := List.getElem_of_mem h1
  exact ⟨n, hn, e, h2⟩
end
end Go.Proofs.YtpbheicfplpemaaGreat

namespace Go.Proofs.YtpbheicfplpemaaGreat.Cd

theorem toNat_lit (n : Nat) (h : n < 256) : (UInt8.ofNat n).toNat = n := by rw [UInt8.toNat_ofNat']; omega
theorem zero_pos_pow (i n : Nat) (h : n < 2 ^ (64 - 7 * i)) (hi : i = 9) : n < 2 := by subst hi; simpa using h
theorem div_pow (i n : Nat) (hi : i ≤ 8) (h : n < 2 ^ (64 - 7 * i)) : n / 128 < 2 ^ (64 - 7 * (i + 1)) := by
  rw [Nat.div_lt_iff_lt_mul (by omega)]
  have e : 2 ^ (64 - 7 * (i + 1)) * 128 = 2 ^ (64 - 7 * i) := by
    rw [show 64 - 7 * i = (64 - 7 * (i + 1)) + 7 from by omega, Nat.pow_add]
  rw [e]; exact h

theorem rd_wrote : ∀ (f i acc n : Nat) (pre rest : List UInt8), i + f = 10 → 0 < f → n < 2 ^ (64 - 7 * i) → (0 < i → 0 < n) →
    rdU (pre ++ (uB n ++ rest)) f pre.length i acc = .ok (acc + n * 2 ^ (7 * i), pre.length + (uB n).length) := by
  intro f
  induction f with
  | zero => intro i acc n pre rest _ h; omega
  | succ f ih =>
    intro i acc n pre rest hf _ hn hp
    by_cases h : n < 128
    · rw [uB_lt h]
      have ha : pre.length < (pre ++ ([UInt8.ofNat n] ++ rest)).length := by simp
      have hg : (pre ++ ([UInt8.ofNat n] ++ rest))[pre.length].toNat = n := by
        simp; omega
      have hb : ¬ (((pre ++ ([UInt8.ofNat n] ++ rest))[pre.length].toNat = 0 ∧ 0 < i) ∨ (i = 9 ∧ (pre ++ ([UInt8.ofNat n] ++ rest))[pre.length].toNat ≠ 1)) := by
        rw [hg]
        intro hx
        rcases hx with ⟨h0, hi⟩ | ⟨h9, h1⟩
        · have := hp hi; omega
        · have := zero_pos_pow i n hn h9; have := hp (by omega); omega
      rw [rdU_end ha hb (by rw [hg]; exact h), hg, Nat.mod_eq_of_lt h]
      simp
    · rw [uB_ge h]
      have ha : pre.length < (pre ++ ((UInt8.ofNat (n % 128 + 128) :: uB (n / 128)) ++ rest)).length := by simp
      have hg : (pre ++ ((UInt8.ofNat (n % 128 + 128) :: uB (n / 128)) ++ rest))[pre.length].toNat = n % 128 + 128 := by
        simp; omega
      have hi8 : i ≤ 8 := by
        rcases Nat.lt_or_ge i 9 with h9 | h9
        · omega
        · have := zero_pos_pow i n hn (by omega); omega
      have hb : ¬ (((pre ++ ((UInt8.ofNat (n % 128 + 128) :: uB (n / 128)) ++ rest))[pre.length].toNat = 0 ∧ 0 < i) ∨ (i = 9 ∧ (pre ++ ((UInt8.ofNat (n % 128 + 128) :: uB (n / 128)) ++ rest))[pre.length].toNat ≠ 1)) := by
        rw [hg]; omega
      rw [rdU_more ha hb (by rw [hg]; omega), hg]
      have e1 : pre ++ ((UInt8.ofNat (n % 128 + 128) :: uB (n / 128)) ++ rest) = (pre ++ [UInt8.ofNat (n % 128 + 128)]) ++ (uB (n / 128) ++ rest) := by simp
      have e2 : pre.length + 1 = (pre ++ [UInt8.ofNat (n % 128 + 128)]).length := by simp
      rw [e1, e2, ih (i + 1) _ (n / 128) _ rest (by omega) (by omega) (div_pow i n hi8 hn) (fun _ => by omega)]
      congr 1
      have e3 : (n % 128 + 128) % 128 = n % 128 := by omega
      rw [e3]
      have e4 : 2 ^ (7 * (i + 1)) = 128 * 2 ^ (7 * i) := by rw [show 7 * (i + 1) = 7 + 7 * i from by omega, Nat.pow_add]
      rw [e4]
      have e5 : n = n % 128 + 128 * (n / 128) := by omega
      refine Prod.ext ?_ ?_
      · show acc + n % 128 * 2 ^ (7 * i) + n / 128 * (128 * 2 ^ (7 * i)) = acc + n * 2 ^ (7 * i)
        conv => rhs; rw [e5]
        rw [Nat.add_mul, Nat.mul_assoc, Nat.mul_left_comm 128, ← Nat.add_assoc]
      · simp; omega

theorem rdUint_wrote (n : Nat) (hn : n < 18446744073709551616) (rest : List UInt8) : rdUint (uB n ++ rest) 0 = .ok (n, (uB n).length) := by
  have h := rd_wrote 10 0 0 n [] rest (by omega) (by omega) (by simpa using hn) (by omega)
  simpa [rdUint] using h

theorem unzig_zig (i : Int) : unzig (zig i) = i := by
  unfold unzig zig
  split <;> split <;> omega
theorem zig_inj {i k : Int} (h : zig i = zig k) : i = k := by rw [← unzig_zig i, h, unzig_zig]

theorem rdInt_wrote (i : Int) (hn : zig i < 18446744073709551616) (rest : List UInt8) : rdInt (uB (zig i) ++ rest) 0 = .ok (i, (uB (zig i)).length) := by
  rw [rdInt, rdUint_wrote _ hn]
  simp only [unzig_zig]
theorem rdText_wrote (l : List UInt8) (hn : l.length < 18446744073709551616) (rest : List UInt8) : rdText (textB l ++ rest) 0 = .ok (l, (textB l).length) := by
  rw [rdText, textB, List.append_assoc, rdUint_wrote _ hn]
  simp only [rdBytes]
  rw [if_pos (by simp)]
  simp

/-- do bytes begin with others? -/
theorem begins_uB {a b : Nat} (ha : a < 18446744073709551616) (hb : b < 18446744073709551616) : ((uB b).length ≤ (uB a).length ∧ (uB a).take (uB b).length = uB b) ↔ a = b := by
  constructor
  · rintro ⟨_, h⟩
    have e : uB a = uB b ++ (uB a).drop (uB b).length := by
      conv => lhs; rw [← List.take_append_drop (uB b).length (uB a)]
      rw [h]
    have h1 := rdUint_wrote a ha []
    rw [List.append_nil] at h1
    have h2 := rdUint_wrote b hb ((uB a).drop (uB b).length)
    rw [← e, h1] at h2
    injection h2 with h2
    injection h2
  · rintro rfl
    simp
theorem begins_textB {s t : List UInt8} (ha : s.length < 18446744073709551616) (hb : t.length < 18446744073709551616) : ((textB t).length ≤ (textB s).length ∧ (textB s).take (textB t).length = textB t) ↔ s = t := by
  constructor
  · rintro ⟨_, h⟩
    have e : textB s = textB t ++ (textB s).drop (textB t).length := by
      conv => lhs; rw [← List.take_append_drop (textB t).length (textB s)]
      rw [h]
    have h1 := rdText_wrote s ha []
    rw [List.append_nil] at h1
    have h2 := rdText_wrote t hb ((textB s).drop (textB t).length)
    rw [← e, h1] at h2
    injection h2 with h2
    injection h2
  · rintro rfl
    simp
theorem uB_mono : ∀ b a, a ≤ b → (uB a).length ≤ (uB b).length := by
  intro b
  induction b using Nat.strongRecOn with
  | ind b ih =>
    intro a hab
    by_cases ha : a < 128
    · rw [uB_lt ha]; have := uB_pos b; simp; omega
    · rw [uB_ge ha, uB_ge (show ¬ b < 128 by omega)]
      have := ih (b / 128) (by omega) (a / 128) (by omega)
      simp; omega
end Go.Proofs.YtpbheicfplpemaaGreat.Cd

namespace Go.Proofs.YtpbheicfplpemaaGreat
open Go.RowKit

theorem numW {pre rest : List UInt8} {n : Nat} (h : n ≤ 4611686018427387904) : rdNum (pre ++ Cd.uB n ++ rest) pre.length = .ok (n, (pre ++ Cd.uB n).length) := by
  have e : Cd.rdUint (pre ++ Cd.uB n ++ rest) pre.length = .ok (n, (pre ++ Cd.uB n).length) := by
    rw [← rdUint_shft (by simp)]
    have : (pre ++ Cd.uB n ++ rest).drop pre.length = Cd.uB n ++ rest := by rw [List.append_assoc, List.drop_left]
    rw [this, Cd.rdUint_wrote _ (by omega)]
    simp [shft]
  unfold rdNum
  rw [e]
  simp only
  rw [if_neg (by omega)]
theorem cntW {pre rest : List UInt8} {n : Nat} (h : n ≤ 65536) : rdCnt (pre ++ Cd.uB n ++ rest) pre.length = .ok (n, (pre ++ Cd.uB n).length) := by
  unfold rdCnt
  rw [numW (by omega)]
  simp only
  rw [if_neg (by omega)]
theorem intW {pre rest : List UInt8} {i : Int} (h : -9223372036854775808 ≤ i ∧ i ≤ 9223372036854775807) : Cd.rdInt (pre ++ Cd.uB (Cd.zig i) ++ rest) pre.length = .ok (i, (pre ++ Cd.uB (Cd.zig i)).length) := by
  rw [← rdInt_shft (by simp)]
  have : (pre ++ Cd.uB (Cd.zig i) ++ rest).drop pre.length = Cd.uB (Cd.zig i) ++ rest := by rw [List.append_assoc, List.drop_left]
  rw [this, Cd.rdInt_wrote i (zig_lt i h.1 h.2)]
  simp [shft]
theorem textW {pre rest : List UInt8} {s : ByteArray} (h : s.size ≤ 1000000) : Cd.rdText (pre ++ Cd.textB s.data.toList ++ rest) pre.length = .ok (s.data.toList, (pre ++ Cd.textB s.data.toList).length) := by
  rw [← rdText_shft (by simp)]
  have : (pre ++ Cd.textB s.data.toList ++ rest).drop pre.length = Cd.textB s.data.toList ++ rest := by rw [List.append_assoc, List.drop_left]
  have hs : s.data.toList.length = s.size := rfl
  rw [this, Cd.rdText_wrote _ (by rw [hs]; omega)]
  simp [shft]
theorem rdTk_wrote {pre rest : List UInt8} {t : Tk} (h : TkF t) : rdTk (pre ++ tkB t ++ rest) pre.length = .ok (t, (pre ++ tkB t).length) := by
  obtain ⟨h1, h2, h3, h4⟩ := h
  have e : pre ++ tkB t ++ rest = pre ++ Cd.textB t.key.data.toList ++ (Cd.textB t.sticky.data.toList ++ (Cd.uB (Cd.zig t.ready) ++ (Cd.uB t.att.toNat ++ rest))) := by simp [tkB]
  have r1 : Cd.rdText (pre ++ tkB t ++ rest) pre.length = .ok (t.key.data.toList, (pre ++ Cd.textB t.key.data.toList).length) := by rw [e]; exact textW (by omega)
  have e2 : pre ++ tkB t ++ rest = (pre ++ Cd.textB t.key.data.toList) ++ Cd.textB t.sticky.data.toList ++ (Cd.uB (Cd.zig t.ready) ++ (Cd.uB t.att.toNat ++ rest)) := by simp [tkB]
  have r2 : Cd.rdText (pre ++ tkB t ++ rest) (pre ++ Cd.textB t.key.data.toList).length = .ok (t.sticky.data.toList, ((pre ++ Cd.textB t.key.data.toList) ++ Cd.textB t.sticky.data.toList).length) := by rw [e2]; exact textW (by omega)
  have e3 : pre ++ tkB t ++ rest = ((pre ++ Cd.textB t.key.data.toList) ++ Cd.textB t.sticky.data.toList) ++ Cd.uB (Cd.zig t.ready) ++ (Cd.uB t.att.toNat ++ rest) := by simp [tkB]
  have r3 : Cd.rdInt (pre ++ tkB t ++ rest) ((pre ++ Cd.textB t.key.data.toList) ++ Cd.textB t.sticky.data.toList).length = .ok (t.ready, (((pre ++ Cd.textB t.key.data.toList) ++ Cd.textB t.sticky.data.toList) ++ Cd.uB (Cd.zig t.ready)).length) := by rw [e3]; exact intW h3
  have e4 : pre ++ tkB t ++ rest = (((pre ++ Cd.textB t.key.data.toList) ++ Cd.textB t.sticky.data.toList) ++ Cd.uB (Cd.zig t.ready)) ++ Cd.uB t.att.toNat ++ rest := by simp [tkB]
  have r4 : rdNum (pre ++ tkB t ++ rest) (((pre ++ Cd.textB t.key.data.toList) ++ Cd.textB t.sticky.data.toList) ++ Cd.uB (Cd.zig t.ready)).length = .ok (t.att.toNat, ((((pre ++ Cd.textB t.key.data.toList) ++ Cd.textB t.sticky.data.toList) ++ Cd.uB (Cd.zig t.ready)) ++ Cd.uB t.att.toNat).length) := by rw [e4]; exact numW (by omega)
  rw [rdTk_ok r1 r2 r3 r4]
  have ha : ((t.att.toNat : Nat) : Int) = t.att := by omega
  rw [ha]
  simp [tkB]
theorem rdOt_wrote {pre rest : List UInt8} {x : Ot} (h : OtF x) : rdOt (pre ++ otB x ++ rest) pre.length = .ok (strip x, (pre ++ otB x).length) := by
  obtain ⟨h1, h2, h3, h4, h5⟩ := h
  unfold OtOk at h2
  have e : pre ++ otB x ++ rest = pre ++ Cd.textB x.tk.key.data.toList ++ (Cd.uB x.token.toNat ++ (Cd.textB x.worker.data.toList ++ (Cd.uB (Cd.zig x.until_) ++ (Cd.uB x.tk.att.toNat ++ rest)))) := by simp [otB]
  have r1 : Cd.rdText (pre ++ otB x ++ rest) pre.length = .ok (x.tk.key.data.toList, (pre ++ Cd.textB x.tk.key.data.toList).length) := by rw [e]; exact textW (by omega)
  have e2 : pre ++ otB x ++ rest = (pre ++ Cd.textB x.tk.key.data.toList) ++ Cd.uB x.token.toNat ++ (Cd.textB x.worker.data.toList ++ (Cd.uB (Cd.zig x.until_) ++ (Cd.uB x.tk.att.toNat ++ rest))) := by simp [otB]
  have r2 : rdNum (pre ++ otB x ++ rest) (pre ++ Cd.textB x.tk.key.data.toList).length = .ok (x.token.toNat, ((pre ++ Cd.textB x.tk.key.data.toList) ++ Cd.uB x.token.toNat).length) := by rw [e2]; exact numW (by omega)
  have e3 : pre ++ otB x ++ rest = ((pre ++ Cd.textB x.tk.key.data.toList) ++ Cd.uB x.token.toNat) ++ Cd.textB x.worker.data.toList ++ (Cd.uB (Cd.zig x.until_) ++ (Cd.uB x.tk.att.toNat ++ rest)) := by simp [otB]
  have r3 : Cd.rdText (pre ++ otB x ++ rest) ((pre ++ Cd.textB x.tk.key.data.toList) ++ Cd.uB x.token.toNat).length = .ok (x.worker.data.toList, (((pre ++ Cd.textB x.tk.key.data.toList) ++ Cd.uB x.token.toNat) ++ Cd.textB x.worker.data.toList).length) := by rw [e3]; exact textW (by omega)
  have e4 : pre ++ otB x ++ rest = (((pre ++ Cd.textB x.tk.key.data.toList) ++ Cd.uB x.token.toNat) ++ Cd.textB x.worker.data.toList) ++ Cd.uB (Cd.zig x.until_) ++ (Cd.uB x.tk.att.toNat ++ rest) := by simp [otB]
  have r4 : Cd.rdInt (pre ++ otB x ++ rest) (((pre ++ Cd.textB x.tk.key.data.toList) ++ Cd.uB x.token.toNat) ++ Cd.textB x.worker.data.toList).length = .ok (x.until_, ((((pre ++ Cd.textB x.tk.key.data.toList) ++ Cd.uB x.token.toNat) ++ Cd.textB x.worker.data.toList) ++ Cd.uB (Cd.zig x.until_)).length) := by rw [e4]; exact intW h4
  have e5 : pre ++ otB x ++ rest = ((((pre ++ Cd.textB x.tk.key.data.toList) ++ Cd.uB x.token.toNat) ++ Cd.textB x.worker.data.toList) ++ Cd.uB (Cd.zig x.until_)) ++ Cd.uB x.tk.att.toNat ++ rest := by simp [otB]
  have r5 : rdNum (pre ++ otB x ++ rest) ((((pre ++ Cd.textB x.tk.key.data.toList) ++ Cd.uB x.token.toNat) ++ Cd.textB x.worker.data.toList) ++ Cd.uB (Cd.zig x.until_)).length = .ok (x.tk.att.toNat, (((((pre ++ Cd.textB x.tk.key.data.toList) ++ Cd.uB x.token.toNat) ++ Cd.textB x.worker.data.toList) ++ Cd.uB (Cd.zig x.until_)) ++ Cd.uB x.tk.att.toNat).length) := by rw [e5]; exact numW (by omega)
  rw [rdOt_ok r1 r2 r3 r4 r5]
  have ha : ((x.tk.att.toNat : Nat) : Int) = x.tk.att := by omega
  have hb : ((x.token.toNat : Nat) : Int) = x.token := by omega
  rw [ha, hb]
  simp [otB, strip]
theorem rdWs_wrote : ∀ (R P : List Tk) (pre rest : List UInt8), (∀ t ∈ R, TkF t) → ((P ++ R).map (·.key)).Nodup → rdWs (pre ++ R.flatMap tkB ++ rest) R.length pre.length P = .ok (P ++ R, (pre ++ R.flatMap tkB).length)
  | [], P, pre, rest, _, _ => by simp [rdWs]
  | x :: R, P, pre, rest, hf, hn => by
    have h1 := rdTk_wrote (pre := pre) (rest := R.flatMap tkB ++ rest) (hf x List.mem_cons_self)
    have e : pre ++ (x :: R).flatMap tkB ++ rest = pre ++ tkB x ++ (R.flatMap tkB ++ rest) := by simp
    rw [e]
    show rdWs _ (R.length + 1) _ _ = _
    unfold rdWs
    rw [h1]
    simp only
    have hk : keyT P x.key = false := by
      cases hk : keyT P x.key with
      | false => rfl
      | true =>
        obtain ⟨y, hy, e1⟩ := keyT_is.1 hk
        rw [List.map_append, List.nodup_append] at hn
        exact absurd e1 (hn.2.2 y.key (List.mem_map.2 ⟨y, hy, rfl⟩) x.key (List.mem_map.2 ⟨x, List.mem_cons_self, rfl⟩))
    rw [hk, if_neg (by simp)]
    have := rdWs_wrote R (P ++ [x]) (pre ++ tkB x) rest (fun y hy => hf y (List.mem_cons_of_mem _ hy)) (by simpa using hn)
    rw [← List.append_assoc, this]
    simp
theorem rdOs_wrote (next : Int) (ts : List Tk) : ∀ (R P : List Ot) (pre rest : List UInt8) (last : Int), (∀ x ∈ R, OtF x) → (∀ x ∈ R, last < x.token) → R.Pairwise (fun a b => a.token < b.token) → (∀ x ∈ R, x.token < next ∧ x.tk.att ≠ 0) → (∀ x ∈ R, keyT ts x.tk.key = false) → ((P ++ R).map (·.tk.key)).Nodup → rdOs (pre ++ R.flatMap otB ++ rest) next ts R.length pre.length last (P.map strip) = .ok ((P ++ R).map strip, (pre ++ R.flatMap otB).length)
  | [], P, pre, rest, last, _, _, _, _, _, _ => by simp [rdOs]
  | x :: R, P, pre, rest, last, hf, hl, hs, hb, ht, hn => by
    have h1 := rdOt_wrote (pre := pre) (rest := R.flatMap otB ++ rest) (hf x List.mem_cons_self)
    have e : pre ++ (x :: R).flatMap otB ++ rest = pre ++ otB x ++ (R.flatMap otB ++ rest) := by simp
    rw [e]
    show rdOs _ _ _ (R.length + 1) _ _ _ = _
    unfold rdOs
    rw [h1]
    simp only
    have hk : keyO (P.map strip) (strip x).tk.key = false := by
      cases hk : keyO (P.map strip) (strip x).tk.key with
      | false => rfl
      | true =>
        obtain ⟨y, hy, e1⟩ := keyO_is.1 hk
        obtain ⟨z, hz, rfl⟩ := List.mem_map.1 hy
        rw [List.map_append, List.nodup_append] at hn
        exact absurd e1 (hn.2.2 z.tk.key (List.mem_map.2 ⟨z, hz, rfl⟩) x.tk.key (List.mem_map.2 ⟨x, List.mem_cons_self, rfl⟩))
    have hk2 : keyT ts (strip x).tk.key = false := ht x List.mem_cons_self
    have hbo : badO next last (strip x) = false := by
      unfold badO strip
      simp only [Bool.or_eq_false_iff, decide_eq_false_iff_not]
      have := hl x List.mem_cons_self
      have := hb x List.mem_cons_self
      exact ⟨⟨by omega, by omega⟩, this.2⟩
    rw [hk, hk2, if_neg (by simp), hbo, if_neg (by simp)]
    have := rdOs_wrote next ts R (P ++ [x]) (pre ++ otB x) rest (strip x).token (fun y hy => hf y (List.mem_cons_of_mem _ hy)) (fun y hy => (List.pairwise_cons.1 hs).1 y hy) (List.pairwise_cons.1 hs).2 (fun y hy => hb y (List.mem_cons_of_mem _ hy)) (fun y hy => ht y (List.mem_cons_of_mem _ hy)) (by simpa using hn)
    rw [List.map_append] at this
    rw [← List.append_assoc]
    have e3 : P.map strip ++ [strip x] = P.map strip ++ [x].map strip := rfl
    rw [e3, this]
    simp
theorem rdQ_wrote {most next : Nat} {grace : Int} {ts : List Tk} {zs : List Ot} (hm : 1 ≤ most ∧ most ≤ 4096) (hg : 0 ≤ grace ∧ grace ≤ 9223372036854775807) (hx : 0 < next ∧ next ≤ 4611686018427387904) (ht : ∀ t ∈ ts, TkF t) (hz : ∀ x ∈ zs, OtF x) (htl : ts.length ≤ 65536) (hzl : zs.length ≤ 65536) (hn : (ts.map (·.key)).Nodup) (hzn : (zs.map (·.tk.key)).Nodup) (hd : ∀ x ∈ zs, keyT ts x.tk.key = false) (hs : zs.Pairwise (fun a b => a.token < b.token)) (hb : ∀ x ∈ zs, x.token < (next : Int) ∧ x.tk.att ≠ 0) :
    rdQ (qB (most : Int) grace (next : Int) ts zs) = .ok (⟨most, grace, next, ts, zs.map strip⟩, (qB (most : Int) grace (next : Int) ts zs).length) := by
  have e0 : qB (most : Int) grace (next : Int) ts zs = [] ++ Cd.uB most ++ (Cd.uB (Cd.zig grace) ++ (Cd.uB next ++ (Cd.uB ts.length ++ (ts.flatMap tkB ++ (Cd.uB zs.length ++ zs.flatMap otB))))) := by simp [qB]
  have r0 : rdNum (qB (most : Int) grace (next : Int) ts zs) 0 = .ok (most, ([] ++ Cd.uB most).length) := by rw [e0]; exact numW (pre := []) (by omega)
  have e1 : qB (most : Int) grace (next : Int) ts zs = (([] ++ Cd.uB most)) ++ Cd.uB (Cd.zig grace) ++ (Cd.uB next ++ (Cd.uB ts.length ++ (ts.flatMap tkB ++ (Cd.uB zs.length ++ zs.flatMap otB)))) := by simp [qB]
  have r1 : Cd.rdInt (qB (most : Int) grace (next : Int) ts zs) ([] ++ Cd.uB most).length = .ok (grace, (([] ++ Cd.uB most) ++ Cd.uB (Cd.zig grace)).length) := by rw [e1]; exact intW (by omega)
  have e2 : qB (most : Int) grace (next : Int) ts zs = (([] ++ Cd.uB most) ++ Cd.uB (Cd.zig grace)) ++ Cd.uB next ++ (Cd.uB ts.length ++ (ts.flatMap tkB ++ (Cd.uB zs.length ++ zs.flatMap otB))) := by simp [qB]
  have r2 : rdNum (qB (most : Int) grace (next : Int) ts zs) (([] ++ Cd.uB most) ++ Cd.uB (Cd.zig grace)).length = .ok (next, ((([] ++ Cd.uB most) ++ Cd.uB (Cd.zig grace)) ++ Cd.uB next).length) := by rw [e2]; exact numW (by omega)
  have e3 : qB (most : Int) grace (next : Int) ts zs = ((([] ++ Cd.uB most) ++ Cd.uB (Cd.zig grace)) ++ Cd.uB next) ++ Cd.uB ts.length ++ (ts.flatMap tkB ++ (Cd.uB zs.length ++ zs.flatMap otB)) := by simp [qB]
  have r3 : rdCnt (qB (most : Int) grace (next : Int) ts zs) ((([] ++ Cd.uB most) ++ Cd.uB (Cd.zig grace)) ++ Cd.uB next).length = .ok (ts.length, (((([] ++ Cd.uB most) ++ Cd.uB (Cd.zig grace)) ++ Cd.uB next) ++ Cd.uB ts.length).length) := by rw [e3]; exact cntW htl
  have e4 : qB (most : Int) grace (next : Int) ts zs = (((([] ++ Cd.uB most) ++ Cd.uB (Cd.zig grace)) ++ Cd.uB next) ++ Cd.uB ts.length) ++ ts.flatMap tkB ++ (Cd.uB zs.length ++ zs.flatMap otB) := by simp [qB]
  have r4 : rdWs (qB (most : Int) grace (next : Int) ts zs) ts.length (((([] ++ Cd.uB most) ++ Cd.uB (Cd.zig grace)) ++ Cd.uB next) ++ Cd.uB ts.length).length [] = .ok (ts, ((((([] ++ Cd.uB most) ++ Cd.uB (Cd.zig grace)) ++ Cd.uB next) ++ Cd.uB ts.length) ++ ts.flatMap tkB).length) := by rw [e4]; exact rdWs_wrote ts [] _ _ ht (by simpa using hn)
  have e5 : qB (most : Int) grace (next : Int) ts zs = ((((([] ++ Cd.uB most) ++ Cd.uB (Cd.zig grace)) ++ Cd.uB next) ++ Cd.uB ts.length) ++ ts.flatMap tkB) ++ Cd.uB zs.length ++ zs.flatMap otB := by simp [qB]
  have r5 : rdCnt (qB (most : Int) grace (next : Int) ts zs) ((((([] ++ Cd.uB most) ++ Cd.uB (Cd.zig grace)) ++ Cd.uB next) ++ Cd.uB ts.length) ++ ts.flatMap tkB).length = .ok (zs.length, (((((([] ++ Cd.uB most) ++ Cd.uB (Cd.zig grace)) ++ Cd.uB next) ++ Cd.uB ts.length) ++ ts.flatMap tkB) ++ Cd.uB zs.length).length) := by rw [e5]; exact cntW hzl
  have e6 : qB (most : Int) grace (next : Int) ts zs = (((((([] ++ Cd.uB most) ++ Cd.uB (Cd.zig grace)) ++ Cd.uB next) ++ Cd.uB ts.length) ++ ts.flatMap tkB) ++ Cd.uB zs.length) ++ zs.flatMap otB ++ [] := by simp [qB]
  have r6 : rdOs (qB (most : Int) grace (next : Int) ts zs) (next : Int) ts zs.length (((((([] ++ Cd.uB most) ++ Cd.uB (Cd.zig grace)) ++ Cd.uB next) ++ Cd.uB ts.length) ++ ts.flatMap tkB) ++ Cd.uB zs.length).length 0 [] = .ok (zs.map strip, ((((((([] ++ Cd.uB most) ++ Cd.uB (Cd.zig grace)) ++ Cd.uB next) ++ Cd.uB ts.length) ++ ts.flatMap tkB) ++ Cd.uB zs.length) ++ zs.flatMap otB).length) := by
    rw [e6]
    exact rdOs_wrote (next : Int) ts zs [] _ [] 0 hz (fun x hx => (hz x hx).tok.1) hs hb hd (by simpa using hzn)
  have hlen : ((((((([] ++ Cd.uB most) ++ Cd.uB (Cd.zig grace)) ++ Cd.uB next) ++ Cd.uB ts.length) ++ ts.flatMap tkB) ++ Cd.uB zs.length) ++ zs.flatMap otB).length = (qB (most : Int) grace (next : Int) ts zs).length := by rw [e6]; simp
  rw [hlen] at r6
  have hh : rdHd (qB (most : Int) grace (next : Int) ts zs) = .ok ((most, grace, next), ((([] ++ Cd.uB most) ++ Cd.uB (Cd.zig grace)) ++ Cd.uB next).length) := by
    unfold rdHd
    rw [r0]
    simp only
    rw [if_neg (by omega), r1]
    simp only
    rw [if_neg (by omega), r2]
    simp only
    rw [if_neg (by omega)]
  generalize qB (most : Int) grace (next : Int) ts zs = l at *
  unfold rdQ
  rw [hh]
  simp only
  unfold rdQw
  rw [r3]
  simp only
  rw [r4]
  simp only
  unfold rdQo
  simp only
  rw [r5]
  simp only
  rw [r6]
  simp only
  unfold rdEnd
  simp
end Go.Proofs.YtpbheicfplpemaaGreat

namespace Go.Proofs.YtpbheicfplpemaaGreat
open Go.RowKit

/-- an operation of the queue -/
def PY (w : World) (q : Nat) (most grace : Int) (wv : Value) (O T : Nat) (next' : Int) (ts' : List Tk) (om' : Int → Option Ot) (tm' : ByteArray → Option Int) (v : Value) (e : Ending) (w' : World) : Prop :=
  e = .returned v ∧ ∃ wv', QS w' q most grace next' wv' ts' O T om' tm' ∧ NextR w wv wv' ∧ Turns (QSet q wv O T) w w'
theorem PY.low {w w' : World} {q : Nat} {most grace next : Int} {wv : Value} {ts : List Tk} {O T : Nat} {om : Int → Option Ot} {tm : ByteArray → Option Int} (h : QS w q most grace next wv ts O T om tm) (hb : Below w.heap.size w w') (v : Value) : PY w q most grace wv O T next ts om tm v (.returned v) w' :=
  ⟨rfl, wv, h.bel hb, .refl _ _, Turns.of_below hb⟩
theorem RAddY.low {w w' : World} {r : Nat} {most grace last : Int} {iv av : Value} {I Z : List Ot} (h : RQ w r most grace last iv av I Z) (hb : Below w.heap.size w w') (v : Value) : RAddY w r most grace last iv av I Z v (.returned v) w' :=
  ⟨rfl, iv, av, h.bel hb, .refl _ _ _ _, Turns.of_below hb⟩
structure BQ (w0 w : World) (m q r : Nat) (most grace next : Int) (wv iv av : Value) (ts : List Tk) (zs I Z : List Ot) (O T : Nat) (om : Int → Option Ot) (tm : ByteArray → Option Int) : Prop where
  qs : QS w q most grace next wv ts O T om tm
  pi : PI m next ts zs om tm
  rq : RQ w r most grace (next - 1) iv av I Z
  hI : I.map (·.tk) = ts
  hZ : Z.map strip = zs.map strip
  ap : ∀ i, QSet q wv O T i → ¬ RQSet r iv av i
  loQ : ∀ i, QSet q wv O T i → w0.heap.size ≤ i
  loR : ∀ i, RQSet r iv av i → w0.heap.size ≤ i
  B : Below w0.heap.size w0 w
  bnd : (1 ≤ most ∧ most ≤ 4096) ∧ (0 ≤ grace ∧ grace ≤ 9223372036854775807)
def BX (w0 w : World) (m q r : Nat) (most grace : Int) : Prop :=
  ∃ next wv iv av ts zs I Z O T om tm, BQ w0 w m q r most grace next wv iv av ts zs I Z O T om tm
section
variable {w0 w w1 w2 : World} {m q r : Nat} {most grace next next' : Int} {wv wv' iv av iv' av' : Value} {ts ts' : List Tk} {zs I Z zs' I' Z' : List Ot} {O T : Nat} {om om' : Int → Option Ot} {tm tm' : ByteArray → Option Int}
theorem BQ.bel (h : BQ w0 w m q r most grace next wv iv av ts zs I Z O T om tm) (hb : Below w.heap.size w w1) : BQ w0 w1 m q r most grace next wv iv av ts zs I Z O T om tm :=
  ⟨h.qs.bel hb, h.pi, h.rq.bel hb, h.hI, h.hZ, h.ap, h.loQ, h.loR, h.B.trans (hb.mono h.B.size), h.bnd⟩
theorem BX.bel (h : BX w0 w m q r most grace) (hb : Below w.heap.size w w1) : BX w0 w1 m q r most grace := by
  obtain ⟨next, wv, iv, av, ts, zs, I, Z, O, T, om, tm, h⟩ := h
  exact ⟨next, wv, iv, av, ts, zs, I, Z, O, T, om, tm, h.bel hb⟩
theorem BQ.step (h : BQ w0 w m q r most grace next wv iv av ts zs I Z O T om tm) (h1 : QS w1 q most grace next' wv' ts' O T om' tm') (n1 : NextR w wv wv') (t1 : Turns (QSet q wv O T) w w1)
    (h2 : RQ w2 r most grace (next' - 1) iv' av' I' Z') (n2 : RNew w1 r iv av iv' av') (t2 : Turns (RQSet r iv av) w1 w2) {m' : Nat} (hp : PI m' next' ts' zs' om' tm') (hI : I'.map (·.tk) = ts') (hZ : Z'.map strip = zs'.map strip) :
    BQ w0 w2 m' q r most grace next' wv' iv' av' ts' zs' I' Z' O T om' tm' := by
  have hq : ∀ i, QSet q wv' O T i → QSet q wv O T i ∨ w.heap.size ≤ i := by
    rintro i (e | e | e | e)
    · exact .inl (.inl e)
    · exact .inl (.inr (.inl e))
    · exact .inl (.inr (.inr (.inl e)))
    · rcases n1 i e with e | e
      · exact .inl (.inr (.inr (.inr e)))
      · exact .inr e
  have hqr : ∀ i, QSet q wv' O T i → ¬ RQSet r iv av i := fun i hi hr => by
    rcases hq i hi with e | e
    · exact h.ap i e hr
    · have := h.rq.lts i hr; omega
  refine ⟨h1.keep t2 hqr, hp, h2, hI, hZ, fun i hi hr => ?_, fun i hi => ?_, fun i hi => ?_, ?_, h.bnd⟩
  · rcases n2 i hr with e | e
    · exact hqr i hi e
    · have := h1.lts i hi; omega
  · rcases hq i hi with e | e
    · exact h.loQ i e
    · exact Nat.le_trans h.B.size e
  · rcases n2 i hi with e | e
    · exact h.loR i e
    · exact Nat.le_trans h.B.size (Nat.le_trans t1.size e)
  · have e1 : Turns (fun i => w0.heap.size ≤ i) w0 w := Turns.of_below h.B
    exact ((e1.then (t1.mono (fun i _ hi => h.loQ i hi))).then (t2.mono (fun i _ hi => h.loR i hi))).below (Nat.le_refl _) (fun _ _ e => e)
theorem BQ.pair (h : BQ w0 w m q r most grace next wv iv av ts zs I Z O T om tm) {nb : Nat} (hnb : ∀ i, QSet q wv O T i → i < nb) {fq fr : Nat} {aq ar : Array Value} {v : Value}
    (hq : Calls Tryz.prog fq aq w (PY w q most grace wv O T next' ts' om' tm' v)) (hp : PI (m + 1) next' ts' zs' om' tm')
    (hr : ∀ w1, RQ w1 r most grace (next - 1) iv av I Z → Calls Tryz.prog fr ar w1 (RAddY w1 r most grace (next' - 1) iv av I' Z' v)) (hI : I'.map (·.tk) = ts') (hZ : Z'.map strip = zs'.map strip) :
    ∃ M : World → Prop, Calls Tryz.prog fq aq w (fun e w1 => e = .returned v ∧ M w1 ∧ Turns (fun i => i < nb) w w1) ∧ ∀ w1, M w1 → Calls Tryz.prog fr ar w1 (fun e w2 => e = .returned v ∧ BX w0 w2 (m + 1) q r most grace) := by
  refine ⟨fun w1 => ∃ wv', QS w1 q most grace next' wv' ts' O T om' tm' ∧ NextR w wv wv' ∧ Turns (QSet q wv O T) w w1, hq.mono ?_, fun w1 hM => ?_⟩
  · rintro e w1 ⟨rfl, wv', q1, n1, t1⟩
    exact ⟨rfl, ⟨wv', q1, n1, t1⟩, t1.mono (fun i _ hi => hnb i hi)⟩
  obtain ⟨wv', q1, n1, t1⟩ := hM
  refine (hr w1 (h.rq.keep t1 (fun i hi hq => h.ap i hq hi))).mono ?_
  rintro e w2 ⟨rfl, iv', av', r2, n2, t2⟩
  exact ⟨rfl, next', wv', iv', av', ts', zs', I', Z', O, T, om', tm', h.step q1 n1 t1 r2 n2 t2 hp hI hZ⟩
end
/-! ### what lies where, in both -/
theorem findT_strip (zs : List Ot) (k : Int) : findT (zs.map strip) k = findT zs k := by
  unfold findT
  rw [List.findIdx?_map]
  rfl
theorem findT_alike {Z zs : List Ot} (h : Z.map strip = zs.map strip) (k : Int) : findT Z k = findT zs k := by rw [← findT_strip Z, h, findT_strip]
theorem findI_strip (zs : List Ot) (k : ByteArray) : findI (zs.map strip) k = findI zs k := by
  unfold findI
  rw [List.findIdx?_map]
  rfl
theorem findI_alike {Z zs : List Ot} (h : Z.map strip = zs.map strip) (k : ByteArray) : findI Z k = findI zs k := by rw [← findI_strip Z, h, findI_strip]
theorem keyO_map (I : List Ot) (k : ByteArray) : keyO I k = keyT (I.map (·.tk)) k := by
  unfold keyO keyT
  rw [List.any_map]
  rfl
theorem keyO_strip (zs : List Ot) (k : ByteArray) : keyO (zs.map strip) k = keyO zs k := by
  unfold keyO
  rw [List.any_map]
  rfl
theorem keyO_alike {Z zs : List Ot} (h : Z.map strip = zs.map strip) (k : ByteArray) : keyO Z k = keyO zs k := by rw [← keyO_strip Z, h, keyO_strip]
theorem strip_at {Z zs : List Ot} (h : Z.map strip = zs.map strip) {n : Nat} (hn : n < zs.length) (hn' : n < Z.length) : Z[n].tk.key = zs[n].tk.key ∧ Z[n].tk.att = zs[n].tk.att ∧ Z[n].token = zs[n].token ∧ Z[n].worker = zs[n].worker ∧ Z[n].until_ = zs[n].until_ := by
  have e : (Z.map strip)[n]'(by simpa using hn') = (zs.map strip)[n]'(by simpa using hn) := by simp only [h]
  rw [List.getElem_map, List.getElem_map] at e
  unfold strip at e
  injection e with e1 e2 e3 e4
  injection e1 with f1 _ _ f4
  exact ⟨f1, f4, e2, e3, e4⟩
theorem cut_alike {Z zs : List Ot} (h : Z.map strip = zs.map strip) (n : Nat) : (Z.eraseIdx n).map strip = (zs.eraseIdx n).map strip := by
  have : ∀ l : List Ot, (l.eraseIdx n).map strip = (l.map strip).eraseIdx n := fun l => by
    rw [List.eraseIdx_eq_take_drop_succ, List.eraseIdx_eq_take_drop_succ, List.map_append, List.map_take, List.map_drop]
  rw [this, this, h]
theorem set_alike {Z zs : List Ot} (h : Z.map strip = zs.map strip) (n : Nat) {y x : Ot} (he : strip y = strip x) : (Z.set n y).map strip = (zs.set n x).map strip := by rw [List.map_set, List.map_set, h, he]
theorem tk_cut {I : List Ot} {ts : List Tk} (h : I.map (·.tk) = ts) (n : Nat) : (I.eraseIdx n).map (·.tk) = ts.eraseIdx n := by
  rw [List.eraseIdx_eq_take_drop_succ, List.eraseIdx_eq_take_drop_succ, List.map_append, List.map_take, List.map_drop, h]
theorem PI.none_tok {m : Nat} {next : Int} {ts : List Tk} {zs : List Ot} {om : Int → Option Ot} {tm : ByteArray → Option Int} (h : PI m next ts zs om tm) {k : Int} (hk : om k = none) : findT zs k = -1 :=
  findT_no fun j hj e => by
    have := (h.outs.2 k zs[j]).2 ⟨List.getElem_mem hj, e⟩
    rw [hk] at this
    cases this
theorem PI.some_tok {m : Nat} {next : Int} {ts : List Tk} {zs : List Ot} {om : Int → Option Ot} {tm : ByteArray → Option Int} (h : PI m next ts zs om tm) {n : Nat} (hn : n < zs.length) : findT zs zs[n].token = (n : Int) :=
  findT_at hn (fun j hj hjn => h.outs.tok_ne hj hn (by omega)) rfl
theorem PI.some_key {m : Nat} {next : Int} {ts : List Tk} {zs : List Ot} {om : Int → Option Ot} {tm : ByteArray → Option Int} (h : PI m next ts zs om tm) {n : Nat} (hn : n < zs.length) : findI zs zs[n].tk.key = (n : Int) :=
  findI_at hn (fun j hj hjn => h.outs.key_ne h.tq hj hn (by omega)) rfl
theorem addI_in (a b : Int) (ha : -9223372036854775808 ≤ a ∧ a ≤ 9223372036854775807) (hb : -9223372036854775808 ≤ b ∧ b ≤ 9223372036854775807) : -9223372036854775808 ≤ addI a b ∧ addI a b ≤ 9223372036854775807 := by
  unfold addI
  split
  · omega
  · split
    · omega
    · omega
end Go.Proofs.YtpbheicfplpemaaGreat

namespace Go.Proofs.YtpbheicfplpemaaGreat
open Go.RowKit

section
variable {w0 w : World} {m q r : Nat} {most grace : Int}
theorem putB {wz : World} (hz0 : BX w0 wz m q r most grace) (hz : Below wz.heap.size wz w) (hm : m ≤ 1000) (key who : ByteArray) (hk : key.size ≤ 200) (hw : who.size ≤ 200) (at_ : Int) (ha : -9223372036854775808 ≤ at_ ∧ at_ ≤ 9223372036854775807) :
    ∃ (v : Int) (M : World → Prop), Calls Tryz.prog 13 #[.pointer (some ⟨q, 0, none⟩), .string key, .string who, .int .i64 at_] w (fun e w1 => e = .returned (.int .i64 v) ∧ M w1 ∧ Turns (fun i => i < wz.heap.size) w w1) ∧
      ∀ w1, M w1 → Calls Tryz.prog 51 #[.pointer (some ⟨r, 0, none⟩), .string key, .string who, .int .i64 at_] w1 (fun e w2 => e = .returned (.int .i64 v) ∧ BX w0 w2 (m + 1) q r most grace) := by
  obtain ⟨next, wv, iv, av, ts, zs, I, Z, O, T, om, tm, h⟩ := hz0
  have hl0 := h.qs.lts
  replace h := h.bel hz
  have hlen := h.pi.len
  have hil : I.length = ts.length := by rw [← h.hI, List.length_map]
  have hI := h.hI
  cases hx : tm key with
  | some x =>
    have hf : (keyO I key || keyO Z key) = true := by
      rw [keyO_map, hI, keyO_alike h.hZ]
      cases hb : (keyT ts key || keyO zs key) with
      | true => rfl
      | false => rw [h.pi.tq.free.2 hb] at hx; cases hx
    refine ⟨6, ?_⟩
    refine h.pair hl0 (next' := next) (ts' := ts) (zs' := zs) (om' := om) (tm' := tm) (I' := I) (Z' := Z) ((putT w q most grace next wv ts O T om tm h.qs key who at_ x hx).mono ?_) h.pi.up (fun w1 hr => (rqPutT w1 r most grace (next - 1) iv av I Z hr key who at_ hf).mono ?_) h.hI h.hZ
    · rintro e w1 ⟨rfl, hb⟩; exact PY.low h.qs hb _
    · rintro e w2 ⟨rfl, hb⟩; exact RAddY.low hr hb _
  | none =>
    have hf := h.pi.tq.free.1 hx
    rw [Bool.or_eq_false_iff] at hf
    have h1 : findI I key = -1 := findI_key.2 (by rw [keyO_map, hI]; exact hf.1)
    have h2 : findI Z key = -1 := findI_key.2 (by rw [keyO_alike h.hZ]; exact hf.2)
    by_cases hlt : (ts.length : Int) < most
    · refine ⟨0, ?_⟩
      refine h.pair hl0 (next' := next) (ts' := ts ++ [⟨key, who, at_, 0⟩]) (zs' := zs) (om' := om) (tm' := updS tm key 0) (I' := I ++ [idT ⟨key, who, at_, 0⟩]) (Z' := Z) ((putQ w q most grace next wv ts O T om tm h.qs key who at_ hx hlt (by omega)).mono ?_) (h.pi.put (t := ⟨key, who, at_, 0⟩) ⟨hk, hw, ha, by simp⟩ hx) (fun w1 hr => rqPut1 w1 r most grace (next - 1) iv av I Z hr key who at_ h1 h2 (by omega) (by omega)) (by rw [List.map_append, hI]; rfl) h.hZ
      rintro e w1 hy
      exact hy
    · refine ⟨7, ?_⟩
      refine h.pair hl0 (next' := next) (ts' := ts) (zs' := zs) (om' := om) (tm' := tm) (I' := I) (Z' := Z) ((putF w q most grace next wv ts O T om tm h.qs key who at_ hx hlt).mono ?_) h.pi.up (fun w1 hr => (rqPutF w1 r most grace (next - 1) iv av I Z hr key who at_ h1 h2 (by omega)).mono ?_) h.hI h.hZ
      · rintro e w1 ⟨rfl, hb⟩; exact PY.low h.qs hb _
      · rintro e w2 ⟨rfl, hb⟩; exact RAddY.low hr hb _
/-- the first that is for a worker -/
theorem first_for (ts : List Tk) (p : Tk → Bool) : (∀ t ∈ ts, p t = false) ∨ ∃ i, ∃ hi : i < ts.length, p ts[i] = true ∧ ∀ j (hj : j < ts.length), j < i → p ts[j] = false := by
  cases e : ts.findIdx? p with
  | none => left; exact fun t ht => by rw [List.findIdx?_eq_none_iff] at e; exact e t ht
  | some i =>
    right
    obtain ⟨hi, h1, h2⟩ := List.findIdx?_eq_some_iff_getElem.1 e
    exact ⟨i, hi, h1, fun j hj hji => by simpa using h2 j hji⟩
theorem pollP {next : Int} {wv : Value} {ts : List Tk} {zs : List Ot} {O T : Nat} {om : Int → Option Ot} {tm : ByteArray → Option Int} (qs : QS w q most grace next wv ts O T om tm) (pi : PI m next ts zs om tm) (hm : m ≤ 1000) (hb : 0 ≤ grace ∧ grace ≤ 9223372036854775807) (who : ByteArray) (now lease : Int) (hn : -9223372036854775808 ≤ now ∧ now ≤ 9223372036854775807) (hl : 1 ≤ lease ∧ lease ≤ 9223372036854775807) :
    ((∀ t ∈ ts, isForI grace who now t = false) ∧ Calls Tryz.prog 14 #[.pointer (some ⟨q, 0, none⟩), .string who, .int .i64 now, .int .i64 lease] w (PY w q most grace wv O T next ts om tm (.tuple #[.string ⟨#[]⟩, .int .i64 0, .int .i64 0, .int .i64 5]))) ∨
    ∃ i, ∃ hi : i < ts.length, isForI grace who now ts[i] = true ∧ (∀ j (hj : j < ts.length), j < i → isForI grace who now ts[j] = false) ∧ Calls Tryz.prog 14 #[.pointer (some ⟨q, 0, none⟩), .string who, .int .i64 now, .int .i64 lease] w (PY w q most grace wv O T (next + 1) (ts.eraseIdx i) (updI om next ⟨{ ts[i] with att := ts[i].att + 1 }, next, who, addI now lease⟩) (updS tm ts[i].key next) (.tuple #[.string ts[i].key, .int .i64 next, .int .i64 (ts[i].att + 1), .int .i64 0])) := by
  have hc := pollQ w q most grace next wv ts O T om tm qs who now lease (by have := pi.nx; omega) hl hn (by omega) (fun t ht => (pi.tf t ht).rd) (fun t ht => by have := (pi.tf t ht).at_; omega)
  rcases first_for ts (isForI grace who now) with hz | ⟨i, hi, h1, h2⟩
  · left
    refine ⟨hz, hc.mono ?_⟩
    rintro e w1 (⟨rfl, _, hb⟩ | ⟨i, wv', hi, h1, _⟩)
    · exact PY.low qs hb _
    · rw [gT_of hi, hz _ (List.getElem_mem hi)] at h1; cases h1
  · right
    refine ⟨i, hi, h1, h2, hc.mono ?_⟩
    rintro e w1 (⟨_, hz, _⟩ | ⟨j, wv', hj, g1, g2, rfl, hq, hn, ht⟩)
    · rw [hz _ (List.getElem_mem hi)] at h1; cases h1
    · obtain rfl : j = i := by
        rcases Nat.lt_trichotomy j i with e | e | e
        · have := h2 j hj e; rw [← gT_of hj, g1] at this; cases this
        · exact e
        · have := g2 i e; rw [gT_of hi, h1] at this; cases this
      rw [gT_of hj] at hq ⊢
      exact ⟨rfl, wv', hq, hn, ht⟩
theorem pollB {wz : World} (hz0 : BX w0 wz m q r most grace) (hz : Below wz.heap.size wz w) (hm : m ≤ 1000) (who : ByteArray) (hw : who.size ≤ 200) (now lease : Int) (hn : -9223372036854775808 ≤ now ∧ now ≤ 9223372036854775807) (hl : lease ≤ 9223372036854775807) :
    ∃ (k : ByteArray) (a b c : Int) (M : World → Prop), Calls Tryz.prog 14 #[.pointer (some ⟨q, 0, none⟩), .string who, .int .i64 now, .int .i64 lease] w (fun e w1 => e = .returned (.tuple #[.string k, .int .i64 a, .int .i64 b, .int .i64 c]) ∧ M w1 ∧ Turns (fun i => i < wz.heap.size) w w1) ∧
      ∀ w1, M w1 → Calls Tryz.prog 52 #[.pointer (some ⟨r, 0, none⟩), .string who, .int .i64 now, .int .i64 lease] w1 (fun e w2 => e = .returned (.tuple #[.string k, .int .i64 a, .int .i64 b, .int .i64 c]) ∧ BX w0 w2 (m + 1) q r most grace) := by
  obtain ⟨next, wv, iv, av, ts, zs, I, Z, O, T, om, tm, h⟩ := hz0
  have hl0 := h.qs.lts
  replace h := h.bel hz
  have hlen := h.pi.len
  have hil : I.length = ts.length := by rw [← h.hI, List.length_map]
  have hzl := alike_len h.hZ
  have hI := h.hI
  by_cases h0 : lease < 1
  · refine ⟨⟨#[]⟩, 0, 0, 1, ?_⟩
    refine h.pair hl0 (next' := next) (ts' := ts) (zs' := zs) (om' := om) (tm' := tm) (I' := I) (Z' := Z) ((pollA w q most grace next wv ts O T om tm h.qs who now lease h0).mono ?_) h.pi.up (fun w1 hr => (rqPollA w1 r who now lease h0).mono ?_) h.hI h.hZ
    · rintro e w1 ⟨rfl, hb⟩; exact PY.low h.qs hb _
    · rintro e w2 ⟨rfl, hb⟩; exact RAddY.low hr (by rw [hb]; exact Below.refl _ _) _
  · have hat : ∀ j (hj : j < I.length) (hj' : j < ts.length), I[j].tk = ts[j] := fun j hj hj' => by simp only [← hI, List.getElem_map]
    have hR := fun w1 (hr : RQ w1 r most grace (next - 1) iv av I Z) => rqPoll w1 r most grace (next - 1) iv av I Z hr who now lease h0 hl hn (by have := h.bnd.2; omega) (by have := h.pi.nx; omega) (fun x hx => by
      obtain ⟨j, hj, rfl⟩ := List.getElem_of_mem hx
      rw [hat j hj (by omega)]
      have f := h.pi.tf _ (List.getElem_mem (by omega : j < ts.length))
      have f2 := f.at_
      exact ⟨f.rd, by omega⟩) (by omega)
    rcases pollP h.qs h.pi hm h.bnd.2 who now lease hn ⟨by omega, hl⟩ with ⟨hz, hc⟩ | ⟨i, hi, h1, h2, hc⟩
    · refine ⟨⟨#[]⟩, 0, 0, 5, ?_⟩
      refine h.pair hl0 (I' := I) (Z' := Z) hc h.pi.up (fun w1 hr => (hR w1 hr).mono ?_) h.hI h.hZ
      rintro e w2 (⟨rfl, _, hb⟩ | ⟨i, hi, g1, _⟩)
      · exact RAddY.low hr hb _
      · rw [hat i hi (by omega), hz _ (List.getElem_mem _)] at g1; cases g1
    · refine ⟨ts[i].key, next, ts[i].att + 1, 0, ?_⟩
      refine h.pair hl0 (I' := I.eraseIdx i) (Z' := Z ++ [polled (I[i]'(by omega)) (next - 1 + 1) who (addI now lease)]) hc (h.pi.poll hi hw (addI_in now lease hn (by omega))) (fun w1 hr => (hR w1 hr).mono ?_) (tk_cut hI i) (by
        rw [List.map_append, List.map_append, h.hZ]
        congr 1
        simp only [List.map_cons, List.map_nil, strip, polled, hat i (by omega) hi]
        congr 2
        omega)
      rintro e w2 (⟨_, hz, _⟩ | ⟨j, hj, g1, g2, rfl, iv', av', hq, hn', ht⟩)
      · have := hz i (by omega); rw [hat i (by omega) hi, h1] at this; cases this
      · obtain rfl : j = i := by
          rcases Nat.lt_trichotomy j i with e | e | e
          · have := h2 j (by omega) e; rw [← hat j hj (by omega), g1] at this; cases this
          · exact e
          · have := g2 i (by omega) e; rw [hat i (by omega) hi, h1] at this; cases this
        refine ⟨by rw [hat j hj hi, show next - 1 + 1 = next from by omega], iv', av', ?_, hn', ht⟩
        rw [show next + 1 - 1 = next - 1 + 1 from by omega]
        exact hq
theorem beatB {wz : World} (hz0 : BX w0 wz m q r most grace) (hz : Below wz.heap.size wz w) (k now lease : Int) (hn : -9223372036854775808 ≤ now ∧ now ≤ 9223372036854775807) (hl : lease ≤ 9223372036854775807) :
    ∃ (v : Int) (M : World → Prop), Calls Tryz.prog 53 #[.pointer (some ⟨q, 0, none⟩), .int .i64 k, .int .i64 now, .int .i64 lease] w (fun e w1 => e = .returned (.int .i64 v) ∧ M w1 ∧ Turns (fun i => i < wz.heap.size) w w1) ∧
      ∀ w1, M w1 → Calls Tryz.prog 54 #[.pointer (some ⟨r, 0, none⟩), .int .i64 k, .int .i64 now, .int .i64 lease] w1 (fun e w2 => e = .returned (.int .i64 v) ∧ BX w0 w2 (m + 1) q r most grace) := by
  obtain ⟨next, wv, iv, av, ts, zs, I, Z, O, T, om, tm, h⟩ := hz0
  have hl0 := h.qs.lts
  replace h := h.bel hz
  have hzl := alike_len h.hZ
  by_cases h0 : lease < 1
  · refine ⟨1, ?_⟩
    refine h.pair hl0 (next' := next) (ts' := ts) (zs' := zs) (om' := om) (tm' := tm) (I' := I) (Z' := Z) ((beatA w q most grace next wv ts O T om tm h.qs k now lease h0).mono ?_) h.pi.up (fun w1 hr => (rqBeatA w1 r k now lease h0).mono ?_) h.hI h.hZ
    · rintro e w1 ⟨rfl, hb⟩; exact PY.low h.qs hb _
    · rintro e w2 ⟨rfl, hb⟩; exact RAddY.low hr (by rw [hb]; exact Below.refl _ _) _
  · cases hx : om k with
    | none =>
      have hf := h.pi.none_tok hx
      rw [← findT_alike h.hZ] at hf
      refine ⟨5, ?_⟩
      refine h.pair hl0 (next' := next) (ts' := ts) (zs' := zs) (om' := om) (tm' := tm) (I' := I) (Z' := Z) ((beat0 w q most grace next wv ts O T om tm h.qs k now lease h0 hx).mono ?_) h.pi.up (fun w1 hr => (rqBeat0 w1 r most grace (next - 1) iv av I Z hr k now lease h0 hf).mono ?_) h.hI h.hZ
      · rintro e w1 ⟨rfl, hb⟩; exact PY.low h.qs hb _
      · rintro e w2 ⟨rfl, hb⟩; exact RAddY.low hr (by rw [hb]; exact Below.refl _ _) _
    | some x =>
      obtain ⟨n, hn', rfl, rfl⟩ := h.pi.at_ hx
      have hf := h.pi.some_tok hn'
      rw [← findT_alike h.hZ] at hf
      obtain ⟨a1, a2, a3, a4, a5⟩ := strip_at h.hZ hn' (by omega)
      have hu := (h.pi.zf _ (List.getElem_mem hn')).un
      have hA := addI_in now lease hn (by omega)
      refine ⟨0, ?_⟩
      refine h.pair hl0 (next' := next) (ts' := ts) (zs' := zs.set n (beatOt zs[n] now lease)) (om' := updI om zs[n].token (beatOt zs[n] now lease)) (tm' := tm) (I' := I) (Z' := Z.set n (beatO (Z[n]'(by omega)) now lease)) ((beat1 w q most grace next wv ts O T om tm h.qs zs[n].token now lease zs[n] h0 hl hn hx).mono ?_) (h.pi.beat (y := beatOt zs[n] now lease) hn' rfl rfl rfl (by unfold beatOt; simp only; omega)).up (fun w1 hr => (rqBeat1 w1 r most grace (next - 1) iv av I Z hr zs[n].token now lease h0 hl hn n (by omega) hf).mono ?_) h.hI (set_alike h.hZ n (by unfold strip beatO beatOt; simp only [a1, a2, a3, a4, a5]))
      · rintro e w1 ⟨rfl, hq, ht⟩; exact ⟨rfl, wv, hq, .refl _ _, ht⟩
      · rintro e w2 ⟨rfl, hq, ht⟩; exact ⟨rfl, iv, av, hq, .refl _ _ _ _, ht⟩
theorem doneB {wz : World} (hz0 : BX w0 wz m q r most grace) (hz : Below wz.heap.size wz w) (k : Int) :
    ∃ (a : ByteArray) (b c : Int) (M : World → Prop), Calls Tryz.prog 18 #[.pointer (some ⟨q, 0, none⟩), .int .i64 k] w (fun e w1 => e = .returned (.tuple #[.string a, .int .i64 b, .int .i64 c]) ∧ M w1 ∧ Turns (fun i => i < wz.heap.size) w w1) ∧
      ∀ w1, M w1 → Calls Tryz.prog 55 #[.pointer (some ⟨r, 0, none⟩), .int .i64 k] w1 (fun e w2 => e = .returned (.tuple #[.string a, .int .i64 b, .int .i64 c]) ∧ BX w0 w2 (m + 1) q r most grace) := by
  obtain ⟨next, wv, iv, av, ts, zs, I, Z, O, T, om, tm, h⟩ := hz0
  have hl0 := h.qs.lts
  replace h := h.bel hz
  have hzl := alike_len h.hZ
  cases hx : om k with
  | none =>
    have hf := h.pi.none_tok hx
    rw [← findT_alike h.hZ] at hf
    refine ⟨⟨#[]⟩, 0, 5, ?_⟩
    refine h.pair hl0 (next' := next) (ts' := ts) (zs' := zs) (om' := om) (tm' := tm) (I' := I) (Z' := Z) ((doneE w _ k 5 (by decide) (find0 w q most grace next wv ts O T om tm h.qs k hx)).mono ?_) h.pi.up (fun w1 hr => (rqDone0 w1 r most grace (next - 1) iv av I Z hr k hf).mono ?_) h.hI h.hZ
    · rintro e w1 ⟨rfl, hb⟩; exact PY.low h.qs hb _
    · rintro e w2 ⟨rfl, hb⟩; exact RAddY.low hr (by rw [hb]; exact Below.refl _ _) _
  | some x =>
    obtain ⟨n, hn', rfl, rfl⟩ := h.pi.at_ hx
    have hf := h.pi.some_tok hn'
    rw [← findT_alike h.hZ] at hf
    obtain ⟨a1, a2, a3, a4, a5⟩ := strip_at h.hZ hn' (by omega)
    refine ⟨zs[n].tk.key, zs[n].tk.att, 0, ?_⟩
    refine h.pair hl0 (next' := next) (ts' := ts) (zs' := zs.eraseIdx n) (om' := wipI om zs[n].token) (tm' := wipS tm zs[n].tk.key) (I' := I) (Z' := Z.eraseIdx n) ((done1 w q most grace next wv ts O T om tm h.qs zs[n].token zs[n] hx).mono ?_) (h.pi.cut hn').up (fun w1 hr => (rqDone1 w1 r most grace (next - 1) iv av I Z hr zs[n].token n (by omega) hf).mono ?_) h.hI (cut_alike h.hZ n)
    · rintro e w1 ⟨rfl, hq, ht⟩; exact ⟨rfl, wv, hq, .refl _ _, ht⟩
    · rintro e w2 ⟨rfl, av', hq, hn2, ht⟩; exact ⟨by rw [a1, a2], iv, av', hq, hn2, ht⟩
theorem backB {wz : World} (hz0 : BX w0 wz m q r most grace) (hz : Below wz.heap.size wz w) (hm : m ≤ 1000) (k ready : Int) (hr' : -9223372036854775808 ≤ ready ∧ ready ≤ 9223372036854775807) :
    ∃ (a : ByteArray) (b c : Int) (M : World → Prop), Calls Tryz.prog 56 #[.pointer (some ⟨q, 0, none⟩), .int .i64 k, .int .i64 ready] w (fun e w1 => e = .returned (.tuple #[.string a, .int .i64 b, .int .i64 c]) ∧ M w1 ∧ Turns (fun i => i < wz.heap.size) w w1) ∧
      ∀ w1, M w1 → Calls Tryz.prog 57 #[.pointer (some ⟨r, 0, none⟩), .int .i64 k, .int .i64 ready] w1 (fun e w2 => e = .returned (.tuple #[.string a, .int .i64 b, .int .i64 c]) ∧ BX w0 w2 (m + 1) q r most grace) := by
  obtain ⟨next, wv, iv, av, ts, zs, I, Z, O, T, om, tm, h⟩ := hz0
  have hl0 := h.qs.lts
  replace h := h.bel hz
  have hlen := h.pi.len
  have hil : I.length = ts.length := by rw [← h.hI, List.length_map]
  have hzl := alike_len h.hZ
  cases hx : om k with
  | none =>
    have hf := h.pi.none_tok hx
    rw [← findT_alike h.hZ] at hf
    refine ⟨⟨#[]⟩, 0, 5, ?_⟩
    refine h.pair hl0 (next' := next) (ts' := ts) (zs' := zs) (om' := om) (tm' := tm) (I' := I) (Z' := Z) ((backE w _ k ready 5 (by decide) (find0 w q most grace next wv ts O T om tm h.qs k hx)).mono ?_) h.pi.up (fun w1 hr => (rqBack0 w1 r most grace (next - 1) iv av I Z hr k ready hf).mono ?_) h.hI h.hZ
    · rintro e w1 ⟨rfl, hb⟩; exact PY.low h.qs hb _
    · rintro e w2 ⟨rfl, hb⟩; exact RAddY.low hr hb _
  | some x =>
    obtain ⟨n, hn', rfl, rfl⟩ := h.pi.at_ hx
    have hf := h.pi.some_tok hn'
    rw [← findT_alike h.hZ] at hf
    obtain ⟨a1, a2, a3, a4, a5⟩ := strip_at h.hZ hn' (by omega)
    refine ⟨zs[n].tk.key, zs[n].tk.att, 0, ?_⟩
    refine h.pair hl0 (next' := next) (ts' := ts ++ [⟨zs[n].tk.key, ⟨#[]⟩, ready, zs[n].tk.att⟩]) (zs' := zs.eraseIdx n) (om' := wipI om zs[n].token) (tm' := updS tm zs[n].tk.key 0) (I' := I ++ [idT ⟨(Z[n]'(by omega)).tk.key, ⟨#[]⟩, ready, (Z[n]'(by omega)).tk.att⟩]) (Z' := Z.eraseIdx n) ((back1 w q most grace next wv ts O T om tm h.qs zs[n].token ready zs[n] hx (by omega)).mono ?_) (h.pi.back hn' hr').up (fun w1 hr => (rqBack1 w1 r most grace (next - 1) iv av I Z hr zs[n].token ready n (by omega) hf (by omega)).mono ?_) (by rw [List.map_append, h.hI, a1, a2]; rfl) (cut_alike h.hZ n)
    · rintro e w1 hy; exact hy
    · rintro e w2 ⟨rfl, hy⟩; exact ⟨by rw [a1, a2], hy⟩
theorem dropB {wz : World} (hz0 : BX w0 wz m q r most grace) (hz : Below wz.heap.size wz w) (key : ByteArray) :
    ∃ (v : Bool) (M : World → Prop), Calls Tryz.prog 15 #[.pointer (some ⟨q, 0, none⟩), .string key] w (fun e w1 => e = .returned (.bool v) ∧ M w1 ∧ Turns (fun i => i < wz.heap.size) w w1) ∧
      ∀ w1, M w1 → Calls Tryz.prog 58 #[.pointer (some ⟨r, 0, none⟩), .string key] w1 (fun e w2 => e = .returned (.bool v) ∧ BX w0 w2 (m + 1) q r most grace) := by
  obtain ⟨next, wv, iv, av, ts, zs, I, Z, O, T, om, tm, h⟩ := hz0
  have hl0 := h.qs.lts
  replace h := h.bel hz
  have hil : I.length = ts.length := by rw [← h.hI, List.length_map]
  have hzl := alike_len h.hZ
  have hI := h.hI
  cases hx : tm key with
  | none =>
    have hf := h.pi.tq.free.1 hx
    rw [Bool.or_eq_false_iff] at hf
    have h1 : findI I key = -1 := findI_key.2 (by rw [keyO_map, hI]; exact hf.1)
    have h2 : findI Z key = -1 := findI_key.2 (by rw [keyO_alike h.hZ]; exact hf.2)
    refine ⟨false, ?_⟩
    refine h.pair hl0 (next' := next) (ts' := ts) (zs' := zs) (om' := om) (tm' := tm) (I' := I) (Z' := Z) ((dropQ0 w q most grace next wv ts O T om tm h.qs key hx).mono ?_) h.pi.up (fun w1 hr => (rqDrop0 w1 r most grace (next - 1) iv av I Z hr key h1 h2).mono ?_) h.hI h.hZ
    · rintro e w1 ⟨rfl, hb⟩; exact PY.low h.qs hb _
    · rintro e w2 hy; exact hy
  | some x =>
    refine ⟨true, ?_⟩
    rcases h.pi.tq.dom key x hx with hk | hk
    · obtain ⟨t, ht, rfl⟩ := keyT_is.1 hk
      obtain ⟨n, hn, rfl⟩ := List.getElem_of_mem ht
      have hx0 := h.pi.tq.wait _ (List.getElem_mem hn)
      rw [hx0] at hx
      injection hx with hx
      subst hx
      have hat : ∀ j (hj : j < I.length) (hj' : j < ts.length), I[j].tk = ts[j] := fun j hj hj' => by simp only [← hI, List.getElem_map]
      have h1 : findI I ts[n].key = (n : Int) := findI_at (by omega) (fun j hj hjn => by rw [hat j hj (by omega)]; exact h.pi.tq.key_ne (by omega) hn (by omega)) (by rw [hat n (by omega) hn])
      refine h.pair hl0 (next' := next) (ts' := ts.eraseIdx n) (zs' := zs) (om' := om) (tm' := wipS tm ts[n].key) (I' := I.eraseIdx n) (Z' := Z) ((dropQ2 w q most grace next wv ts O T om tm h.qs ts[n].key 0 hx0 (by omega) n hn (fun j hj => ?_)).mono ?_) (h.pi.cutT hn).up (fun w1 hr => rqDropI w1 r most grace (next - 1) iv av I Z hr ts[n].key n (by omega) h1) (tk_cut hI n) h.hZ
      · unfold isKey
        by_cases e : j = n
        · subst e; simp
        · simp [e, h.pi.tq.key_ne hj hn e]
      · rintro e w1 hy; exact hy
    · obtain ⟨t, ht, rfl⟩ := keyO_is.1 hk
      obtain ⟨n, hn, rfl⟩ := List.getElem_of_mem ht
      have hx0 := h.pi.tq.out _ (List.getElem_mem hn)
      have hpos := h.pi.tq.pos _ (List.getElem_mem hn)
      have hkT : keyT ts zs[n].tk.key = false := by
        cases hb : keyT ts zs[n].tk.key with
        | false => rfl
        | true =>
          obtain ⟨s, hs, e⟩ := keyT_is.1 hb
          exact absurd e (h.pi.tq.apart hs (List.getElem_mem hn))
      have h1 : findI I zs[n].tk.key = -1 := findI_key.2 (by rw [keyO_map, hI]; exact hkT)
      have h2 := h.pi.some_key hn
      rw [← findI_alike h.hZ] at h2
      refine h.pair hl0 (next' := next) (ts' := ts) (zs' := zs.eraseIdx n) (om' := wipI om zs[n].token) (tm' := wipS tm zs[n].tk.key) (I' := I) (Z' := Z.eraseIdx n) ((dropQ1 w q most grace next wv ts O T om tm h.qs zs[n].tk.key zs[n].token hx0 hpos).mono ?_) (h.pi.cut hn).up (fun w1 hr => rqDropZ w1 r most grace (next - 1) iv av I Z hr zs[n].tk.key n (by omega) h1 h2) hI (cut_alike h.hZ n)
      rintro e w1 ⟨rfl, hq, ht⟩
      exact ⟨rfl, wv, hq, .refl _ _, ht⟩
end
end Go.Proofs.YtpbheicfplpemaaGreat

namespace Go.Proofs.YtpbheicfplpemaaGreat
open Go.RowKit

theorem qB_small {m : Nat} {most grace next : Int} {ts : List Tk} {zs : List Ot} (hm : m ≤ 1000) (hl : ts.length + zs.length ≤ m) (ht : ∀ t ∈ ts, TF m t) (hz : ∀ x ∈ zs, ZF m next x) (ho : ∀ x ∈ zs, OtOk x) (hb : 1 ≤ most ∧ most ≤ 4096) (hg : 0 ≤ grace ∧ grace ≤ 9223372036854775807) (hn : 1 ≤ next ∧ next ≤ 4611686018427387904) : (qB most grace next ts zs).length ≤ 1000000 := by
  have tx : ∀ k : ByteArray, k.size ≤ 200 → (Cd.textB k.data.toList).length ≤ 210 := fun k hk => by
    unfold Cd.textB
    have hs : k.data.toList.length = k.size := rfl
    have q2 := Cd.uB_len10 (n := k.data.toList.length) (by omega)
    rw [List.length_append, hs] at *
    omega
  have hT : ∀ t ∈ ts, (tkB t).length ≤ 500 := fun t h => by
    have f := ht t h
    have a1 := tx _ f.key
    have a2 := tx _ f.st
    have a3 := zig_len f.rd
    have a4 := uB_int (n := t.att) (by have := f.at_; omega)
    unfold tkB
    simp only [List.length_append]
    omega
  have hZ : ∀ t ∈ zs, (otB t).length ≤ 500 := fun t h => by
    have f := hz t h
    have g := ho t h
    unfold OtOk at g
    have a1 := tx _ f.key
    have a2 := tx _ f.who
    have a3 := zig_len f.un
    have a4 := uB_int (n := t.tk.att) (by have := f.at_; omega)
    have a5 := uB_int (n := t.token) (by omega)
    unfold otB
    simp only [List.length_append]
    omega
  have b1 := flat_le tkB 500 ts hT
  have b2 := flat_le otB 500 zs hZ
  have c1 := uB_int (n := most) (by omega)
  have c2 := zig_len (n := grace) (by omega)
  have c3 := uB_int (n := next) (by omega)
  have c4 := Cd.uB_len10 (n := ts.length) (by omega)
  have c5 := Cd.uB_len10 (n := zs.length) (by omega)
  unfold qB
  simp only [List.length_append]
  omega
def OpenedQ (w : World) (most grace next : Int) (ts : List Tk) (zs : List Ot) (e : Ending) (w' : World) : Prop :=
  ∃ q wv O T om tm, e = .returned (.tuple #[.pointer (some ⟨q, 0, none⟩), .bool true]) ∧ QS w' q most grace next wv ts O T om tm ∧ OutsQ om (zs.map strip) ∧ TmQ ts (zs.map strip) tm ∧ (∀ i, QSet q wv O T i → w.heap.size ≤ i) ∧ Below w.heap.size w w'
set_option maxRecDepth 20000 in
set_option maxHeartbeats 8000000 in
theorem opened_any (w : World) (q : Nat) (most grace next : Int) (ts : List Tk) (zs : List Ot) (hBy : Calls Tryz.prog 37 #[.pointer (some ⟨q, 0, none⟩)] w (Made w (qB most grace next ts zs))) (hs : (qB most grace next ts zs).length ≤ 1000000) (mN nN : Nat) (hmN : (mN : Int) = most) (hnN : (nN : Int) = next)
    (hrd : rdQ (qB most grace next ts zs) = .ok (⟨mN, grace, nN, ts, zs.map strip⟩, (qB most grace next ts zs).length)) :
    Calls Tryz.prog 16 #[.pointer (some ⟨q, 0, none⟩)] w (OpenedQ w most grace next ts zs) := by
  have HR := Lib.hid hrd
  have HBy := Lib.hid hBy
  clear hrd hBy
  go_enter Tryz.func16, Tryz.ntmps16
  go_upto_region 2 with (go_at_call 37; refine HBy.out.mono ?_; rintro e w1 ⟨vb, rfl, ho, hb⟩; obtain ⟨A, c, rfl⟩ := own_slice' ho)
  have HO := Lib.hid ho
  have HB := Lib.hid hb
  have HOp := openQ w1 A c (qB most grace next ts zs) (in_own ho rfl) hs
  unfold OpenQ at HOp
  rw [HR.out] at HOp
  simp only [hmN, hnN] at HOp
  have HOpe := Lib.hid HOp
  obtain ⟨l, hl⟩ : ∃ l, l = qB most grace next ts zs := ⟨_, rfl⟩
  rw [← hl] at HO HOpe hs
  clear ho hb HOp HR HBy
  rw [← hl]
  clear hl
  go_upto_region 3 with (go_at_call 6; refine HOpe.out.mono ?_; rintro e w2 ⟨⟨q2, wv2, O2, T2, om2, tm2, rfl, h2, ho2, ht2, hl2⟩, hb2⟩)
  have HT2 := Lib.hid h2
  have HOQ := Lib.hid ho2
  have HTQ := Lib.hid ht2
  have HL2 := Lib.hid hl2
  have HB2 := Lib.hid (below_trans' HB.out hb2)
  have HO2 := Lib.hid (own_turns HO.out (.of_below (S := fun _ => False) hb2) (fun _ _ => id))
  have hws := HB.out.size
  clear h2 hl2 hb2 ho2 ht2
  go_wp2_with fail
  go_loopw [8] (fun kv wv => ∃ (k : Nat) (xs : List Value), k ≤ l.length ∧ kv = .int .i64 (k : Int) ∧ Hid (wv.ownsRow w.heap.size 5 1 (.slice A l.length c) l.length xs) ∧ Hid (Turns (fun i => (Value.slice A l.length c).ownBlock = some i) w2 wv)) (fun kv _ => l.length - (intOf kv).toNat)
  case atStart => exact ⟨0, _, by omega, rfl, HO2, Lib.hid (Turns.refl _ _)⟩
  case round =>
    obtain ⟨k, xs, hk, rfl, hR, hT⟩ := hrel
    by_cases hkl : k < l.length
    · have hkl1 : (k : Int) < (l.length : Int) := by omega
      obtain ⟨bg, bcap, hbe, hbo, hbl, hb1, hb2⟩ := own_at hR.out (by omega)
      injection hbe with hbe1 _ hbe2
      subst hbe1 hbe2
      have hxl : k < xs.length := by have := hR.out.1; omega
      have hc := hR.out.cellAt k (by omega)
      rw [List.getElem?_eq_getElem hxl] at hc
      have hz := hR.out.frozenAt k
      have HR9 := Lib.hid ((hR.out.stored k (.int .u8 7)).1)
      have HT9 := Lib.hid (hT.out.set ⟨bg, k, none⟩ (.int .u8 7) (fun _ => rfl))
      unfold maxLen at hb2
      clear hR hT
      go_wp2_with fail
      go_roundw
      case measure => simp only [intOf]; omega
      case rel => exact ⟨k + 1, _, by omega, by go_num, HR9, HT9⟩
    · obtain rfl : k = l.length := by omega
      have hkl1 : ¬ (l.length : Int) < (l.length : Int) := by omega
      have hown := HO.out
      go_wp2_with fail
      go_ret2
      refine ⟨q2, wv2, O2, T2, om2, tm2, rfl, HT2.out.keep hT.out (fun i hi e => ?_), HOQ.out, HTQ.out, fun i hi => Nat.le_trans hws (HL2.out i hi), ?_⟩
      · have h1 := HL2.out i hi
        have h2 := (own_lt hown e).2
        omega
      · exact ((Turns.of_below (S := fun i => w.heap.size ≤ i) HB2.out).then (hT.out.mono (fun i _ e => (own_lt hown e).1))).below (Nat.le_refl _) (fun _ _ e => e)
end Go.Proofs.YtpbheicfplpemaaGreat

namespace Go.Proofs.YtpbheicfplpemaaGreat
open Go.RowKit

theorem OutsQ.s {om : Int → Option Ot} {zs : List Ot} (h : OutsQ om zs) : OutsS om zs := ⟨h.1, h.2⟩
section
variable {m : Nat} {next : Int} {ts : List Tk} {zs : List Ot} {om : Int → Option Ot} {tm : ByteArray → Option Int}
theorem PI.ok (h : PI m next ts zs om tm) (hm : m ≤ 1000) : ∀ x ∈ zs, OtOk x := fun x hx => by
  have h1 := h.tq.pos x hx
  have h2 := (h.zf x hx).tok
  have h3 := h.nx
  unfold OtOk
  omega
theorem PI.tkf (h : PI m next ts zs om tm) (hm : m ≤ 1000) : ∀ t ∈ ts, TkF t := fun t ht => by
  have f := h.tf t ht
  have := f.key
  have := f.st
  have := f.at_
  exact ⟨by omega, by omega, f.rd, by omega⟩
theorem PI.otf (h : PI m next ts zs om tm) (hm : m ≤ 1000) : ∀ x ∈ zs, OtF x := fun x hx => by
  have f := h.zf x hx
  have := f.key
  have := f.who
  have := f.at_
  exact ⟨by omega, h.ok hm x hx, by omega, f.un, by omega⟩
theorem PI.strip (h : PI m next ts zs om tm) {om' : Int → Option Ot} {tm' : ByteArray → Option Int} (ho : OutsQ om' (zs.map strip)) (ht : TmQ ts (zs.map strip) tm') : PI m next ts (zs.map strip) om' tm' :=
  ⟨ho, ht, h.tf, fun x hx => by
    obtain ⟨y, hy, rfl⟩ := List.mem_map.1 hx
    have f := h.zf y hy
    exact ⟨f.key, f.who, f.un, f.at_, f.tok⟩, by rw [List.length_map]; exact h.len, h.nx⟩
theorem strip_strip (zs : List Ot) : (zs.map strip).map strip = zs.map strip := by rw [List.map_map]; rfl
end
section
variable {w0 w : World} {m q r : Nat} {most grace : Int}
theorem toldB (h : BX w0 w m q r most grace) (hm : m ≤ 1000) :
    Calls Tryz.prog 8 #[.pointer (some ⟨q, 0, none⟩), .pointer (some ⟨r, 0, none⟩)] w fun e w' => e = .returned (.bool true) ∧ BX w0 w' m q r most grace := by
  obtain ⟨next, wv, iv, av, ts, zs, I, Z, O, T, om, tm, h⟩ := h
  have hl := h.pi.len
  have hn := h.pi.nx
  have hb := h.bnd
  refine (told_any w q most grace next wv ts O T om tm h.qs zs h.pi.outs.s (by omega) (h.pi.tkf hm) (h.pi.otf hm) (by omega) (by omega) (by omega) r iv av I Z h.rq h.hI h.hZ).mono ?_
  rintro e w' ⟨rfl, hb⟩
  exact ⟨rfl, next, wv, iv, av, ts, zs, I, Z, O, T, om, tm, h.bel hb⟩
theorem openedB (h : BX w0 w m q r most grace) (hm : m ≤ 1000) :
    Calls Tryz.prog 16 #[.pointer (some ⟨q, 0, none⟩)] w fun e w' => ∃ q', e = .returned (.tuple #[.pointer (some ⟨q', 0, none⟩), .bool true]) ∧ BX w0 w' m q' r most grace := by
  obtain ⟨next, wv, iv, av, ts, zs, I, Z, O, T, om, tm, h⟩ := h
  have hl := h.pi.len
  have hn := h.pi.nx
  have hb := h.bnd
  obtain ⟨mN, hmN⟩ : ∃ mN : Nat, (mN : Int) = most := ⟨most.toNat, by omega⟩
  obtain ⟨nN, hnN⟩ : ∃ nN : Nat, (nN : Int) = next := ⟨next.toNat, by omega⟩
  have hrd : rdQ (qB most grace next ts zs) = .ok (⟨mN, grace, nN, ts, zs.map strip⟩, (qB most grace next ts zs).length) := by
    subst hmN hnN
    refine rdQ_wrote (by omega) hb.2 (by omega) (h.pi.tkf hm) (h.pi.otf hm) (by omega) (by omega) h.pi.tq.nd ?_ (fun x hx => ?_) h.pi.outs.1 (fun x hx => ⟨(h.pi.zf x hx).tok, by have := (h.pi.zf x hx).at_; omega⟩)
    · rw [List.Nodup, List.pairwise_iff_getElem]
      intro i j hi hj hij
      rw [List.length_map] at hi hj
      rw [List.getElem_map, List.getElem_map]
      exact h.pi.outs.key_ne h.pi.tq hi hj (by omega)
    · cases hk : keyT ts x.tk.key with
      | false => rfl
      | true =>
        obtain ⟨s, hs, e⟩ := keyT_is.1 hk
        exact absurd e (h.pi.tq.apart hs hx)
  refine (opened_any w q most grace next ts zs (bytesQ w q most grace next wv ts O T om tm h.qs zs h.pi.outs.s (by omega) (h.pi.tkf hm) (h.pi.otf hm) (by omega) (by omega) (by omega)) (qB_small hm hl h.pi.tf h.pi.zf (h.pi.ok hm) hb.1 hb.2 (by omega)) mN nN hmN hnN hrd).mono ?_
  rintro e w' ⟨q', wv', O', T', om', tm', rfl, hq, ho, ht, hlo, hB⟩
  refine ⟨q', rfl, next, wv', iv, av, ts, zs.map strip, I, Z, O', T', om', tm', hq, h.pi.strip ho ht, h.rq.bel hB, h.hI, by rw [strip_strip]; exact h.hZ, fun i hi hr => ?_, fun i hi => Nat.le_trans h.B.size (hlo i hi), h.loR, h.B.trans (hB.mono h.B.size), h.bnd⟩
  have := hlo i hi
  have := h.rq.lts i hr
  omega
/-- the elder queue: it may be turned as it likes, in its own memory and new one -/
def EX (base : Nat) (S0 : Nat → Prop) (w : World) (m q : Nat) (most grace : Int) : Prop :=
  base ≤ w.heap.size ∧ ((1 ≤ most ∧ most ≤ 4096) ∧ (0 ≤ grace ∧ grace ≤ 9223372036854775807)) ∧ ∃ next wv ts zs O T om tm, QS w q most grace next wv ts O T om tm ∧ PI m next ts zs om tm ∧ ∀ i, QSet q wv O T i → S0 i ∨ base ≤ i
def EY (base : Nat) (S0 : Nat → Prop) (w : World) (m q : Nat) (most grace : Int) (w' : World) : Prop := EX base S0 w' (m + 1) q most grace ∧ Turns (fun i => S0 i ∨ base ≤ i) w w'
theorem EY.of {base : Nat} {S0 : Nat → Prop} {w' : World} {next' : Int} {wv : Value} {ts' : List Tk} {zs' : List Ot} {O T : Nat} {om' : Int → Option Ot} {tm' : ByteArray → Option Int} {v : Value} {e : Ending} (hb : base ≤ w.heap.size) (hd : (1 ≤ most ∧ most ≤ 4096) ∧ (0 ≤ grace ∧ grace ≤ 9223372036854775807)) (hs : ∀ i, QSet q wv O T i → S0 i ∨ base ≤ i) (hp : PI (m + 1) next' ts' zs' om' tm') (hy : PY w q most grace wv O T next' ts' om' tm' v e w') : e = .returned v ∧ EY base S0 w m q most grace w' := by
  obtain ⟨rfl, wv', hq, hn, ht⟩ := hy
  refine ⟨rfl, ⟨Nat.le_trans hb ht.size, hd, next', wv', ts', zs', O, T, om', tm', hq, hp, fun i hi => ?_⟩, ht.mono (fun i _ hi => hs i hi)⟩
  rcases hi with e | e | e | e
  · exact hs i (.inl e)
  · exact hs i (.inr (.inl e))
  · exact hs i (.inr (.inr (.inl e)))
  · rcases hn i e with e | e
    · exact hs i (.inr (.inr (.inr e)))
    · exact .inr (Nat.le_trans hb e)
theorem putE {base : Nat} {S0 : Nat → Prop} (h : EX base S0 w m q most grace) (hm : m ≤ 1000) (key who : ByteArray) (hk : key.size ≤ 200) (hw : who.size ≤ 200) (at_ : Int) (ha : -9223372036854775808 ≤ at_ ∧ at_ ≤ 9223372036854775807) :
    Calls Tryz.prog 13 #[.pointer (some ⟨q, 0, none⟩), .string key, .string who, .int .i64 at_] w (fun e w1 => ∃ v : Int, e = .returned (.int .i64 v) ∧ EY base S0 w m q most grace w1) := by
  obtain ⟨hb, hd, next, wv, ts, zs, O, T, om, tm, qs, pi, hs⟩ := h
  have hlen := pi.len
  cases hx : tm key with
  | some x =>
    refine (putT w q most grace next wv ts O T om tm qs key who at_ x hx).mono ?_
    rintro e w1 ⟨rfl, hl⟩
    exact ⟨6, EY.of hb hd hs pi.up (PY.low qs hl _)⟩
  | none =>
    by_cases hlt : (ts.length : Int) < most
    · refine (putQ w q most grace next wv ts O T om tm qs key who at_ hx hlt (by omega)).mono ?_
      rintro e w1 hy
      exact ⟨0, EY.of hb hd hs (pi.put (t := ⟨key, who, at_, 0⟩) ⟨hk, hw, ha, by simp⟩ hx) hy⟩
    · refine (putF w q most grace next wv ts O T om tm qs key who at_ hx hlt).mono ?_
      rintro e w1 ⟨rfl, hl⟩
      exact ⟨7, EY.of hb hd hs pi.up (PY.low qs hl _)⟩
theorem pollE {base : Nat} {S0 : Nat → Prop} (h : EX base S0 w m q most grace) (hm : m ≤ 1000) (who : ByteArray) (hw : who.size ≤ 200) (now lease : Int) (hn : -9223372036854775808 ≤ now ∧ now ≤ 9223372036854775807) (hl : 1 ≤ lease ∧ lease ≤ 9223372036854775807) :
    Calls Tryz.prog 14 #[.pointer (some ⟨q, 0, none⟩), .string who, .int .i64 now, .int .i64 lease] w (fun e w1 => ∃ (k : ByteArray) (a b c : Int), e = .returned (.tuple #[.string k, .int .i64 a, .int .i64 b, .int .i64 c]) ∧ EY base S0 w m q most grace w1) := by
  obtain ⟨hb, hd, next, wv, ts, zs, O, T, om, tm, qs, pi, hs⟩ := h
  rcases pollP qs pi hm hd.2 who now lease hn hl with ⟨_, hc⟩ | ⟨i, hi, _, _, hc⟩
  · refine hc.mono ?_
    rintro e w1 hy
    exact ⟨_, _, _, _, EY.of hb hd hs pi.up hy⟩
  · refine hc.mono ?_
    rintro e w1 hy
    exact ⟨_, _, _, _, EY.of hb hd hs (pi.poll hi hw (addI_in now lease hn (by omega))) hy⟩
theorem dropE {base : Nat} {S0 : Nat → Prop} (h : EX base S0 w m q most grace) (key : ByteArray) :
    Calls Tryz.prog 15 #[.pointer (some ⟨q, 0, none⟩), .string key] w (fun e w1 => ∃ v : Bool, e = .returned (.bool v) ∧ EY base S0 w m q most grace w1) := by
  obtain ⟨hb, hd, next, wv, ts, zs, O, T, om, tm, qs, pi, hs⟩ := h
  cases hx : tm key with
  | none =>
    refine (dropQ0 w q most grace next wv ts O T om tm qs key hx).mono ?_
    rintro e w1 ⟨rfl, hl⟩
    exact ⟨false, EY.of hb hd hs pi.up (PY.low qs hl _)⟩
  | some x =>
    rcases pi.tq.dom key x hx with hk | hk
    · obtain ⟨t, ht, rfl⟩ := keyT_is.1 hk
      obtain ⟨n, hn, rfl⟩ := List.getElem_of_mem ht
      have hx0 := pi.tq.wait _ (List.getElem_mem hn)
      refine (dropQ2 w q most grace next wv ts O T om tm qs ts[n].key 0 hx0 (by omega) n hn (fun j hj => ?_)).mono ?_
      · unfold isKey
        by_cases e : j = n
        · subst e; simp
        · simp [e, pi.tq.key_ne hj hn e]
      · rintro e w1 hy
        exact ⟨true, EY.of hb hd hs (pi.cutT hn).up hy⟩
    · obtain ⟨t, ht, rfl⟩ := keyO_is.1 hk
      obtain ⟨n, hn, rfl⟩ := List.getElem_of_mem ht
      have hx0 := pi.tq.out _ (List.getElem_mem hn)
      have hpos := pi.tq.pos _ (List.getElem_mem hn)
      refine (dropQ1 w q most grace next wv ts O T om tm qs zs[n].tk.key zs[n].token hx0 hpos).mono ?_
      rintro e w1 ⟨rfl, hq, ht⟩
      exact ⟨true, EY.of hb hd hs (pi.cut hn).up ⟨rfl, wv, hq, .refl _ _, ht⟩⟩
theorem twinB {wz : World} (hz0 : BX w0 wz m q r most grace) (hz : Below wz.heap.size wz w) :
    Calls Tryz.prog 12 #[.pointer (some ⟨q, 0, none⟩)] w fun e w1 => ∃ q' S0, e = .returned (.pointer (some ⟨q', 0, none⟩)) ∧ Below w.heap.size w w1 ∧ (∀ i, S0 i → i < wz.heap.size) ∧ EX w1.heap.size S0 w1 m q most grace ∧ ∀ w2, Turns (fun i => S0 i ∨ w1.heap.size ≤ i) w1 w2 → BX w0 w2 m q' r most grace := by
  obtain ⟨next, wv, iv, av, ts, zs, I, Z, O, T, om, tm, h⟩ := hz0
  have hl0 := h.qs.lts
  replace h := h.bel hz
  refine (twinQ w q most grace next wv ts O T om tm h.qs).mono ?_
  rintro e w1 ⟨q', wv', O', T', rfl, hq, hlo, hB⟩
  refine ⟨q', QSet q wv O T, rfl, hB, hl0, ⟨Nat.le_refl _, h.bnd, next, wv, ts, zs, O, T, om, tm, h.qs.bel hB, h.pi, fun i hi => .inl hi⟩, fun w2 k => ?_⟩
  refine ⟨next, wv', iv, av, ts, zs, I, Z, O', T', om, tm, hq.keep k (fun i hi hn => ?_), h.pi, (h.rq.bel hB).keep k (fun i hi hn => ?_), h.hI, h.hZ, fun i hi hr => ?_, fun i hi => Nat.le_trans h.B.size (hlo i hi), h.loR, ?_, h.bnd⟩
  · have h1 := hlo i hi
    have h2 := hq.lts i hi
    rcases hn with e | e
    · have := h.qs.lts i e; omega
    · omega
  · rcases hn with e | e
    · exact h.ap i e hi
    · have := h.rq.lts i hi; have := hB.size; omega
  · have := hlo i hi; have := h.rq.lts i hr; omega
  · have e1 : Turns (fun i => w0.heap.size ≤ i) w0 w1 := Turns.of_below (h.B.trans (hB.mono h.B.size))
    have hs := (h.B.trans (hB.mono h.B.size)).size
    exact (e1.then (k.mono (fun i _ e => e.elim (fun e => h.loQ i e) (fun e => Nat.le_trans hs e)))).below (Nat.le_refl _) (fun _ _ e => e)
end
end Go.Proofs.YtpbheicfplpemaaGreat
