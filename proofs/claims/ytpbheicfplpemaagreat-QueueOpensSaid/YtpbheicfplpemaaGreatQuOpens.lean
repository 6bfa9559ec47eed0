/- QueueOpens: what bytes say as a queue is the document's. -/
import Derived.Test.YtpbheicfplpemaaGreatRqTold
import Derived.Test.YtpbheicfplpemaaGreatRqOpen
import Derived.Test.YtpbheicfplpemaaGreatQuOpenF
import Derived.Test.YtpbheicfplpemaaGreatQaA
import Derived.Test.YtpbheicfplpemaaGreatCodeCame
namespace Go.Proofs.YtpbheicfplpemaaGreat
open Go.RowKit

theorem rdWs_fit {l : List UInt8} (hl : l.length ≤ 20000) : ∀ (n a : Nat) (ts ts' : List Tk) (t : Nat), a ≤ l.length → (∀ x ∈ ts, TkF x) → rdWs l n a ts = .ok (ts', t) → (∀ x ∈ ts', TkF x) ∧ t ≤ l.length
  | 0, a, ts, ts', t, ha, hf, h => by
    unfold rdWs at h
    injection h with h
    injection h with h1 h2
    subst h1 h2
    exact ⟨hf, ha⟩
  | n + 1, a, ts, ts', t, ha, hf, h => by
    unfold rdWs at h
    cases h1 : rdTk l a with
    | error e => rw [h1] at h; cases h
    | ok p =>
      obtain ⟨x, t1⟩ := p
      rw [h1] at h
      simp only at h
      split at h
      · cases h
      · refine rdWs_fit hl n t1 _ ts' t (rdTk_le ha h1) (fun y hy => ?_) h
        rcases List.mem_append.1 hy with hy | hy
        · exact hf y hy
        · simp at hy; subst hy; exact rdTk_fit ha hl h1
theorem rdOs_fit {l : List UInt8} {next : Int} {ts : List Tk} (hl : l.length ≤ 20000) : ∀ (n a : Nat) (last : Int) (zs zs' : List Ot) (t : Nat), a ≤ l.length → 0 ≤ last → (∀ x ∈ zs, OtF x) → rdOs l next ts n a last zs = .ok (zs', t) → (∀ x ∈ zs', OtF x) ∧ zs'.length = zs.length + n
  | 0, a, last, zs, zs', t, ha, h0, hf, h => by
    unfold rdOs at h
    injection h with h
    injection h with h1 h2
    subst h1 h2
    exact ⟨hf, rfl⟩
  | n + 1, a, last, zs, zs', t, ha, h0, hf, h => by
    unfold rdOs at h
    cases h1 : rdOt l a with
    | error e => rw [h1] at h; cases h
    | ok p =>
      obtain ⟨x, t1⟩ := p
      rw [h1] at h
      simp only at h
      split at h
      · cases h
      · split at h
        · cases h
        · rename_i hb
          have hlt : last < x.token := by
            unfold badO at hb
            simp only [Bool.not_eq_true, Bool.or_eq_false_iff, decide_eq_false_iff_not] at hb
            omega
          have := rdOs_fit hl n t1 x.token (zs ++ [x]) zs' t (rdOt_le ha h1) (by omega) (fun y hy => by
            rcases List.mem_append.1 hy with hy | hy
            · exact hf y hy
            · simp at hy; subst hy; exact rdOt_fit ha hl h1 (by omega)) h
          exact ⟨this.1, by rw [this.2]; simp; omega⟩
theorem rdWs_er {l : List UInt8} : ∀ (n a : Nat) (ts : List Tk) (p en : Nat), rdWs l n a ts = .error (p, en) → en ≠ 0
  | 0, a, ts, p, en, h => by unfold rdWs at h; cases h
  | n + 1, a, ts, p, en, h => by
    unfold rdWs at h
    cases h1 : rdTk l a with
    | error e => rw [h1] at h; injection h with h; subst h; exact rdTk_er h1
    | ok q =>
      obtain ⟨x, t1⟩ := q
      rw [h1] at h
      simp only at h
      split at h
      · injection h with h; injection h with _ h; omega
      · exact rdWs_er n t1 _ p en h
theorem rdWs_at {l : List UInt8} : ∀ (n a : Nat) (ts ts' : List Tk) (t : Nat), a ≤ l.length → rdWs l n a ts = .ok (ts', t) → t ≤ l.length
  | 0, a, ts, ts', t, ha, h => by unfold rdWs at h; injection h with h; injection h with _ h2; omega
  | n + 1, a, ts, ts', t, ha, h => by
    unfold rdWs at h
    cases h1 : rdTk l a with
    | error e => rw [h1] at h; cases h
    | ok p =>
      obtain ⟨x, t1⟩ := p
      rw [h1] at h
      simp only at h
      split at h
      · cases h
      · exact rdWs_at n t1 _ ts' t (rdTk_le ha h1) h
theorem rdOs_er {l : List UInt8} {next : Int} {ts : List Tk} : ∀ (n a : Nat) (last : Int) (zs : List Ot) (p en : Nat), rdOs l next ts n a last zs = .error (p, en) → en ≠ 0
  | 0, a, last, zs, p, en, h => by unfold rdOs at h; cases h
  | n + 1, a, last, zs, p, en, h => by
    unfold rdOs at h
    cases h1 : rdOt l a with
    | error e => rw [h1] at h; injection h with h; subst h; exact rdOt_er h1
    | ok q =>
      obtain ⟨x, t1⟩ := q
      rw [h1] at h
      simp only at h
      split at h
      · injection h with h; injection h with _ h; omega
      · split at h
        · injection h with h; injection h with _ h; omega
        · exact rdOs_er n t1 _ _ p en h
theorem rdHd_in {l : List UInt8} {m x t : Nat} {g : Int} (hr : rdHd l = .ok ((m, g, x), t)) : (1 ≤ m ∧ m ≤ 4096) ∧ (0 ≤ g ∧ g ≤ 9223372036854775807) ∧ (0 < x ∧ x ≤ 4611686018427387904) := by
  unfold rdHd at hr
  cases h1 : rdNum l 0 with
  | error e => rw [h1] at hr; cases hr
  | ok p =>
    obtain ⟨m2, t1⟩ := p
    rw [h1] at hr
    simp only at hr
    split at hr
    · cases hr
    · cases h2 : Cd.rdInt l t1 with
      | error e => rw [h2] at hr; cases hr
      | ok p =>
        obtain ⟨g2, t2⟩ := p
        rw [h2] at hr
        simp only at hr
        split at hr
        · cases hr
        · cases h3 : rdNum l t2 with
          | error e => rw [h3] at hr; cases hr
          | ok p =>
            obtain ⟨x2, t3⟩ := p
            rw [h3] at hr
            simp only at hr
            split at hr
            · cases hr
            · injection hr with hr; injection hr with hr _; injection hr with e1 hr; injection hr with e2 e3
              subst e1 e2 e3
              have := rdInt_in h2
              have := (rdNum_le h3).2
              omega
/-- what was read as a queue can be told -/
structure Told (x : Qp) : Prop where
  m : 1 ≤ x.most ∧ x.most ≤ 4096
  g : 0 ≤ x.grace ∧ x.grace ≤ 9223372036854775807
  n : 0 < x.next ∧ x.next ≤ 4611686018427387904
  ts : ∀ t ∈ x.ts, TkF t
  zs : ∀ y ∈ x.zs, OtF y
  few : x.zs.length ≤ 65536
theorem rdQ_split {l : List UInt8} : (∃ p en, rdQ l = .error (p, en) ∧ en ≠ 0) ∨ ∃ x n, rdQ l = .ok (x, n) ∧ (l.length ≤ 20000 → Told x) := by
  unfold rdQ
  rcases h1 : rdHd l with ⟨p, en⟩ | ⟨⟨m, g, x⟩, t⟩
  · exact .inl ⟨p, en, rfl, rdHd_er h1⟩
  simp only
  unfold rdQw
  have hi := rdHd_in h1
  have htl := rdHd_le h1
  rcases h2 : rdCnt l t with ⟨p, en⟩ | ⟨n, t4⟩
  · exact .inl ⟨p, en, rfl, (rdCnt_er htl h2).2⟩
  simp only
  have ht4 := (rdCnt_le h2).1
  rcases h3 : rdWs l n t4 [] with ⟨p, en⟩ | ⟨ts, t5⟩
  · exact .inl ⟨p, en, rfl, rdWs_er _ _ _ _ _ h3⟩
  simp only
  unfold rdQo
  simp only
  rcases h4 : rdCnt l t5 with ⟨p, en⟩ | ⟨k, t6⟩
  · by_cases hl5 : t5 ≤ l.length
    · exact .inl ⟨p, en, rfl, (rdCnt_er hl5 h4).2⟩
    · exact absurd (rdWs_at _ _ _ _ _ ht4 h3) hl5
  simp only
  have ht6 := rdCnt_le h4
  rcases h5 : rdOs l (x : Nat) ts k t6 0 [] with ⟨p, en⟩ | ⟨zs, t7⟩
  · exact .inl ⟨p, en, rfl, rdOs_er _ _ _ _ _ _ h5⟩
  simp only
  unfold rdEnd
  simp only
  split
  · exact .inl ⟨_, _, rfl, by decide⟩
  · refine .inr ⟨_, _, rfl, fun hl => ?_⟩
    have f1 := rdWs_fit hl n t4 [] ts t5 ht4 (by simp) h3
    have f2 := rdOs_fit hl k t6 0 [] zs t7 ht6.1 (by omega) (by simp) h5
    exact ⟨hi.1, hi.2.1, hi.2.2, f1.1, f2.1, by rw [f2.2]; simp; exact ht6.2⟩
theorem opens_long (a : Option Addr) (len cap : Nat) (w : World) (hl : 20000 < (len : Int)) : Calls Tryz.prog 3 #[.slice a len cap] w fun e w' => e = .returned (.bool true) ∧ Below w.heap.size w w' := by
  go_enter Tryz.func3, Tryz.ntmps3
  go_wp2_with fail
  refine (awake_any w).mono ?_
  rintro e w1 ⟨rfl, hb⟩
  have HB := Lib.hid hb
  clear hb
  go_wp2_with fail
  go_ret
  exact ⟨rfl, HB.out⟩
set_option maxRecDepth 20000 in
set_option maxHeartbeats 4000000 in
theorem opens_short (A : Option Addr) (cap : Nat) (l : List UInt8) (w : World) (h : In w A l.length cap l) (hl : ¬ 20000 < (l.length : Int)) : Calls Tryz.prog 3 #[.slice A l.length cap] w fun e w' => e = .returned (.bool true) ∧ Below w.heap.size w w' := by
  have hsz : l.length ≤ 1000000 := by omega
  have h20 : l.length ≤ 20000 := by omega
  have II := Lib.hid h
  clear h
  go_enter Tryz.func3, Tryz.ntmps3
  go_wp2_with fail
  refine (awake_any w).mono ?_
  rintro e w1 ⟨rfl, hb⟩
  have II := Lib.hid (II.out.below hb)
  have HB := Lib.hid hb
  clear hb
  have H1 := Lib.hid (openQ w1 A cap l II.out hsz)
  go_wp2_with fail
  refine H1.out.mono ?_
  rintro e w2 ho
  have hb := ho.2
  have II := Lib.hid (II.out.below hb)
  have HB := Lib.hid (below_trans' HB.out hb)
  have H2 := Lib.hid (rqOpen w2 A cap l II.out hsz)
  clear hb H1
  rcases rdQ_split (l := l) with ⟨p, en, hr, hne⟩ | ⟨x, n, hr, hto⟩
  · have hen : ((en : Int) != 0) = true := by rw [bne_iff_ne]; omega
    have HRR := Lib.hid hr
    unfold OpenQ at ho
    rw [hr] at ho
    obtain ⟨rfl, _⟩ := ho
    clear hr hne
    go_wp2_with fail
    refine H2.out.mono ?_
    rintro e w3 ho
    unfold ROpenQ at ho
    rw [HRR.out] at ho
    obtain ⟨rfl, hb⟩ := ho
    have HB := Lib.hid (below_trans' HB.out hb)
    clear hb
    go_wp2_with fail
    go_ret
    exact ⟨rfl, HB.out⟩
  · have HTo := Lib.hid (hto h20)
    have HRR := Lib.hid hr
    unfold OpenQ at ho
    rw [hr] at ho
    obtain ⟨⟨q, wv, O, T, om, tm, rfl, hq, hoq, _, _⟩, _⟩ := ho
    have HQ := Lib.hid hq
    have HO := Lib.hid hoq
    clear hr hq hoq hto
    go_wp2_with fail
    refine H2.out.mono ?_
    rintro e w3 ho
    unfold ROpenQ at ho
    rw [HRR.out] at ho
    obtain ⟨⟨r, iv, av, rfl, hrq, _⟩, hb⟩ := ho
    have HB := Lib.hid (below_trans' HB.out hb)
    have f := HTo.out
    have HTd := Lib.hid (told_any w3 q (x.most : Int) x.grace (x.next : Int) wv x.ts O T om tm (HQ.out.bel hb) x.zs ⟨HO.out.1, HO.out.2⟩ (by have := f.few; omega) f.ts f.zs (by have := f.m; omega) (by have := f.g; omega) (by have := f.n; omega) r iv av (x.ts.map idT) x.zs hrq (by rw [List.map_map]; exact List.map_id _) rfl)
    clear hb hrq f
    go_wp2_with fail
    refine HTd.out.mono ?_
    rintro e w4 ⟨rfl, hb⟩
    have HB := Lib.hid (below_trans' HB.out hb)
    clear hb
    go_wp2_with fail
    go_ret
    exact ⟨rfl, HB.out⟩
theorem opens_of (a : Option Addr) (len cap : Nat) (zs : List Int) (w : World) (h : Came w a len cap zs) :
    Calls Tryz.prog 3 #[.slice a len cap] w fun e w' => e = .returned (.bool true) ∧ Below w.heap.size w w' := by
  by_cases hl : 20000 < (len : Int)
  · exact opens_long a len cap w hl
  · obtain ⟨l, hin⟩ := came_in h
    obtain rfl := hin.bs.len
    exact opens_short a cap l w hin (by omega)
end Go.Proofs.YtpbheicfplpemaaGreat
