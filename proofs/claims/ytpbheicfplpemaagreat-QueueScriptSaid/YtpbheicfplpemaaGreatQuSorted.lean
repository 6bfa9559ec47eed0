/- queue: sorted: those that are out, by their tokens. -/
import Derived.Test.YtpbheicfplpemaaGreatQuSort
namespace Go.Proofs.YtpbheicfplpemaaGreat
open Go.RowKit Go.Sort Go.Shelf

theorem nodup_sub_len {α : Type} [DecidableEq α] : ∀ (xs ys : List α), xs.Nodup → (∀ x ∈ xs, x ∈ ys) → xs.length ≤ ys.length
  | [], _, _, _ => Nat.zero_le _
  | x :: xs, ys, hn, hs => by
    have hx := hs x List.mem_cons_self
    have h1 := nodup_sub_len xs (ys.erase x) (List.nodup_cons.1 hn).2 (fun y hy => by
      have hne : y ≠ x := by rintro rfl; exact (List.nodup_cons.1 hn).1 hy
      exact (List.mem_erase_of_ne hne).2 (hs y (List.mem_cons_of_mem _ hy)))
    rw [List.length_erase_of_mem hx] at h1
    have := List.length_pos_of_mem hx
    rw [List.length_cons]
    omega
theorem ris_uniq : ∀ (xs ys : List Ot), Ris xs → Ris ys → (∀ x, x ∈ xs ↔ x ∈ ys) → xs = ys
  | [], [], _, _, _ => rfl
  | [], y :: ys, _, _, h => absurd ((h y).2 List.mem_cons_self) (by simp)
  | x :: xs, [], _, _, h => absurd ((h x).1 List.mem_cons_self) (by simp)
  | x :: xs, y :: ys, h1, h2, h => by
    have a := List.pairwise_cons.1 h1
    have b := List.pairwise_cons.1 h2
    have e : x = y := by
      rcases List.mem_cons.1 ((h x).1 List.mem_cons_self) with e | hx
      · exact e
      · rcases List.mem_cons.1 ((h y).2 List.mem_cons_self) with e | hy
        · exact e.symm
        · have := b.1 x hx
          have := a.1 y hy
          omega
    subst e
    congr 1
    refine ris_uniq xs ys a.2 b.2 fun z => ?_
    constructor
    · intro hz
      rcases List.mem_cons.1 ((h z).1 (List.mem_cons_of_mem _ hz)) with e | h3
      · have := a.1 z hz; rw [e] at this; omega
      · exact h3
    · intro hz
      rcases List.mem_cons.1 ((h z).2 (List.mem_cons_of_mem _ hz)) with e | h3
      · have := b.1 z hz; rw [e] at this; omega
      · exact h3
theorem OutsS.uniq {om : Int → Option Ot} {xs ys : List Ot} (h1 : OutsS om xs) (h2 : OutsS om ys) : xs = ys :=
  ris_uniq xs ys h1.ris h2.ris fun x => by
    constructor
    · intro h; exact ((h2.mem x.token x).1 ((h1.mem x.token x).2 ⟨h, rfl⟩)).1
    · intro h; exact ((h1.mem x.token x).1 ((h2.mem x.token x).2 ⟨h, rfl⟩)).1
theorem OutsS.tok {om : Int → Option Ot} {zs : List Ot} (h : OutsS om zs) (ho : ∀ x ∈ zs, OtOk x) : TokOk om := fun k x hk => ⟨((h.mem k x).1 hk).2, ho x ((h.mem k x).1 hk).1⟩
theorem map_len {om : Int → Option Ot} {zs : List Ot} {w : World} {O N : Nat} (hm : MapIs kInt w O (oV om) N) (h : OutsS om zs) : N ≤ zs.length := by
  obtain ⟨es, clock, hb, S, hn, hk, hm⟩ := hm
  have hkey : ∀ v ∈ es.toList.map (·.key), v ∈ zs.map fun x => kInt x.token := by
    intro v hv
    obtain ⟨x, hx, rfl⟩ := List.mem_map.1 hv
    obtain ⟨k, hxk⟩ := hk x hx
    obtain ⟨i, hi⟩ := List.getElem?_of_mem hx
    rw [Array.getElem?_toList] at hi
    have h1 := (hm k x.val).2 ⟨i, x, hi, hxk, rfl⟩
    obtain ⟨o, ho, _⟩ := oV_some h1
    obtain ⟨h2, h3⟩ := (h.mem k o).1 ho
    exact List.mem_map.2 ⟨o, h2, by rw [h3]; exact hxk.symm⟩
  have hkey2 : ∀ k ∈ (es.toList.map (·.key)).map (fun v => match v with | .int _ i => i | _ => 0), k ∈ zs.map (·.token) := by
    intro k hk'
    obtain ⟨v, hv, rfl⟩ := List.mem_map.1 hk'
    obtain ⟨x, hx, rfl⟩ := List.mem_map.1 (hkey v hv)
    exact List.mem_map.2 ⟨x, hx, rfl⟩
  have hnd : ((es.toList.map (·.key)).map (fun v => match v with | .int _ i => i | _ => 0)).Nodup := by
    have h2 := S.2.2
    have : ∀ l : List Value, l.Nodup → (∀ v ∈ l, ∃ x : Ot, v = kInt x.token) → (l.map (fun v => match v with | .int _ i => i | _ => 0)).Nodup := by
      intro l
      induction l with
      | nil => intro _ _; simp
      | cons v l ih =>
        intro h1 h2
        rw [List.map_cons, List.nodup_cons]
        refine ⟨fun hmem => ?_, ih (List.nodup_cons.1 h1).2 (fun u hu => h2 u (List.mem_cons_of_mem _ hu))⟩
        obtain ⟨u, hu, e⟩ := List.mem_map.1 hmem
        obtain ⟨x, rfl⟩ := h2 v List.mem_cons_self
        obtain ⟨y, rfl⟩ := h2 u (List.mem_cons_of_mem _ hu)
        unfold kInt at e
        simp only at e
        refine (List.nodup_cons.1 h1).1 ?_
        unfold kInt at hu ⊢
        rw [← e]
        exact hu
    refine this _ h2 fun v hv => ?_
    obtain ⟨x, hx, rfl⟩ := List.mem_map.1 (hkey v hv)
    exact ⟨x, rfl⟩
  have := nodup_sub_len _ _ hnd hkey2
  simp only [List.length_map, Array.length_toList] at this
  omega

set_option maxRecDepth 20000 in
theorem sortedFuncO (w : World) (Bs b N : Nat) (om : Int → Option Ot) (zs : List Ot) (hz : OutsS om zs) (ho : ∀ x ∈ zs, OtOk x) (hle : zs.length ≤ 1000000) (hBs : Bs < w.heap.size) (hc : w.cell? ⟨Bs, 0, none⟩ = some (.map (some b))) (hI : MapIs kInt w b (oV om) N) :
    Calls Tryz.prog 97 #[.func (.func 113) #[] #[.pointer (some ⟨Bs, 0, none⟩)], .func (.func 99) #[] #[]] w fun e W' => ∃ v, e = .returned v ∧ W'.ownsRow w.heap.size 88 7 v zs.length (zs.flatMap otC) ∧ Below w.heap.size w W' := by
  have hq := Lib.hid (collect_any w Bs b N om (Nat.le_trans (map_len hI hz) hle) hBs hc hI)
  have HT := Lib.hid (hz.tok ho)
  have HZ := Lib.hid hz
  clear hc hI hz
  go_enter Tryz.func97, Tryz.ntmps97
  go_wp2_with fail
  refine hq.out.mono ?_
  rintro e w1 ⟨v, ys, rfl, hys, hown, hb⟩
  have HB := Lib.hid hb
  have HO := Lib.hid hown
  have HY := Lib.hid hys
  rcases hown.2 with ⟨rfl, h0⟩ | ⟨g1, cap1, cur, rfl, hg1, hgb, h1, h2, h3, h4⟩
  · have hx : ys = [] := List.eq_nil_of_length_eq_zero h0
    subst hx
    have hzn : zs = [] := by
      have hs : OutsS om [] := ⟨List.Pairwise.nil, (hys.toks HT.out).2⟩
      exact HZ.out.uniq hs
    subst hzn
    clear hown hb h0 hys
    go_wp2_with fail
    refine (sort0 _ _).mono ?_
    rintro e w' ⟨rfl, rfl⟩
    go_wp2_with fail
    go_ret
    exact ⟨_, rfl, HO.out, HB.out⟩
  · have hgl := (Array.getElem?_eq_some_iff.1 hgb).1
    have hyl : ys.length ≤ 1000000 := by
      have h5 := (hys.toks HT.out).1
      have h6 := nodup_sub_len (ys.map (·.token)) (zs.map (·.token)) h5 (fun t ht => by
        obtain ⟨x, hx, rfl⟩ := List.mem_map.1 ht
        exact List.mem_map.2 ⟨x, ((HZ.out.mem x.token x).1 (((hys.toks HT.out).2 x.token x).2 ⟨hx, rfl⟩)).1, rfl⟩)
      simp only [List.length_map] at h6
      omega
    have hown2 := hown
    rw [← flat_pmap ys (hys.ok HT.out)] at hown2
    have hs := Lib.hid (sortO_any w1 w.heap.size g1 cap1 ys.length _ hown2 (by simp) hgl (by simpa using hyl))
    clear hown hb hgb h3 h4 hown2
    go_wp2_with fail
    refine hs.out.mono ?_
    rintro e w2 ⟨rfl, us, hp, hsd, ho2, hgr⟩
    have hlen : us.length = ys.length := by rw [hp.length_eq]; simp
    have hz2 : zs = us.map (·.1) := HZ.out.uniq (outs_of HY.out HT.out hp (by rw [hlen]; exact hsd))
    rw [flat_val] at ho2
    rw [show ys.length = (us.map (·.1)).length from by rw [List.length_map]; exact hlen.symm, ← hz2] at ho2
    have HO2 := Lib.hid ho2
    have HB2 := Lib.hid (HB.out.grown hgr HB.out.size (fun r e => by cases e; exact hg1))
    have hyz : ys.length = zs.length := by rw [hz2, List.length_map]; exact hlen.symm
    clear hp hsd ho2 hgr hz2
    rw [hyz]
    go_wp2_with fail
    go_ret
    exact ⟨_, rfl, HO2.out, HB2.out⟩
set_option maxRecDepth 20000 in
theorem valsO (M : Option Nat) (w : World) : Calls Tryz.prog 98 #[.map M] w fun e w' => e = .returned (.func (.func 113) #[] #[.pointer (some ⟨w.heap.size, 0, none⟩)]) ∧ w' = w.alloc (.cells #[.map M] 78) := by
  go_enter Tryz.func98, Tryz.ntmps98
  go_wp2_with fail
  go_ret
  exact ⟨rfl, rfl⟩
set_option maxRecDepth 20000 in
theorem sortedQ (w : World) (q : Nat) (most grace next : Int) (wv : Value) (ts : List Tk) (O T : Nat) (om : Int → Option Ot) (tm : ByteArray → Option Int) (h : QS w q most grace next wv ts O T om tm) (zs : List Ot) (hz : OutsS om zs) (ho : ∀ x ∈ zs, OtOk x) (hle : zs.length ≤ 1000000) :
    Calls Tryz.prog 72 #[.pointer (some ⟨q, 0, none⟩)] w fun e W' => ∃ v, e = .returned v ∧ W'.ownsRow w.heap.size 88 7 v zs.length (zs.flatMap otC) ∧ Below w.heap.size w W' := by
  obtain ⟨_, _, c2, _, c4, _⟩ := h.cells
  have hM := Lib.hid (made1 w q next h.pos c2)
  have hql := h.blk.lt
  obtain ⟨N, hN⟩ := h.outs
  have hb0 := Below.new w (.cells #[.map (some O)] 78)
  have hc := (Blk.new w 78 [.map (some O)]).cell 0
  simp only [List.getElem?_cons_zero] at hc
  have HS := Lib.hid (sortedFuncO (w.alloc (.cells #[.map (some O)] 78)) w.heap.size O N om zs hz ho hle (by simp) hc (hN.below hb0))
  have HB0 := Lib.hid hb0
  clear h hN hb0 hc hz
  go_enter Tryz.func72, Tryz.ntmps72
  go_wp2_with (first | (go_at_call 39; refine hM.out.mono ?_; rintro e w' ⟨rfl, rfl⟩) | (go_at_call 98; refine (valsO _ _).mono ?_; rintro e w' ⟨rfl, rfl⟩))
  refine HS.out.mono ?_
  rintro e w2 ⟨v2, rfl, hown, hb⟩
  obtain ⟨A2, c2', rfl⟩ := own_slice' hown
  have HO := Lib.hid (ownsRow_base' hown HB0.out.size)
  have HB := Lib.hid (HB0.out.trans (hb.mono HB0.out.size))
  clear hown hb
  go_wp2_with fail
  go_ret
  exact ⟨_, rfl, HO.out, HB.out⟩
end Go.Proofs.YtpbheicfplpemaaGreat
