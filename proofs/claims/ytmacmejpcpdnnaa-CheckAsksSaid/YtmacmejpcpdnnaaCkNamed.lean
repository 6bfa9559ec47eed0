/- check: the document's 'named' (insertion in order). -/
import Derived.Test.YtmacmejpcpdnnaaCkAsks
import Derived.Deep.Upon
namespace Go.Proofs.Ytmacmejpcpdnnaa
open Go.RowKit Go.Deep

theorem own_lower {w : World} {B B' n : Nat} {e : TypeId} {size : Nat} {v : Value} {xs : List Value} (h : w.ownsRow B e size v n xs) (hb : B' ≤ B) : w.ownsRow B' e size v n xs := by
  obtain ⟨h1, h2⟩ := h
  refine ⟨h1, ?_⟩
  rcases h2 with h2 | ⟨g, cap, cur, rfl, h3, h4⟩
  · exact .inl h2
  · exact .inr ⟨g, cap, cur, rfl, Nat.le_trans hb h3, h4⟩
set_option maxRecDepth 20000 in
theorem strs_run (w : World) (base n : Nat) (v : Value) (xs : List Value) (hown : w.ownsRow base 9 1 v n xs) (hb : base ≤ w.heap.size) (A : Option Addr) (k c : Nat) (ss : List (List UInt8)) (hl : ss.length = k)
    (hc : ∀ i (h : i < ss.length), ∃ b o, A = some ⟨b, o, none⟩ ∧ w.cell? ⟨b, o + i, none⟩ = some (encStr ss[i])) (hn : n + k ≤ 100000) (ty : TypeId) :
    ∃ v' w', (Builtin.append_ #[31, 31] ty #[v, .slice A k c]).run Try.prog w = .ok v' w' ∧ w'.ownsRow base 9 1 v' (n + k) (xs ++ ss.map encStr) ∧ w.grownBy w' v.ownBlock := by
  obtain ⟨i0, hi, hz0, hz1, hz2⟩ := info_parts info_str
  subst hl
  by_cases h0 : ss.length = 0
  · have hs0 : ss = [] := List.eq_nil_of_length_eq_zero h0
    subst hs0
    have hsrc : Src Try.prog i0.size 31 (.slice A 0 c) 0 [] w := by
      cases A with
      | none => exact Src.ofNil w Try.underlying31 c
      | some a => exact Src.ofSlice w Try.underlying31 a 0 c [] (by simp) (by simp) (by simp)
    have hg : w.grownBy w v.ownBlock := ⟨rfl, rfl, rfl, Nat.le_refl _, fun _ _ _ => rfl⟩
    rcases hown.2 with ⟨rfl, rfl⟩ | ⟨g, cap, cur, rfl, _, _, h5, _⟩
    · exact ⟨_, w, run_append_nothing w 31 31 ty 9 i0 Try.underlying31 hi none 0 0 (Nat.le_refl _) _ hsrc, by simpa using hown, hg⟩
    · exact ⟨_, w, run_append_nothing w 31 31 ty 9 i0 Try.underlying31 hi _ n cap h5 _ hsrc, by simpa using hown, hg⟩
  · obtain ⟨b, o, ea, _⟩ := hc 0 (by omega)
    subst ea
    obtain ⟨v', w', hrun, r1, r2, _, _⟩ := run_append_own_at (P := Try.prog) (w := w) base 31 ty 9 i0 (.string ⟨#[]⟩) 1 16 Try.underlying31 hi hz0 hz1 hz2 rfl (by decide) v n xs hown ⟨b, o, none⟩ ss.length c (ss.map encStr) (by simp) (fun j u hu => by
      rw [List.getElem?_map] at hu
      obtain ⟨s, hs, rfl⟩ := Option.map_eq_some_iff.1 hu
      obtain ⟨hj, rfl⟩ := List.getElem?_eq_some_iff.1 hs
      obtain ⟨b', o', e', hx⟩ := hc j hj
      injection e' with e'
      injection e' with e1 e2 _
      subst e1 e2
      rw [add_at rfl]
      exact hx) (fun u hu => by
        obtain ⟨s, _, rfl⟩ := List.mem_map.1 hu
        rfl) (by unfold maxLen; omega) (by omega) hb
    exact ⟨v', w', hrun, r1, r2⟩
theorem wpl_strs {ops : Array Oper} {rest : List Oper} {o : Oper} {a : Act} {Q : Exit → Act → World → Prop} (w : World) (hgd : o.guard = none) (s x : Operand)
    (ho : o.op = .call { callee := .builtin .append, args := #[s, x], argTypes := #[31, 31] }) (base n m : Nat) (v : Value) (hs : a.eval s = v) (xs : List Value) (hown : w.ownsRow base 9 1 v n xs) (hb : base ≤ w.heap.size)
    (A : Option Addr) (k c : Nat) (hx : a.eval x = .slice A k c) (ss : List (List UInt8)) (hl : ss.length = k) (hc : ∀ i (h : i < ss.length), ∃ b o, A = some ⟨b, o, none⟩ ∧ w.cell? ⟨b, o + i, none⟩ = some (encStr ss[i])) (hm : m = n + k) (hn : m ≤ 100000)
    (h : ∀ v' w', w'.ownsRow base 9 1 v' m (xs ++ ss.map encStr) → Below base w w' → wpList Try.prog ops Q rest (a.put o.dst v') w') :
    wpList Try.prog ops Q (o :: rest) a w := by
  refine wpList_plain hgd fun K hK => ?_
  subst hm
  obtain ⟨v', w', hr, h2, h3⟩ := strs_run w base n v xs hown hb A k c ss hl hc hn o.type
  have h4 : Below base w w' := (Below.refl _ _).grown h3 hb (fun r e => (row_lo hown e).1)
  unfold Oper.wp execOp
  simp only [ho, resolve, invoke, builtin, Sem.run_bind, Sem.run_pure, Result.andThen_ok, List.map_toArray, List.map_cons, List.map_nil, hs, hx, hr]
  exact hK _ _ (h v' w' h2 h4)
theorem own_shape {w : World} {B n : Nat} {v : Value} {xs : List Value} (h : w.ownsRow B 9 1 v n xs) : ∃ A c, v = .slice A n c ∧ True ∧ n ≤ c ∧ c ≤ maxLen ∧ True := by
  rcases h.2 with ⟨rfl, rfl⟩ | ⟨g, cap, cur, rfl, _, _, h1, h2, _⟩
  · exact ⟨none, 0, rfl, trivial, Nat.le_refl _, by unfold maxLen; omega, trivial⟩
  · exact ⟨_, _, rfl, trivial, h1, h2, trivial⟩
theorem own_nil_or {w : World} {B n m c : Nat} {A : Option Addr} {xs : List Value} (h : w.ownsRow B 9 1 (.slice A m c) n xs) : (A = none ∧ m = 0 ∧ c = 0) ∨ ∃ g, A = some ⟨g, 0, none⟩ := by
  rcases h.2 with ⟨e, _⟩ | ⟨g, cap, cur, e, _⟩
  · injection e with e1 e2 e3
    exact .inl ⟨e1, e2, e3⟩
  · injection e with e1 _ _
    exact .inr ⟨g, e1⟩
theorem own_strs {w : World} {B m c g : Nat} {L : List (List UInt8)} (h : w.ownsRow B 9 1 (.slice (some ⟨g, 0, none⟩) m c) m (L.map encStr)) (i : Nat) (hi : i < L.length) : w.cell? ⟨g, i, none⟩ = some (encStr L[i]) ∧ g < w.heap.size := by
  have hl : L.length = m := by simpa using h.1
  have := h.cellAt i (by omega)
  exact ⟨by rw [this]; simp [hi], (row_lo (g := g) h rfl).2⟩
theorem own_take_strs {w W : World} {B m c g : Nat} {L : List (List UInt8)} (h : w.ownsRow B 9 1 (.slice (some ⟨g, 0, none⟩) m c) m (L.map encStr)) (k : Nat) (hw : ∀ i : Nat, W.cell? ⟨g, i, none⟩ = w.cell? ⟨g, i, none⟩) :
    ∀ i (hi : i < (L.take k).length), ∃ b o, some (⟨g, 0, none⟩ : Addr) = some ⟨b, o, none⟩ ∧ W.cell? ⟨b, o + i, none⟩ = some (encStr (L.take k)[i]) := by
  intro i hi
  refine ⟨g, 0, rfl, ?_⟩
  rw [Nat.zero_add, hw, List.getElem_take]
  exact (own_strs h i _).1
theorem own_drop_strs {w W : World} {B m c g : Nat} {L : List (List UInt8)} (h : w.ownsRow B 9 1 (.slice (some ⟨g, 0, none⟩) m c) m (L.map encStr)) (k : Nat) (hb : Below w.heap.size w W) :
    ∀ i (hi : i < (L.drop k).length), ∃ b o, some (⟨g, k, none⟩ : Addr) = some ⟨b, o, none⟩ ∧ W.cell? ⟨b, o + i, none⟩ = some (encStr (L.drop k)[i]) := by
  intro i hi
  have hi' : k + i < L.length := by simp at hi; omega
  refine ⟨g, k, rfl, ?_⟩
  rw [hb.cell (p := ⟨g, _, none⟩) (own_strs h (k + i) hi').2, List.getElem_drop]
  exact (own_strs h (k + i) hi').1
theorem new_strs (y : World) (s : ByteArray) : ∀ i (h : i < [s.toList].length), ∃ b o, some (⟨y.heap.size, 0, none⟩ : Addr) = some ⟨b, o, none⟩ ∧ (y.alloc (.cells #[.string s] 9)).cell? ⟨b, o + i, none⟩ = some (encStr [s.toList][i]) := by
  intro i h
  have : i = 0 := by simp at h; exact h
  subst this
  have := (Blk.new y 9 [.string s]).cell 0
  exact ⟨_, 0, rfl, by rw [Nat.zero_add, List.getElem_cons_zero, enc_text]; exact this⟩
set_option maxRecDepth 20000 in
set_option maxHeartbeats 12800000 in
theorem asknamed_any (w : World) (a : Option Addr) (n c : Nat) (t : List Tw) (h : TreeIn w a n c t) (hn : n ≤ 5000) (op : Nat) (hop : op ≤ 255) :
    Calls Try.prog 31 #[.slice a n c, .int .u8 (op : Int)] w fun e w' => ∃ A m cc, e = .returned (.slice A m cc) ∧ w'.ownsRow w.heap.size 9 1 (.slice A m cc) m (((asks t op).foldl insS []).map encStr) ∧ Below w.heap.size w w' := by
  have hln := h.tw.len
  have HLN := Lib.hid hln
  have HT := Lib.hid h
  have hc1 := h.cap.1
  have hc2 := h.cap.2
  unfold maxLen at hc2
  clear h hln
  go_enter Try.func31, Try.ntmps31
  go_wp2_with fail
  go_loopw [5, 6] (fun ov iv wr => ∃ (i : Nat) (A : Option Addr) (m cc : Nat), ov = .slice A m cc ∧ iv = .int .i64 (i : Int) ∧ i ≤ n ∧ m ≤ i ∧ m ≤ cc ∧ cc ≤ maxLen ∧ Hid (Below w.heap.size w wr ∧ wr.ownsRow w.heap.size 9 1 (.slice A m cc) m (((asks (t.take i) op).foldl insS []).map encStr))) (fun _ iv _ => n - (intOf iv).toNat)
  case atStart => exact ⟨0, none, 0, 0, rfl, rfl, Nat.zero_le _, Nat.zero_le _, Nat.zero_le _, by unfold maxLen; omega, Lib.hid ⟨Below.refl _ _, World.ownsRow_nil _ _ _ _⟩⟩
  case round =>
    obtain ⟨i, A, m, cc, rfl, rfl, hi9, hm9, hmc, hcm, HW⟩ := hrel
    unfold maxLen at hcm
    by_cases hlt : i < n
    · have hlt' : (i : Int) < (n : Int) := by omega
      have hit : i < t.length := by rw [HLN.out]; exact hlt
      have hx : t[i]? = some t[i] := List.getElem?_eq_getElem hit
      obtain ⟨b1, o1, e1, hb1, p0, p1, p2, p3⟩ := tree_cell (HT.out.bel HW.out.1) hx
      have HBB := Lib.hid hb1
      have HP0 := Lib.hid p0
      have HP3 := Lib.hid p3
      subst e1
      have HY := Lib.hid (asks_yes hit (op := op))
      have HN := Lib.hid (asks_no hit (op := op))
      clear hx
      generalize t[i] = x at *
      by_cases hop' : x.op = op
      · have q1 : ((x.op : Int) == (op : Int)) = true := by rw [beq_iff_eq]; omega
        have q1b : ((x.op : Int) != (op : Int)) = false := by simp [bne, q1]
        have HE := Lib.hid (HY.out hop')
        clear HY HN hop'
        obtain ⟨L, hL⟩ : ∃ L, (asks (t.take i) op).foldl insS [] = L := ⟨_, rfl⟩
        have HE2 : Hid ((asks (t.take (i + 1)) op).foldl insS [] = insS L x.text.toList) := Lib.hid (by rw [HE.out, List.foldl_append, hL]; rfl)
        rw [hL] at HW
        have hml : L.length = m := by simpa using HW.out.2.1
        have HML := Lib.hid hml
        clear HE hL hml
        generalize wr = wo at *
        go_wp2_with fail
        go_loopw [7] (fun kv wk => ∃ k : Nat, kv = .int .i64 (k : Int) ∧ k ≤ m ∧ Hid (Below wo.heap.size wo wk ∧ ∀ j (hj : j < L.length), j < k → L[j] < x.text.toList)) (fun kv _ => m - (intOf kv).toNat)
        case atStart => exact ⟨0, rfl, Nat.zero_le _, Lib.hid ⟨Below.refl _ _, fun j hj h => by omega⟩⟩
        case round =>
          obtain ⟨k, rfl, hk9, HK⟩ := hrel
          have HOK := Lib.hid (own_turns HW.out.2 (.of_below (S := fun _ => False) HK.out.1) (fun _ _ => id))
          have t3 := (HK.out.1.cell (p := ⟨b1, _, none⟩) HBB.out).trans HP3.out
          by_cases hkm : k < m
          · have hkm' : (k : Int) < (m : Int) := by omega
            have hkL : k < L.length := by rw [HML.out]; exact hkm
            obtain ⟨g, cg, eg, vb, hg1, hg2, hg3⟩ := own_at HOK.out (by omega)
            injection eg with eg1 _ eg3
            subst eg1 eg3
            have hz0 := HOK.out.cellAt k (by omega)
            rw [List.getElem?_map, List.getElem?_eq_getElem hkL] at hz0
            have hz1 : wr.cell? ⟨g, k, none⟩ = some (.string ⟨L[k].toArray⟩) := hz0
            clear hz0
            by_cases hs : L[k] < x.text.toList
            · have hb : Op.bytesLess L[k] x.text.toList = true := by rw [Go.Proofs.bytesLess_eq]; exact decide_eq_true hs
              have HS := Lib.hid hs
              clear hs
              go_wp2_with fail
              go_quiet (fail)
              go_wp2_with fail
              refine ⟨⟨k + 1, by go_num, by omega, Lib.hid ⟨below_drewN' HK.out.1 _, fun j hj h => ?_⟩⟩, by simp [intOf]; omega⟩
              by_cases e : j = k
              · subst e; exact HS.out
              · exact HK.out.2 j hj (by omega)
            · have hb : Op.bytesLess L[k] x.text.toList = false := by rw [Go.Proofs.bytesLess_eq]; exact decide_eq_false hs
              have HIN := Lib.hid (insS_at x.text.toList L k (by omega) HK.out.2 (fun _ => hs))
              clear hs
              by_cases he : L[k] = x.text.toList
              · have heq : (L[k] == x.text.toList) = true := by rw [he]; simp
                have HIN2 : Hid (insS L x.text.toList = L) := Lib.hid (by rw [HIN.out, if_pos (by rw [List.getElem?_eq_getElem hkL, he])])
                clear he
                go_wp2_with fail
                go_quiet (fail)
                go_wp2_with fail
                go_quiet (fail)
                go_wp2_with fail
                refine ⟨⟨i + 1, some ⟨g, 0, none⟩, m, cc, rfl, by go_num, by omega, by omega, hmc, by unfold maxLen; exact hcm, Lib.hid ⟨below_drewN' (HW.out.1.trans (HK.out.1.mono HW.out.1.size)) _, ?_⟩⟩, by simp [intOf]; omega⟩
                rw [HE2.out, HIN2.out]
                exact own_turns HOK.out ((Turns.refl (fun _ => False) _).drewN _) (fun _ _ => id)
              · have heq : (L[k] == x.text.toList) = false := by simpa using he
                have HIN2 : Hid (insS L x.text.toList = L.take k ++ x.text.toList :: L.drop k) := Lib.hid (by rw [HIN.out, if_neg (by rw [List.getElem?_eq_getElem hkL]; simpa using he)])
                clear he
                have HC0 : Hid ((L.take k).length = k) := Lib.hid (by rw [List.length_take, HML.out]; omega)
                have HC9 : Hid ((L.drop k).length = (m - k)) := Lib.hid (by rw [List.length_drop, HML.out]; try omega)
                have HBW : Hid (b1 < wr.heap.size) := Lib.hid (Nat.lt_of_lt_of_le HBB.out HK.out.1.size)
                have HT3 := Lib.hid t3
                have HC1 := Lib.hid (fun (W : World) (hw : ∀ p, W.cell? p = wr.cell? p) => own_take_strs HOK.out k (W := W) (fun i => hw _))
                have HC3 := Lib.hid (fun (W : World) (hb : Below wr.heap.size wr W) => own_drop_strs HOK.out k hb)
                go_wp2_with fail
                go_quiet (fail)
                go_wp2_with fail
                go_quiet (fail)
                go_wp2_with (first | (at_builtin; refine wpl_strs _ rfl _ _ rfl wr.heap.size 0 k (.slice none 0 0) rfl [] (World.ownsRow_nil _ _ _ _) (Nat.le_refl _) (some ⟨g, 0, none⟩) k cc rfl (L.take k) HC0.out (HC1.out _ (fun _ => rfl)) (by omega) (by omega) ?_; intro v4 y4 ho4 hb4; obtain ⟨A4, c4, rfl⟩ := own_slice' ho4; have HO4 := Lib.hid ho4; have HB4 := Lib.hid ((below_drewN' (Below.refl wr.heap.size wr) _).trans hb4); have t4 := (HB4.out.cell (p := ⟨b1, _, none⟩) HBW.out).trans HT3.out; have HOA := Lib.hid (ho4.alloc (.cells #[.string x.text] 9)); have HSZ := Lib.hid HB4.out.size; have HSZ5 : Hid (wr.heap.size ≤ (y4.alloc (.cells #[.string x.text] 9)).heap.size) := Lib.hid (by have := HSZ.out; simp; omega); have HNC := Lib.hid (new_strs y4 x.text); clear ho4 hb4 HC1) | (at_builtin; refine wpl_strs _ rfl _ _ rfl wr.heap.size k (k + 1) (.slice A4 k c4) rfl _ HOA.out HSZ5.out (some ⟨y4.heap.size, 0, none⟩) 1 1 rfl [x.text.toList] rfl HNC.out rfl (by omega) ?_; intro v5 y5 ho5 hb5; obtain ⟨A5, c5, rfl⟩ := own_slice' ho5; have HO5 := Lib.hid ho5; have HB5 := Lib.hid ((HB4.out.trans ((Below.new y4 (.cells #[.string x.text] 9)).mono HSZ.out)).trans hb5); clear ho5 hb5 HNC) | (at_builtin; refine wpl_strs _ rfl _ _ rfl wr.heap.size (k + 1) (m + 1) (.slice A5 (k + 1) c5) rfl _ HO5.out HB5.out.size (some ⟨g, k, none⟩) (m - k) (cc - k) rfl (L.drop k) HC9.out (HC3.out _ HB5.out) (by omega) (by omega) ?_; intro v6 y6 ho6 hb6; obtain ⟨A6, c6, rfl, _, hc61, hc62, _⟩ := own_shape ho6; have HO6 := Lib.hid ho6; have HB6 := Lib.hid (HB5.out.trans hb6); clear ho6 hb6 HC3))
                unfold maxLen at hc62
                refine ⟨⟨i + 1, A6, m + 1, c6, rfl, by go_num, by omega, by omega, hc61, by unfold maxLen; exact hc62, Lib.hid ⟨?_, ?_⟩⟩, by simp [intOf]; omega⟩
                · have b1' := HW.out.1.trans (HK.out.1.mono HW.out.1.size)
                  exact b1'.trans (HB6.out.mono b1'.size)
                · have b1' := HW.out.1.trans (HK.out.1.mono HW.out.1.size)
                  have h6 := own_lower HO6.out b1'.size
                  rw [HE2.out, HIN2.out, List.map_append, List.map_cons]
                  simpa using h6
          · obtain rfl : k = m := by omega
            have hkm' : ¬ (k : Int) < (k : Int) := by omega
            have HIN2 : Hid (insS L x.text.toList = L.take k ++ x.text.toList :: L.drop k) := Lib.hid (by
              have hq := HML.out
              rw [insS_at x.text.toList L k (by omega) HK.out.2 (fun h => by omega), if_neg (by rw [List.getElem?_eq_none (by omega)]; simp)])
            rcases own_nil_or HOK.out with ⟨e1, e2, e3⟩ | ⟨g, e1⟩
            · subst e1 e2 e3
              have HC0 : Hid ((L.take 0).length = 0) := Lib.hid (by rw [List.length_take, HML.out]; omega)
              have HC9 : Hid ((L.drop 0).length = 0) := Lib.hid (by rw [List.length_drop, HML.out]; try omega)
              have HBW : Hid (b1 < wr.heap.size) := Lib.hid (Nat.lt_of_lt_of_le HBB.out HK.out.1.size)
              have HT3 := Lib.hid t3
              have HC1 : Hid (∀ W : World, (∀ p, W.cell? p = wr.cell? p) → ∀ i (h : i < (L.take 0).length), ∃ b o, (none : Option Addr) = some ⟨b, o, none⟩ ∧ W.cell? ⟨b, o + i, none⟩ = some (encStr (L.take 0)[i])) := Lib.hid (fun W _ i h => by simp at h)
              have HC3 : Hid (∀ W : World, Below wr.heap.size wr W → ∀ i (h : i < (L.drop 0).length), ∃ b o, (none : Option Addr) = some ⟨b, o, none⟩ ∧ W.cell? ⟨b, o + i, none⟩ = some (encStr (L.drop 0)[i])) := Lib.hid (fun W _ i h => by rw [HC9.out] at h; omega)
              go_wp2_with fail
              go_quiet (fail)
              go_wp2_with fail
              go_quiet (fail)
              go_wp2_with (first | (at_builtin; refine wpl_strs _ rfl _ _ rfl wr.heap.size 0 0 (.slice none 0 0) rfl [] (World.ownsRow_nil _ _ _ _) (Nat.le_refl _) (none) 0 0 rfl (L.take 0) HC0.out (HC1.out _ (fun _ => rfl)) (by omega) (by omega) ?_; intro v4 y4 ho4 hb4; obtain ⟨A4, c4, rfl⟩ := own_slice' ho4; have HO4 := Lib.hid ho4; have HB4 := Lib.hid ((below_drewN' (Below.refl wr.heap.size wr) _).trans hb4); have t4 := (HB4.out.cell (p := ⟨b1, _, none⟩) HBW.out).trans HT3.out; have HOA := Lib.hid (ho4.alloc (.cells #[.string x.text] 9)); have HSZ := Lib.hid HB4.out.size; have HSZ5 : Hid (wr.heap.size ≤ (y4.alloc (.cells #[.string x.text] 9)).heap.size) := Lib.hid (by have := HSZ.out; simp; omega); have HNC := Lib.hid (new_strs y4 x.text); clear ho4 hb4 HC1) | (at_builtin; refine wpl_strs _ rfl _ _ rfl wr.heap.size 0 (0 + 1) (.slice A4 0 c4) rfl _ HOA.out HSZ5.out (some ⟨y4.heap.size, 0, none⟩) 1 1 rfl [x.text.toList] rfl HNC.out rfl (by omega) ?_; intro v5 y5 ho5 hb5; obtain ⟨A5, c5, rfl⟩ := own_slice' ho5; have HO5 := Lib.hid ho5; have HB5 := Lib.hid ((HB4.out.trans ((Below.new y4 (.cells #[.string x.text] 9)).mono HSZ.out)).trans hb5); clear ho5 hb5 HNC) | (at_builtin; refine wpl_strs _ rfl _ _ rfl wr.heap.size (0 + 1) (0 + 1) (.slice A5 (0 + 1) c5) rfl _ HO5.out HB5.out.size (none) 0 0 rfl (L.drop 0) HC9.out (HC3.out _ HB5.out) (by omega) (by omega) ?_; intro v6 y6 ho6 hb6; obtain ⟨A6, c6, rfl, _, hc61, hc62, _⟩ := own_shape ho6; have HO6 := Lib.hid ho6; have HB6 := Lib.hid (HB5.out.trans hb6); clear ho6 hb6 HC3))
              unfold maxLen at hc62
              refine ⟨⟨i + 1, A6, 0 + 1, c6, rfl, by go_num, by omega, by omega, hc61, by unfold maxLen; exact hc62, Lib.hid ⟨?_, ?_⟩⟩, by simp [intOf]; omega⟩
              · have b1' := HW.out.1.trans (HK.out.1.mono HW.out.1.size)
                exact b1'.trans (HB6.out.mono b1'.size)
              · have b1' := HW.out.1.trans (HK.out.1.mono HW.out.1.size)
                have h6 := own_lower HO6.out b1'.size
                rw [HE2.out, HIN2.out, List.map_append, List.map_cons]
                simpa using h6
            · subst e1
              rcases Nat.lt_or_ge k cc with hkc | hkc
              · have hkc' : (k : Int) < (cc : Int) := by omega
                have HC0 : Hid ((L.take k).length = k) := Lib.hid (by rw [List.length_take, HML.out]; omega)
                have HC9 : Hid ((L.drop k).length = 0) := Lib.hid (by rw [List.length_drop, HML.out]; try omega)
                have HBW : Hid (b1 < wr.heap.size) := Lib.hid (Nat.lt_of_lt_of_le HBB.out HK.out.1.size)
                have HT3 := Lib.hid t3
                have HC1 := Lib.hid (fun (W : World) (hw : ∀ p, W.cell? p = wr.cell? p) => own_take_strs HOK.out k (W := W) (fun i => hw _))
                have HC3 := Lib.hid (fun (W : World) (hb : Below wr.heap.size wr W) => own_drop_strs HOK.out k hb)
                go_wp2_with fail
                go_quiet (fail)
                go_wp2_with fail
                go_quiet (fail)
                go_wp2_with (first | (at_builtin; refine wpl_strs _ rfl _ _ rfl wr.heap.size 0 k (.slice none 0 0) rfl [] (World.ownsRow_nil _ _ _ _) (Nat.le_refl _) (some ⟨g, 0, none⟩) k cc rfl (L.take k) HC0.out (HC1.out _ (fun _ => rfl)) (by omega) (by omega) ?_; intro v4 y4 ho4 hb4; obtain ⟨A4, c4, rfl⟩ := own_slice' ho4; have HO4 := Lib.hid ho4; have HB4 := Lib.hid ((below_drewN' (Below.refl wr.heap.size wr) _).trans hb4); have t4 := (HB4.out.cell (p := ⟨b1, _, none⟩) HBW.out).trans HT3.out; have HOA := Lib.hid (ho4.alloc (.cells #[.string x.text] 9)); have HSZ := Lib.hid HB4.out.size; have HSZ5 : Hid (wr.heap.size ≤ (y4.alloc (.cells #[.string x.text] 9)).heap.size) := Lib.hid (by have := HSZ.out; simp; omega); have HNC := Lib.hid (new_strs y4 x.text); clear ho4 hb4 HC1) | (at_builtin; refine wpl_strs _ rfl _ _ rfl wr.heap.size k (k + 1) (.slice A4 k c4) rfl _ HOA.out HSZ5.out (some ⟨y4.heap.size, 0, none⟩) 1 1 rfl [x.text.toList] rfl HNC.out rfl (by omega) ?_; intro v5 y5 ho5 hb5; obtain ⟨A5, c5, rfl⟩ := own_slice' ho5; have HO5 := Lib.hid ho5; have HB5 := Lib.hid ((HB4.out.trans ((Below.new y4 (.cells #[.string x.text] 9)).mono HSZ.out)).trans hb5); clear ho5 hb5 HNC) | (at_builtin; refine wpl_strs _ rfl _ _ rfl wr.heap.size (k + 1) (k + 1) (.slice A5 (k + 1) c5) rfl _ HO5.out HB5.out.size (some ⟨g, k, none⟩) 0 (cc - k) rfl (L.drop k) HC9.out (HC3.out _ HB5.out) (by omega) (by omega) ?_; intro v6 y6 ho6 hb6; obtain ⟨A6, c6, rfl, _, hc61, hc62, _⟩ := own_shape ho6; have HO6 := Lib.hid ho6; have HB6 := Lib.hid (HB5.out.trans hb6); clear ho6 hb6 HC3))
                unfold maxLen at hc62
                refine ⟨⟨i + 1, A6, k + 1, c6, rfl, by go_num, by omega, by omega, hc61, by unfold maxLen; exact hc62, Lib.hid ⟨?_, ?_⟩⟩, by simp [intOf]; omega⟩
                · have b1' := HW.out.1.trans (HK.out.1.mono HW.out.1.size)
                  exact b1'.trans (HB6.out.mono b1'.size)
                · have b1' := HW.out.1.trans (HK.out.1.mono HW.out.1.size)
                  have h6 := own_lower HO6.out b1'.size
                  rw [HE2.out, HIN2.out, List.map_append, List.map_cons]
                  simpa using h6
              · obtain rfl : cc = k := by omega
                have HC0 : Hid ((L.take cc).length = cc) := Lib.hid (by rw [List.length_take, HML.out]; omega)
                have HC9 : Hid ((L.drop cc).length = 0) := Lib.hid (by rw [List.length_drop, HML.out]; try omega)
                have HBW : Hid (b1 < wr.heap.size) := Lib.hid (Nat.lt_of_lt_of_le HBB.out HK.out.1.size)
                have HT3 := Lib.hid t3
                have HC1 := Lib.hid (fun (W : World) (hw : ∀ p, W.cell? p = wr.cell? p) => own_take_strs HOK.out cc (W := W) (fun i => hw _))
                have HC3 : Hid (∀ W : World, Below wr.heap.size wr W → ∀ i (h : i < (L.drop cc).length), ∃ b o, some (⟨g, 0, none⟩ : Addr) = some ⟨b, o, none⟩ ∧ W.cell? ⟨b, o + i, none⟩ = some (encStr (L.drop cc)[i])) := Lib.hid (fun (W : World) (hb : Below wr.heap.size wr W) => fun i (h : i < (L.drop cc).length) => absurd h (by have := HC9.out; omega))
                go_wp2_with fail
                go_quiet (fail)
                go_wp2_with fail
                go_quiet (fail)
                go_wp2_with (first | (at_builtin; refine wpl_strs _ rfl _ _ rfl wr.heap.size 0 cc (.slice none 0 0) rfl [] (World.ownsRow_nil _ _ _ _) (Nat.le_refl _) (some ⟨g, 0, none⟩) cc cc rfl (L.take cc) HC0.out (HC1.out _ (fun _ => rfl)) (by omega) (by omega) ?_; intro v4 y4 ho4 hb4; obtain ⟨A4, c4, rfl⟩ := own_slice' ho4; have HO4 := Lib.hid ho4; have HB4 := Lib.hid ((below_drewN' (Below.refl wr.heap.size wr) _).trans hb4); have t4 := (HB4.out.cell (p := ⟨b1, _, none⟩) HBW.out).trans HT3.out; have HOA := Lib.hid (ho4.alloc (.cells #[.string x.text] 9)); have HSZ := Lib.hid HB4.out.size; have HSZ5 : Hid (wr.heap.size ≤ (y4.alloc (.cells #[.string x.text] 9)).heap.size) := Lib.hid (by have := HSZ.out; simp; omega); have HNC := Lib.hid (new_strs y4 x.text); clear ho4 hb4 HC1) | (at_builtin; refine wpl_strs _ rfl _ _ rfl wr.heap.size cc (cc + 1) (.slice A4 cc c4) rfl _ HOA.out HSZ5.out (some ⟨y4.heap.size, 0, none⟩) 1 1 rfl [x.text.toList] rfl HNC.out rfl (by omega) ?_; intro v5 y5 ho5 hb5; obtain ⟨A5, c5, rfl⟩ := own_slice' ho5; have HO5 := Lib.hid ho5; have HB5 := Lib.hid ((HB4.out.trans ((Below.new y4 (.cells #[.string x.text] 9)).mono HSZ.out)).trans hb5); clear ho5 hb5 HNC) | (at_builtin; refine wpl_strs _ rfl _ _ rfl wr.heap.size (cc + 1) (cc + 1) (.slice A5 (cc + 1) c5) rfl _ HO5.out HB5.out.size (some ⟨g, 0, none⟩) 0 0 rfl (L.drop cc) HC9.out (HC3.out _ HB5.out) (by omega) (by omega) ?_; intro v6 y6 ho6 hb6; obtain ⟨A6, c6, rfl, _, hc61, hc62, _⟩ := own_shape ho6; have HO6 := Lib.hid ho6; have HB6 := Lib.hid (HB5.out.trans hb6); clear ho6 hb6 HC3))
                unfold maxLen at hc62
                refine ⟨⟨i + 1, A6, cc + 1, c6, rfl, by go_num, by omega, by omega, hc61, by unfold maxLen; exact hc62, Lib.hid ⟨?_, ?_⟩⟩, by simp [intOf]; omega⟩
                · have b1' := HW.out.1.trans (HK.out.1.mono HW.out.1.size)
                  exact b1'.trans (HB6.out.mono b1'.size)
                · have b1' := HW.out.1.trans (HK.out.1.mono HW.out.1.size)
                  have h6 := own_lower HO6.out b1'.size
                  rw [HE2.out, HIN2.out, List.map_append, List.map_cons]
                  simpa using h6
      · have q1 : ((x.op : Int) == (op : Int)) = false := by rw [beq_eq_false_iff_ne]; omega
        have HE := Lib.hid (HN.out hop')
        clear HY HN hop'
        go_wp2_with fail
        exact ⟨⟨i + 1, A, m, cc, rfl, by go_num, by omega, by omega, hmc, by unfold maxLen; exact hcm, Lib.hid ⟨HW.out.1, by rw [HE.out]; exact HW.out.2⟩⟩, by simp [intOf]; omega⟩
    · obtain rfl : i = n := by omega
      have hlt' : ¬ (i : Int) < (i : Int) := by omega
      have HTK : Hid (t.take i = t) := Lib.hid (List.take_of_length_le (by rw [HLN.out]; exact Nat.le_refl _))
      rw [HTK.out] at HW
      go_wp2_with fail
      go_ret
      exact ⟨_, _, _, rfl, HW.out.2, HW.out.1⟩
end Go.Proofs.Ytmacmejpcpdnnaa
