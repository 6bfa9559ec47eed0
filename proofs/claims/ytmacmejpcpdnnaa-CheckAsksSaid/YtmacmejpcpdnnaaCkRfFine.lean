/- check: the document's 'fine'. -/
import Derived.Test.YtmacmejpcpdnnaaCkRfSmall
import Derived.BigQuiet
import Derived.Deep.Cut
import Derived.Deep.CutBlock
import Derived.Deep.DeepCutAuto
namespace Go.Proofs.Ytmacmejpcpdnnaa
open Go.RowKit

def kwsB : List ByteArray := kws.map fun k => ⟨k.toArray⟩
theorem kwsB_any (s : ByteArray) : kwsB.any (fun x => x.toList == s.toList) = kwB s := by
  have h : ∀ l : List (List UInt8), (l.map (fun k => (⟨k.toArray⟩ : ByteArray))).any (fun x => x.toList == s.toList) = l.any (fun k => s.toList == k) := by
    intro l
    induction l with
    | nil => rfl
    | cons a l ih =>
      have e : (⟨a.toArray⟩ : ByteArray).toList = a := by rw [ByteArray.toList_eq]
      simp only [List.map_cons, List.any_cons, ih, e]
      congr 1
      rw [Bool.eq_iff_iff, beq_iff_eq, beq_iff_eq]
      exact eq_comm
  exact h kws
set_option maxHeartbeats 1600000 in
theorem rkw_any (s : ByteArray) (w : World) : Calls Try.prog 64 #[.string s] w fun e w' => e = .returned (.bool (kwB s)) ∧ Below w.heap.size w w' := by
  have hw : ∀ w : World, Calls Try.prog 77 #[] w fun e w' => e = .returned (.slice (some ⟨w.heap.size, 0, none⟩) 28 28) ∧ w' = w.alloc (.cells (kwsB.map kStr).toArray 9) := by
    intro w
    go_enter Try.func77, Try.ntmps77
    go_wp2_with fail
    go_ret
    exact ⟨rfl, rfl⟩
  have HW := Lib.hid hw
  have HA := Lib.hid (among_any (w.alloc (.cells (kwsB.map kStr).toArray 9)) w.heap.size kwsB s (Blk.new w _ _) (by decide))
  rw [kwsB_any] at HA
  clear hw
  go_enter Try.func64, Try.ntmps64
  go_wp2_with (first | (go_at_call 77; refine (HW.out _).mono ?_; rintro e wn ⟨rfl, rfl⟩) | (go_at_call 76; refine HA.out.mono ?_; rintro e wn ⟨rfl, rfl⟩))
  go_ret
  exact ⟨rfl, Below.new _ _⟩
theorem rown_any (s : ByteArray) (hs : s.size ≤ maxLen) (w : World) : Calls Try.prog 56 #[.string s] w fun e w' => e = .returned (.bool (txtB .own s)) ∧ Below w.heap.size w w' := by
  have HN := Lib.hid (rname_any s hs)
  have HK := Lib.hid (rkw_any s)
  unfold txtB
  rcases hn : nameS s with _ | _
  · have NB := Lib.hid hn
    clear hn
    go_enter Try.func56, Try.ntmps56
    go_wp2_with (go_at_call 63; refine (HN.out _).mono ?_; rintro e wn ⟨rfl, rfl⟩; rw [NB.out])
    go_ret
    exact ⟨ret_bool (by rw [NB.out]; rfl), Below.refl _ _⟩
  · have NB := Lib.hid hn
    clear hn
    go_enter Try.func56, Try.ntmps56
    go_wp2_with (first | (go_at_call 63; refine (HN.out _).mono ?_; rintro e wn ⟨rfl, rfl⟩; rw [NB.out]) | (go_at_call 64; refine (HK.out _).mono ?_; rintro e wn ⟨rfl, hb⟩))
    go_ret
    exact ⟨ret_bool (by rw [NB.out]; simp), hb⟩
/-- is a twig by itself as the table says? -/
def fineO (x : Tw) : Bool := isExpr x.op || isStmt x.op || decide (1 ≤ x.op ∧ x.op ≤ 3)
def fineT (x : Tw) : Bool := if namedB x.op then txtB .own x.text else if x.op = 24 then decide (x.text.size ≤ 4095) else decide (x.text.size = 0)
def fineI (x : Tw) : Bool := !decide (x.int < 0) && !(decide (0 < x.int) && x.op != 23)
def fineK (x : Tw) : Bool := decide (leastI x.op ≤ x.kids) && ((decide (mostI x.op < 0) && decide (x.kids ≤ 2048)) || decide (x.kids ≤ mostI x.op))
def fineB (x : Tw) : Bool := fineO x && fineT x && fineI x && fineK x
set_option maxRecDepth 20000 in
set_option maxHeartbeats 6400000 in
theorem fine_any (x : Tw) (hw : (-9223372036854775808 ≤ x.kids ∧ x.kids ≤ 9223372036854775807) ∧ (-9223372036854775808 ≤ x.int ∧ x.int ≤ 9223372036854775807) ∧ x.op ≤ 255 ∧ x.text.size ≤ maxLen) (w : World) :
    Calls Try.prog 36 #[.agg #[.int .u8 x.op, .int .i64 x.kids, .int .i64 x.int, .string x.text]] w fun e w' => e = .returned (.bool (fineB x)) ∧ Below w.heap.size w w' := by
  obtain ⟨hw1, hw2, hw3, hw4⟩ := hw
  have HE := Lib.hid (rexpr_any x.op)
  have HS := Lib.hid (rstmt_any x.op)
  have HNA := Lib.hid (named_any x.op)
  have HOW := Lib.hid (rown_any x.text hw4)
  have HLE := Lib.hid (least_any x.op)
  have HMO := Lib.hid (most_any x.op)
  unfold maxLen at hw4
  go_enter Try.func36, Try.ntmps36
  go_upto_region 1 with fail
  have HX := Lib.hid (Blk.new w 34 (twC x))
  have HB : Hid (Below w.heap.size w (w.alloc (.cells (twC x).toArray 34))) := Lib.hid (Below.new w _)
  unfold twC at HX HB
  generalize (w.alloc (.cells #[.int .u8 x.op, .int .i64 x.kids, .int .i64 x.int, .string x.text] 34)) = w1 at *
  have x0 := HX.out.cell 0
  have x1 := HX.out.cell 1
  have x2 := HX.out.cell 2
  have x3 := HX.out.cell 3
  simp only [List.getElem?_cons_zero, List.getElem?_cons_succ] at x0 x1 x2 x3
  go_cut [22] (fun s22 wc => s22 = .bool (!fineO x) ∧ wc = w1)
  case first =>
    cases hE : isExpr x.op with
    | true =>
      have HEE := Lib.hid hE
      clear hE
      go_wp2_with (first | (go_at_call 53; refine (HE.out _).mono ?_; rintro e wn ⟨rfl, rfl⟩; rw [HEE.out]))
      go_meet
      exact ⟨by unfold fineO; rw [HEE.out]; rfl, rfl⟩
    | false =>
      have HEE := Lib.hid hE
      clear hE
      cases hS : isStmt x.op with
      | true =>
        have HSS := Lib.hid hS
        clear hS
        go_wp2_with (first | (go_at_call 53; refine (HE.out _).mono ?_; rintro e wn ⟨rfl, rfl⟩; rw [HEE.out]) | (go_at_call 54; refine (HS.out _).mono ?_; rintro e wn ⟨rfl, rfl⟩; rw [HSS.out]))
        go_meet
        exact ⟨by unfold fineO; rw [HEE.out, HSS.out]; rfl, rfl⟩
      | false =>
        have HSS := Lib.hid hS
        clear hS
        by_cases l1 : (x.op : Int) < 1
        · have HL := Lib.hid l1
          go_wp2_with (first | (go_at_call 53; refine (HE.out _).mono ?_; rintro e wn ⟨rfl, rfl⟩; rw [HEE.out]) | (go_at_call 54; refine (HS.out _).mono ?_; rintro e wn ⟨rfl, rfl⟩; rw [HSS.out]))
          go_meet
          exact ⟨by unfold fineO; rw [HEE.out, HSS.out]; have := HL.out; simp; omega, rfl⟩
        · by_cases l2 : (3 : Int) < (x.op : Int)
          · have HL := Lib.hid l2
            go_wp2_with (first | (go_at_call 53; refine (HE.out _).mono ?_; rintro e wn ⟨rfl, rfl⟩; rw [HEE.out]) | (go_at_call 54; refine (HS.out _).mono ?_; rintro e wn ⟨rfl, rfl⟩; rw [HSS.out]))
            go_meet
            exact ⟨by unfold fineO; rw [HEE.out, HSS.out]; have := HL.out; simp; omega, rfl⟩
          · have HL := Lib.hid (And.intro l1 l2)
            go_wp2_with (first | (go_at_call 53; refine (HE.out _).mono ?_; rintro e wn ⟨rfl, rfl⟩; rw [HEE.out]) | (go_at_call 54; refine (HS.out _).mono ?_; rintro e wn ⟨rfl, rfl⟩; rw [HSS.out]))
            go_meet
            have h9 : decide (1 ≤ x.op ∧ x.op ≤ 3) = true := decide_eq_true (by have := HL.out; omega)
            have h8 := HL.out.2
            exact ⟨by unfold fineO; rw [HEE.out, HSS.out, h9]; simp [h8] <;> omega, rfl⟩
  case rest =>
    obtain ⟨rfl, rfl⟩ := hcut
    cases hO : fineO x with
    | false =>
      have HO := Lib.hid hO
      clear hO
      go_wp2_with fail
      go_ret
      exact ⟨ret_bool (by unfold fineB; rw [HO.out]; rfl), HB.out⟩
    | true =>
      have HO := Lib.hid hO
      clear hO
      go_upto_if 25 with (go_at_call 55; refine (HNA.out _).mono ?_; rintro e wn ⟨rfl, rfl⟩)
      go_cut [2] (fun s2 wd => s2 = .bool false ∧ Hid (fineT x = true ∧ Blk wd w.heap.size 34 (twC x) ∧ Below w.heap.size w wd))
      case first =>
        cases hn : namedB x.op with
        | true =>
          have HNN := Lib.hid hn
          clear hn
          cases hT : txtB .own x.text with
          | true =>
            have HTT := Lib.hid hT
            clear hT
            go_wp2_with (go_at_call 56; refine (HOW.out _).mono ?_; rintro e wn ⟨rfl, hbo⟩; rw [HTT.out]; have HBO := Lib.hid hbo; clear hbo)
            go_meet
            exact ⟨rfl, Lib.hid ⟨by unfold fineT; rw [HNN.out, HTT.out]; rfl, HX.out.bel HBO.out, HB.out.trans (HBO.out.mono HB.out.size)⟩⟩
          | false =>
            have HTT := Lib.hid hT
            clear hT
            go_wp2_with (go_at_call 56; refine (HOW.out _).mono ?_; rintro e wn ⟨rfl, hbo⟩; rw [HTT.out]; have HBO := Lib.hid hbo; clear hbo)
            go_ret
            exact ⟨ret_bool (by unfold fineB fineT; rw [HNN.out, HTT.out]; simp), HB.out.trans (HBO.out.mono HB.out.size)⟩
        | false =>
          have HNN := Lib.hid hn
          clear hn
          by_cases h24 : x.op = 24
          · have q24 : ((x.op : Int) == 24) = true := by rw [beq_iff_eq]; omega
            have H24 := Lib.hid h24
            clear h24
            by_cases hl : (4095 : Int) < (x.text.size : Int)
            · have HL := Lib.hid hl
              go_wp2_with fail
              go_ret
              exact ⟨ret_bool (by unfold fineB fineT; rw [HNN.out, H24.out, decide_eq_false (by have := HL.out; omega)]; simp), HB.out⟩
            · have HL := Lib.hid hl
              go_wp2_with fail
              go_meet
              exact ⟨rfl, Lib.hid ⟨by unfold fineT; rw [HNN.out, H24.out]; simp; have := HL.out; omega, HX.out, HB.out⟩⟩
          · have q24 : ((x.op : Int) == 24) = false := by rw [beq_eq_false_iff_ne]; omega
            have H24 := Lib.hid h24
            clear h24
            by_cases hl : x.text.size = 0
            · have hn0 : x.text.toList = [] := List.eq_nil_of_length_eq_zero (by rw [size_toList]; exact hl)
              have hn1 : x.text.toList.isEmpty = true := by rw [hn0]; rfl
              have HL := Lib.hid hl
              have HN0 := Lib.hid hn0
              clear hl
              go_wp2_with fail
              all_goals first
                | (go_meet; exact ⟨rfl, Lib.hid ⟨by unfold fineT; rw [HNN.out, if_neg (by simp), if_neg H24.out]; exact decide_eq_true HL.out, HX.out, HB.out⟩⟩)
                | (exfalso; simp_all)
            · have hn0 : ¬ x.text.toList = [] := fun e => hl (toList_nil _ e)
              have hn1 : x.text.toList.isEmpty = false := by simpa using hn0
              have HL := Lib.hid hl
              clear hl
              go_wp2_with fail
              all_goals first
                | (go_ret; exact ⟨ret_bool (by unfold fineB fineT; rw [HNN.out, if_neg (by simp), if_neg H24.out, decide_eq_false HL.out]; simp), HB.out⟩)
                | (exfalso; simp_all)
      case rest =>
        obtain ⟨rfl, HD⟩ := hcut
        clear HX HB x0 x1 x2 x3 HE HS HNA HOW
        have y0 := HD.out.2.1.cell 0
        have y1 := HD.out.2.1.cell 1
        have y2 := HD.out.2.1.cell 2
        unfold twC at y0 y1 y2
        simp only [List.getElem?_cons_zero, List.getElem?_cons_succ] at y0 y1 y2
        go_upto_region 11 with fail
        go_cut [52] (fun s52 we => s52 = .bool (!fineI x) ∧ we = wc)
        case first =>
          by_cases i1 : x.int < 0
          · have HI := Lib.hid i1
            go_wp2_with fail
            go_meet
            exact ⟨by unfold fineI; rw [decide_eq_true (by have := HI.out; omega)]; rfl, rfl⟩
          · by_cases i2 : 0 < x.int
            · by_cases i3 : x.op = 23
              · have q23 : ((x.op : Int) != 23) = false := by simp; omega
                have HI := Lib.hid (And.intro i1 (And.intro i2 i3))
                clear i3
                go_wp2_with fail
                go_meet
                exact ⟨by unfold fineI; rw [decide_eq_false (by have := HI.out; omega), decide_eq_true (by have := HI.out; omega), show x.op = 23 from by have := HI.out; omega]; rfl, rfl⟩
              · have q23 : ((x.op : Int) != 23) = true := by simp; omega
                have HI := Lib.hid (And.intro i1 (And.intro i2 i3))
                clear i3
                go_wp2_with fail
                go_meet
                have h9 : (x.op != 23) = true := by have := HI.out; simp; omega
                exact ⟨by unfold fineI; rw [decide_eq_false (by have := HI.out; omega), decide_eq_true (by have := HI.out; omega), h9]; rfl, rfl⟩
            · have HI := Lib.hid (And.intro i1 i2)
              go_wp2_with fail
              go_meet
              exact ⟨by unfold fineI; rw [decide_eq_false (by have := HI.out; omega), decide_eq_false (by have := HI.out; omega)]; rfl, rfl⟩
        case rest =>
          obtain ⟨rfl, rfl⟩ := hcut
          cases hI : fineI x with
          | false =>
            have HII := Lib.hid hI
            clear hI
            go_wp2_with fail
            go_ret
            exact ⟨ret_bool (by unfold fineB; rw [HO.out, HD.out.1, HII.out]; rfl), HD.out.2.2⟩
          | true =>
            have HII := Lib.hid hI
            clear hI
            have HLQ : Hid (∀ n, Calls Try.prog 57 #[.int .u8 x.op] (wc.drewN n) fun e w'' => e = .returned (.int .i64 (leastI x.op)) ∧ ∃ m, w'' = wc.drewN m) := Lib.hid (fun n => (HLE.out (wc.drewN n)).mono fun _ _ ⟨he, hm⟩ => ⟨he, n, hm.symm⟩)
            have HMQ : Hid (∀ n, Calls Try.prog 58 #[.int .u8 x.op] (wc.drewN n) fun e w'' => e = .returned (.int .i64 (mostI x.op)) ∧ ∃ m, w'' = wc.drewN m) := Lib.hid (fun n => (HMO.out (wc.drewN n)).mono fun _ _ ⟨he, hm⟩ => ⟨he, n, hm.symm⟩)
            cases k1 : decide (leastI x.op ≤ x.kids) with
            | false =>
              have HK1 := Lib.hid k1
              go_wp2_with fail
              go_quiet (first | (go_at_call 57; exact HLQ.out _) | (go_at_call 58; exact HMQ.out _))
              go_wp2_with fail
              go_ret
              exact ⟨ret_bool (by unfold fineB fineK; rw [HO.out, HD.out.1, HII.out, HK1.out]; rfl), below_drewN' HD.out.2.2 _⟩
            | true =>
              have HK1 := Lib.hid k1
              cases m1 : decide (mostI x.op < 0) with
              | true =>
                have HM1 := Lib.hid m1
                cases k2 : decide (x.kids ≤ 2048) with
                | true =>
                  have HK2 := Lib.hid k2
                  go_wp2_with fail
                  go_quiet (first | (go_at_call 57; exact HLQ.out _) | (go_at_call 58; exact HMQ.out _))
                  go_wp2_with fail
                  go_ret
                  exact ⟨ret_bool (by unfold fineB fineK; rw [HO.out, HD.out.1, HII.out, HK1.out, HM1.out, HK2.out]; rfl), below_drewN' HD.out.2.2 _⟩
                | false =>
                  have HK2 := Lib.hid k2
                  cases k3 : decide (x.kids ≤ mostI x.op) with
                  | true =>
                    have HK3 := Lib.hid k3
                    go_wp2_with fail
                    go_quiet (first | (go_at_call 57; exact HLQ.out _) | (go_at_call 58; exact HMQ.out _))
                    go_wp2_with fail
                    go_ret
                    exact ⟨ret_bool (by unfold fineB fineK; rw [HO.out, HD.out.1, HII.out, HK1.out, HM1.out, HK2.out, HK3.out]; rfl), below_drewN' HD.out.2.2 _⟩
                  | false =>
                    have HK3 := Lib.hid k3
                    go_wp2_with fail
                    go_quiet (first | (go_at_call 57; exact HLQ.out _) | (go_at_call 58; exact HMQ.out _))
                    go_wp2_with fail
                    go_ret
                    exact ⟨ret_bool (by unfold fineB fineK; rw [HO.out, HD.out.1, HII.out, HK1.out, HM1.out, HK2.out, HK3.out]; rfl), below_drewN' HD.out.2.2 _⟩
              | false =>
                have HM1 := Lib.hid m1
                cases k3 : decide (x.kids ≤ mostI x.op) with
                | true =>
                  have HK3 := Lib.hid k3
                  go_wp2_with fail
                  go_quiet (first | (go_at_call 57; exact HLQ.out _) | (go_at_call 58; exact HMQ.out _))
                  go_wp2_with fail
                  go_ret
                  exact ⟨ret_bool (by unfold fineB fineK; rw [HO.out, HD.out.1, HII.out, HK1.out, HM1.out, HK3.out]; rfl), below_drewN' HD.out.2.2 _⟩
                | false =>
                  have HK3 := Lib.hid k3
                  go_wp2_with fail
                  go_quiet (first | (go_at_call 57; exact HLQ.out _) | (go_at_call 58; exact HMQ.out _))
                  go_wp2_with fail
                  go_ret
                  exact ⟨ret_bool (by unfold fineB fineK; rw [HO.out, HD.out.1, HII.out, HK1.out, HM1.out, HK3.out]; rfl), below_drewN' HD.out.2.2 _⟩
end Go.Proofs.Ytmacmejpcpdnnaa
