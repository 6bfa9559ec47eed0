/- The document's disk in memory: asked, Sync, Rename, Remove, Fuse, Read. -/
import Derived.Test.YtoljnklceghcdaaRdPut
import Derived.Test.YtoljnklceghcdaaRdCrashP
import Derived.StillTailTactics
import Derived.Deep.RegionHeld3
import Derived.Laws.Concat
namespace Go.Proofs.Ytoljnklceghcdaa
open Go.RowKit Go.Maps Go.Sort Go.Shelf

theorem gF_mem {L : List RF} {i : Nat} (hi : i < L.length) : gF L i ∈ L := by rw [gF_of hi]; exact List.getElem_mem hi
theorem pl_at {L : List RF} (hR : Rise L) {i : Nat} (hi : i < L.length) : pl (pOf L) (gF L i).name = (gF L i).fd := pl_mem hR (gF_mem hi)
theorem some_at {L : List RF} (hR : Rise L) {i : Nat} (hi : i < L.length) : (pOf L (gF L i).name).isSome = true := by rw [pOf_mem hR (gF_mem hi)]; rfl
theorem none_at {L : List RF} {k : ByteArray} (h : ∀ f ∈ L, f.name ≠ k) : pOf L k = none := by
  unfold pOf
  rw [List.find?_eq_none.2 (fun f hf => by simpa using h f hf)]
  rfl
theorem place_one {L : List RF} (hR : Rise L) {i j : Nat} (hi : i < L.length) (hj : j < L.length) (e : (gF L i).name = (gF L j).name) : i = j := by
  have h2 := rise_one hR (gF_mem hi) (gF_mem hj) e
  unfold Rise at hR
  rw [List.pairwise_map, List.pairwise_iff_getElem] at hR
  rw [gF_of hi, gF_of hj] at h2
  rcases Nat.lt_trichotomy i j with hl | hl | hl
  · have := hR i j hi hj hl
    rw [h2] at this
    exact absurd this (List.lt_irrefl _)
  · exact hl
  · have := hR j i hj hi hl
    rw [h2] at this
    exact absurd this (List.lt_irrefl _)
theorem rfind_at (H : Nat) (w : World) (r : Nat) (v : Value) (off : Bool) (left : Int) (L : List RF) (h : RS H w r v off left L) (hR : Rise L) (i : Nat) (hi : i < L.length) :
    Calls Try.prog 49 #[.pointer (some ⟨r, 0, none⟩), .string (gF L i).name] w fun e w' => e = .returned (.int .i64 (i : Int)) ∧ w' = w := by
  refine (rfind H w r v off left L h _).mono ?_
  rintro e w' ⟨rfl, ⟨_, h2⟩ | ⟨j, hj, rfl, h2⟩⟩
  · exact absurd rfl (h2 _ (gF_mem hi))
  · rw [place_one hR hj hi h2]
    exact ⟨rfl, rfl⟩
def AskY (H : Nat) (w : World) (r : Nat) (v : Value) (off : Bool) (left : Int) (L : List RF) (k : ByteArray) (e : Ending) (w' : World) : Prop :=
  ∃ (c : Int) (off' : Bool) (left' : Int), e = .returned (.int .i64 c) ∧ RS H w' r v off' left' L ∧ Turns (fun i => i = r) w w' ∧
    ((c = 0 ∧ chC ⟨off, left, pOf L⟩ k = 0 ∧ (∀ q, chS ⟨off, left, pOf L⟩ k q = ⟨off', left', q⟩) ∧ ∃ i, i < L.length ∧ k = (gF L i).name) ∨
      ((c == 0) = false ∧ chC ⟨off, left, pOf L⟩ k = c ∧ ∀ q, chS ⟨off, left, pOf L⟩ k q = ⟨off', left', pOf L⟩))
set_option maxRecDepth 20000 in
set_option maxHeartbeats 1600000 in
theorem rasked (H : Nat) (w : World) (r : Nat) (v : Value) (off : Bool) (left : Int) (L : List RF) (h : RS H w r v off left L) (hR : Rise L) (k : ByteArray) :
    Calls Try.prog 51 #[.pointer (some ⟨r, 0, none⟩), .string k] w (AskY H w r v off left L k) := by
  have HH := Lib.hid h
  obtain ⟨_, c1, _⟩ := h.cells
  have HF := Lib.hid (rfind H w r v off left L h k)
  have HG := Lib.hid (rfails H w r v off left L h)
  have HR := Lib.hid hR
  clear h hR
  cases off
  · go_enter Try.func51, Try.ntmps51
    go_upto_region 3 with (fail)
    go_wp2_with fail
    refine HF.out.mono ?_
    rintro e w1 ⟨rfl, ⟨rfl, hn⟩ | ⟨i, hi, rfl, hk⟩⟩
    · have HN := Lib.hid (none_at hn)
      clear hn
      go_wp2_with fail
      go_ret
      exact ⟨5, false, left, rfl, HH.out, Turns.refl _ _, .inr ⟨rfl, by simp [chC, HN.out], fun q => by simp [chS, HN.out]⟩⟩
    · subst hk
      have HS := Lib.hid (some_at HR.out hi)
      have hi0 : ¬ (i : Int) < 0 := by omega
      have HI := Lib.hid hi
      go_upto_region 5 with (fail)
      by_cases h0 : left = 0
      · subst h0
        have eF : faB 0 = true := by simp [faB]
        rw [eF] at HG
        go_wp2_with (go_at_call 48; refine HG.out.mono ?_; rintro e w2 ⟨rfl, h2, t2⟩; have H2 := Lib.hid h2; have T2 := Lib.hid t2; clear h2 t2)
        go_ret
        exact ⟨250, true, -1, rfl, H2.out, T2.out, .inr ⟨rfl, by simp [chC, HS.out], fun q => by simp [chS, HS.out]⟩⟩
      · have eF : faB left = false := by simp [faB, h0]
        have eO : faO false left = false := by simp [faO, h0]
        have eN : faN left = lessF left := if_neg h0
        rw [eF, eO, eN] at HG
        have H0 := Lib.hid h0
        clear eF eO eN h0
        go_wp2_with (go_at_call 48; refine HG.out.mono ?_; rintro e w2 ⟨rfl, h2, t2⟩; have H2 := Lib.hid h2; have T2 := Lib.hid t2; clear h2 t2)
        go_ret
        exact ⟨0, false, lessF left, rfl, H2.out, T2.out, .inl ⟨rfl, by simp [chC, HS.out, H0.out], fun q => by simp [chS, HS.out, H0.out], i, HI.out, rfl⟩⟩
  · go_enter Try.func51, Try.ntmps51
    go_wp2_with fail
    go_ret
    exact ⟨250, true, left, rfl, HH.out, Turns.refl _ _, .inr ⟨rfl, rfl, fun _ => rfl⟩⟩
/-- what a deed leaves -/
def OpY (H : Nat) (w : World) (r : Nat) (v : Value) (n : Nat) (c : Int) (s : Dk) (e : Ending) (w' : World) : Prop :=
  e = .returned (.int .i64 c) ∧ ∃ v' L', RS H w' r v' s.off s.fuse L' ∧ Rise L' ∧ pOf L' = s.p ∧ L'.length ≤ n ∧ Turns (RSet r v) w w'
theorem Turns.toR {r : Nat} {v : Value} {w w' : World} (h : Turns (fun i => i = r) w w') : Turns (RSet r v) w w' := h.mono (fun _ _ e => .inl e)
set_option maxRecDepth 20000 in
set_option maxHeartbeats 1600000 in
theorem rremove (H : Nat) (w : World) (r : Nat) (v : Value) (off : Bool) (left : Int) (L : List RF) (h : RS H w r v off left L) (hR : Rise L) (k : ByteArray) :
    Calls Try.prog 40 #[.pointer (some ⟨r, 0, none⟩), .string k] w (OpY H w r v L.length (chC ⟨off, left, pOf L⟩ k) (rmS ⟨off, left, pOf L⟩ k)) := by
  have HA := Lib.hid (rasked H w r v off left L h hR k)
  have HR := Lib.hid hR
  have HFw := h.few
  clear h hR
  go_enter Try.func40, Try.ntmps40
  go_wp2_with fail
  refine HA.out.mono ?_
  rintro e w1 ⟨c, off', left', rfl, h1, t1, ⟨rfl, hc, hs, _⟩ | ⟨hc0, hc, hs⟩⟩
  · have HO := Lib.hid (rout H w1 r v off' left' L h1 k)
    have T1 := Lib.hid t1
    have HC := Lib.hid hc
    have HS := Lib.hid hs
    clear h1 t1 hc hs
    go_wp2_with fail
    refine HO.out.mono ?_
    rintro e w2 ⟨rfl, v', h2, t2, _⟩
    have H2 := Lib.hid h2
    have T2 := Lib.hid t2
    clear h2 t2
    go_wp2_with fail
    go_ret
    refine ⟨by rw [HC.out]; rfl, v', outL L k, ?_, rise_out HR.out k, ?_, List.length_filter_le _ _, (T1.out.then T2.out).toR⟩
    · unfold rmS; rw [HS.out]; exact H2.out
    · unfold rmS; rw [HS.out]; exact pOf_out L k
  · have H1 := Lib.hid h1
    have T1 := Lib.hid t1
    have HC := Lib.hid hc
    have HS := Lib.hid hs
    clear h1 t1 hc hs
    go_wp2_with fail
    go_ret
    refine ⟨by rw [HC.out]; rfl, v, L, ?_, HR.out, ?_, Nat.le_refl _, T1.out.toR⟩
    · unfold rmS; rw [HS.out]; exact H1.out
    · unfold rmS; rw [HS.out]
end Go.Proofs.Ytoljnklceghcdaa
