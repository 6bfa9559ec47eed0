/- queue: what was read of bytes fits. -/
import Derived.Test.YtpbheicfplpemaaGreatQuOpenP
import Derived.Test.YtpbheicfplpemaaGreatQuBytes
namespace Go.Proofs.YtpbheicfplpemaaGreat
open Go.RowKit

/-- what was read fits -/
theorem size_rd {l s : List UInt8} {a n : Nat} (h : Cd.rdText l a = .ok (s, n)) : (⟨s.toArray⟩ : ByteArray).size ≤ l.length := by
  have := (rdText_le h).2
  show s.toArray.size ≤ _
  simp
  omega
theorem rdTk_fit {l : List UInt8} {a tz : Nat} {t : Tk} (ha : a ≤ l.length) (hl : l.length ≤ 20000) (h : rdTk l a = .ok (t, tz)) : TkF t := by
  unfold rdTk at h
  split at h
  · rename_i h0
    injection h with h
    injection h with h _
    subst h
    unfold tk4 at h0 ⊢
    have l1 := aT (l := l) (a, 0) ha
    obtain ⟨p1, e1⟩ : ∃ p, aft [] (Cd.rdText l) (a, 0) = p := ⟨_, rfl⟩
    rw [e1] at l1 h0 ⊢
    have l2 := aT (l := l) p1.2 l1.1
    obtain ⟨p2, e2⟩ : ∃ p, aft [] (Cd.rdText l) p1.2 = p := ⟨_, rfl⟩
    rw [e2] at l2 h0 ⊢
    have l3 := aI (l := l) p2.2 l2.1
    obtain ⟨p3, e3⟩ : ∃ p, aft 0 (Cd.rdInt l) p2.2 = p := ⟨_, rfl⟩
    rw [e3] at l3 h0 ⊢
    have l4 := aN (l := l) p3.2 l3.1
    obtain ⟨p4, e4⟩ : ∃ p, aft 0 (rdNum l) p3.2 = p := ⟨_, rfl⟩
    rw [e4] at l4 h0 ⊢
    obtain ⟨k4, x4, n4, r4, q4⟩ := l4.2.1 h0
    obtain ⟨k3, x3, n3, r3, q3⟩ := l3.2.1 k4
    obtain ⟨k2, x2, n2, r2, q2⟩ := l2.2.1 k3
    obtain ⟨k1, x1, n1, r1, q1⟩ := l1.2.1 k2
    rw [q1, q2, q3, q4]
    have := size_rd r1
    have := size_rd r2
    have := rdInt_in r3
    have := (rdNum_le r4).2
    exact ⟨by simp only; omega, by simp only; omega, rdInt_in r3, by simp only; omega⟩
  · cases h
theorem rdOt_fit {l : List UInt8} {a tz : Nat} {x : Ot} (ha : a ≤ l.length) (hl : l.length ≤ 20000) (h : rdOt l a = .ok (x, tz)) (h0' : 0 < x.token) : OtF x := by
  unfold rdOt at h
  split at h
  · rename_i h0
    injection h with h
    injection h with h _
    subst h
    unfold ot5 at h0 h0' ⊢
    simp only at h0 h0' ⊢
    have l1 := aT (l := l) (a, 0) ha
    obtain ⟨p1, e1⟩ : ∃ p, aft [] (Cd.rdText l) (a, 0) = p := ⟨_, rfl⟩
    rw [e1] at l1 h0 h0' ⊢
    have l2 := aN (l := l) p1.2 l1.1
    obtain ⟨p2, e2⟩ : ∃ p, aft 0 (rdNum l) p1.2 = p := ⟨_, rfl⟩
    rw [e2] at l2 h0 h0' ⊢
    have l3 := aT (l := l) p2.2 l2.1
    obtain ⟨p3, e3⟩ : ∃ p, aft [] (Cd.rdText l) p2.2 = p := ⟨_, rfl⟩
    rw [e3] at l3 h0 ⊢
    have l4 := aI (l := l) p3.2 l3.1
    obtain ⟨p4, e4⟩ : ∃ p, aft 0 (Cd.rdInt l) p3.2 = p := ⟨_, rfl⟩
    rw [e4] at l4 h0 ⊢
    have l5 := aN (l := l) p4.2 l4.1
    obtain ⟨p5, e5⟩ : ∃ p, aft 0 (rdNum l) p4.2 = p := ⟨_, rfl⟩
    rw [e5] at l5 h0 ⊢
    obtain ⟨k5, x5, n5, r5, q5⟩ := l5.2.1 h0
    obtain ⟨k4, x4, n4, r4, q4⟩ := l4.2.1 k5
    obtain ⟨k3, x3, n3, r3, q3⟩ := l3.2.1 k4
    obtain ⟨k2, x2, n2, r2, q2⟩ := l2.2.1 k3
    obtain ⟨k1, x1, n1, r1, q1⟩ := l1.2.1 k2
    rw [q2] at h0'
    rw [q1, q2, q3, q4, q5]
    have := size_rd r1
    have := size_rd r3
    have := rdInt_in r4
    have := (rdNum_le r5).2
    have := (rdNum_le r2).2
    simp only at h0'
    exact ⟨by simp only; omega, ⟨by simp only; omega, by simp only; omega⟩, by simp only; omega, rdInt_in r4, by simp only; omega⟩
  · cases h
end Go.Proofs.YtpbheicfplpemaaGreat
