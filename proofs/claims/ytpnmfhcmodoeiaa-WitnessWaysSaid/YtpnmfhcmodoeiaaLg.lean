/- What is too large; a net and a question in boxes. -/
import Derived.Test.YtpnmfhcmodoeiaaW4
import Derived.Test.YtpnmfhcmodoeiaaNp
namespace Go.Proofs.Ytpnmfhcmodoeiaa
open Go.RowKit
def largeB (n m k : Nat) : Bool := decide (300 < n) || decide (50 < m) || decide (50 < k)
theorem large_any (A B C : Option Addr) (n c m d k e : Nat) (w : World) : Calls Try.prog 11 #[.agg #[.slice A n c, .slice B m d, .slice C k e]] w fun r w' => r = .returned (.bool (largeB n m k)) ∧ Below w.heap.size w w' := by
  have hb : Below w.heap.size w (w.alloc (.cells #[.slice A n c, .slice B m d, .slice C k e] 25)) := (Below.refl _ _).alloc (Nat.le_refl _) _
  by_cases h1 : 300 < n
  · have hL : largeB n m k = true := by unfold largeB; simp [h1]
    have g1 : (300 : Int) < (n : Int) := by omega
    rw [hL]
    go_enter Try.func11, Try.ntmps11
    go_wp2_with fail
    go_ret
    exact ⟨rfl, hb⟩
  · have g1 : ¬ (300 : Int) < (n : Int) := by omega
    by_cases h2 : 50 < m
    · have hL : largeB n m k = true := by unfold largeB; simp [h2]
      have g2 : (50 : Int) < (m : Int) := by omega
      rw [hL]
      go_enter Try.func11, Try.ntmps11
      go_wp2_with fail
      go_ret
      exact ⟨rfl, hb⟩
    · have g2 : ¬ (50 : Int) < (m : Int) := by omega
      by_cases h3 : 50 < k
      · have hL : largeB n m k = true := by unfold largeB; simp [h3]
        have g3 : (50 : Int) < (k : Int) := by omega
        rw [hL]
        go_enter Try.func11, Try.ntmps11
        go_wp2_with fail
        go_ret
        exact ⟨rfl, hb⟩
      · have g3 : ¬ (50 : Int) < (k : Int) := by omega
        have hL : largeB n m k = false := by unfold largeB; simp [h1, h2, h3]
        rw [hL]
        go_enter Try.func11, Try.ntmps11
        go_wp2_with fail
        go_ret
        exact ⟨rfl, hb⟩
theorem small_of {n m k : Nat} (h : largeB n m k = false) : n ≤ 300 ∧ m ≤ 50 ∧ k ≤ 50 := by
  unfold largeB at h
  simp at h
  omega
/-- the lists of a net that is not too large -/
theorem NetIn.lists {W : World} {A B C : Option Addr} {n m k : Nat} (h : NetIn W A B C n m k) (hs : largeB n m k = false) :
    ∃ (E : List Edg) (bad shun : List Nat), E.length = n ∧ bad.length = m ∧ shun.length = k ∧ E.length ≤ 300 ∧ bad.length ≤ 50 ∧ shun.length ≤ 50 ∧ ELs W.heap.size W A E ∧ VLs W.heap.size W B bad ∧ VLs W.heap.size W C shun := by
  obtain ⟨h0, h1, h2⟩ := small_of hs
  obtain ⟨E, e1, e2⟩ := h.l0 (by omega)
  obtain ⟨bad, b1, b2⟩ := h.l1 (by omega)
  obtain ⟨shun, s1, s2⟩ := h.l2 (by omega)
  exact ⟨E, bad, shun, e1, b1, s1, by omega, by omega, by omega, e2, b2, s2⟩
/-- a net in a box of its own, and one box more -/
theorem boxed_net {w : World} {A B C : Option Addr} {E : List Edg} {bad shun : List Nat} (c d e : Nat) (h0 : ELs w.heap.size w A E) (h1 : VLs w.heap.size w B bad) (h2 : VLs w.heap.size w C shun) (o : Obj) :
    ∃ W, (w.alloc (.cells #[.slice A E.length c, .slice B bad.length d, .slice C shun.length e] 25)).alloc o = W ∧ NetAt W.heap.size w.heap.size E bad shun W ∧ Below w.heap.size w W ∧ W.heap.size = w.heap.size + 2 ∧ W.heap[w.heap.size + 1]? = some o ∧
      W.heap[w.heap.size]? = some (.cells #[.slice A E.length c, .slice B bad.length d, .slice C shun.length e] 25 (0, 0)) := by
  have b1 : Below w.heap.size w (w.alloc (.cells #[.slice A E.length c, .slice B bad.length d, .slice C shun.length e] 25)) := (Below.refl _ _).alloc (Nat.le_refl _) _
  have s1 : (w.alloc (.cells #[.slice A E.length c, .slice B bad.length d, .slice C shun.length e] 25)).heap.size = w.heap.size + 1 := by simp
  have n1 := heap_alloc_new w (.cells #[.slice A E.length c, .slice B bad.length d, .slice C shun.length e] 25)
  have m1 : NetAt w.heap.size w.heap.size E bad shun (w.alloc (.cells #[.slice A E.length c, .slice B bad.length d, .slice C shun.length e] 25)) :=
    ⟨A, c, B, d, C, e, n1, h0.below b1, h1.below b1, h2.below b1⟩
  have b2 := (Below.refl (w.alloc (.cells #[.slice A E.length c, .slice B bad.length d, .slice C shun.length e] 25)).heap.size (w.alloc (.cells #[.slice A E.length c, .slice B bad.length d, .slice C shun.length e] 25))).alloc (Nat.le_refl _) o
  refine ⟨_, rfl, (m1.below (by omega) b2).more (by simp; omega), b1.trans (b2.mono (by omega)), by simp, ?_, (b2.block _ (by omega)).trans n1⟩
  have := heap_alloc_new (w.alloc (.cells #[.slice A E.length c, .slice B bad.length d, .slice C shun.length e] 25)) o
  rw [s1] at this
  exact this
end Go.Proofs.Ytpnmfhcmodoeiaa
