/- What is too large in chapter 17; a net in a box. -/
import Derived.Test.YtiiaeddbeohplaaW7
import Derived.Test.YtiiaeddbeohplaaNo
namespace Go.Proofs.Ytiiaeddbeohplaa
open Go.RowKit
def largeB (n m k : Nat) : Bool := decide (80 < n) || decide (20 < m) || decide (20 < k)
theorem large_any (A B C : Option Addr) (n c m d k e : Nat) (w : World) : Calls Try.prog 10 #[.agg #[.slice A n c, .slice B m d, .slice C k e]] w fun r w' => r = .returned (.bool (largeB n m k)) ∧ Below w.heap.size w w' := by
  have hb : Below w.heap.size w (w.alloc (.cells #[.slice A n c, .slice B m d, .slice C k e] 25)) := (Below.refl _ _).alloc (Nat.le_refl _) _
  by_cases h1 : 80 < n
  · have hL : largeB n m k = true := by unfold largeB; simp [h1]
    have g1 : (80 : Int) < (n : Int) := by omega
    rw [hL]
    go_enter Try.func10, Try.ntmps10
    go_wp2_with fail
    go_ret
    exact ⟨rfl, hb⟩
  · have g1 : ¬ (80 : Int) < (n : Int) := by omega
    by_cases h2 : 20 < m
    · have hL : largeB n m k = true := by unfold largeB; simp [h2]
      have g2 : (20 : Int) < (m : Int) := by omega
      rw [hL]
      go_enter Try.func10, Try.ntmps10
      go_wp2_with fail
      go_ret
      exact ⟨rfl, hb⟩
    · have g2 : ¬ (20 : Int) < (m : Int) := by omega
      by_cases h3 : 20 < k
      · have hL : largeB n m k = true := by unfold largeB; simp [h3]
        have g3 : (20 : Int) < (k : Int) := by omega
        rw [hL]
        go_enter Try.func10, Try.ntmps10
        go_wp2_with fail
        go_ret
        exact ⟨rfl, hb⟩
      · have g3 : ¬ (20 : Int) < (k : Int) := by omega
        have hL : largeB n m k = false := by unfold largeB; simp [h1, h2, h3]
        rw [hL]
        go_enter Try.func10, Try.ntmps10
        go_wp2_with fail
        go_ret
        exact ⟨rfl, hb⟩
theorem small_of {n m k : Nat} (h : largeB n m k = false) : n ≤ 80 ∧ m ≤ 20 ∧ k ≤ 20 := by
  unfold largeB at h
  simp at h
  omega
/-- the lists of a net that is not too large -/
theorem NetIn.lists {W : World} {A B C : Option Addr} {n m k : Nat} (h : NetIn W A B C n m k) (hs : largeB n m k = false) :
    ∃ (E : List Edg) (bad shun : List Nat), E.length = n ∧ bad.length = m ∧ shun.length = k ∧ E.length ≤ 80 ∧ bad.length ≤ 20 ∧ shun.length ≤ 20 ∧ ELs W.heap.size W A E ∧ VLs W.heap.size W B bad ∧ VLs W.heap.size W C shun := by
  obtain ⟨h0, h1, h2⟩ := small_of hs
  obtain ⟨E, e1, e2⟩ := h.l0 (by omega)
  obtain ⟨bad, b1, b2⟩ := h.l1 (by omega)
  obtain ⟨shun, s1, s2⟩ := h.l2 (by omega)
  exact ⟨E, bad, shun, e1, b1, s1, by omega, by omega, by omega, e2, b2, s2⟩
/-- a net in a box of its own -/
theorem boxed_net {w : World} {A B C : Option Addr} {E : List Edg} {bad shun : List Nat} (c d e : Nat) (h0 : ELs w.heap.size w A E) (h1 : VLs w.heap.size w B bad) (h2 : VLs w.heap.size w C shun) :
    ∃ W, w.alloc (.cells #[.slice A E.length c, .slice B bad.length d, .slice C shun.length e] 25) = W ∧ NetAt W.heap.size w.heap.size E bad shun W ∧ Below w.heap.size w W ∧ W.heap.size = w.heap.size + 1 ∧
      W.heap[w.heap.size]? = some (.cells #[.slice A E.length c, .slice B bad.length d, .slice C shun.length e] 25 (0, 0)) := by
  have b1 : Below w.heap.size w (w.alloc (.cells #[.slice A E.length c, .slice B bad.length d, .slice C shun.length e] 25)) := (Below.refl _ _).alloc (Nat.le_refl _) _
  have s1 : (w.alloc (.cells #[.slice A E.length c, .slice B bad.length d, .slice C shun.length e] 25)).heap.size = w.heap.size + 1 := by simp
  have n1 := heap_alloc_new w (.cells #[.slice A E.length c, .slice B bad.length d, .slice C shun.length e] 25)
  have m1 : NetAt w.heap.size w.heap.size E bad shun (w.alloc (.cells #[.slice A E.length c, .slice B bad.length d, .slice C shun.length e] 25)) :=
    ⟨A, c, B, d, C, e, n1, h0.below b1, h1.below b1, h2.below b1⟩
  exact ⟨_, rfl, m1.more (by omega), b1, s1, n1⟩
end Go.Proofs.Ytiiaeddbeohplaa
