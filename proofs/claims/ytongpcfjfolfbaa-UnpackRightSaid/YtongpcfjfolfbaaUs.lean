/- Sums of edges that follow on one another, in plain words. -/
import Derived.Test.YtongpcfjfolfbaaUv
namespace Go.Proofs.Ytongpcfjfolfbaa
open Go.RowKit

theorem getLast?_take (l : List Edg) (i : Nat) (hi : i < l.length) : (l.take (i + 1)).getLast? = some l[i] := by
  rw [List.take_succ_eq_append_getElem hi, List.getLast?_append]; rfl
theorem chain_snoc (l : List Edg) (i : Nat) (hi : i + 1 < l.length) : chainB (l.take (i + 2)) = (chainB (l.take (i + 1)) && (l[i].head == l[i + 1].tail)) := by
  rw [List.take_succ_eq_append_getElem hi, chain_app, getLast?_take l i (by omega)]
  simp [chainB]
theorem chain_take (l : List Edg) (i : Nat) (h : chainB l = true) : chainB (l.take i) = true := by
  have := chain_app (l.take i) (l.drop i)
  rw [List.take_append_drop, h] at this
  cases e : chainB (l.take i) with
  | true => rfl
  | false => rw [e] at this; simp at this
theorem tot_take (l : List Edg) (i : Nat) : tot (l.take i) ≤ tot l := by
  have := tot_app (l.take i) (l.drop i)
  rw [List.take_append_drop] at this
  omega
theorem tot_snoc (l : List Edg) (i : Nat) (hi : i < l.length) : tot (l.take (i + 1)) = tot (l.take i) + l[i].weight := by
  rw [List.take_succ_eq_append_getElem hi, tot_app]; simp [tot]

/-- how far a sum has come -/
def SumAt (l : List Edg) (i : Nat) (s : Nat) : Prop := chainB (l.take i) = true ∧ tot (l.take i) = s ∧ s < 9223372036854775808
theorem sumAt_zero (l : List Edg) : SumAt l 0 0 := ⟨rfl, rfl, by omega⟩
theorem sumAt_end {l : List Edg} {s : Nat} (h : SumAt l l.length s) : sumOk l = true ∧ sumOf l = s := by
  obtain ⟨h1, h2, h3⟩ := h
  rw [List.take_length] at h1 h2
  have : sumOk l = true := by unfold sumOk; rw [h1, h2]; simp [h3]
  exact ⟨this, by unfold sumOf; rw [if_pos this, h2]⟩
theorem sumAt_first {l : List Edg} {s : Nat} (h : SumAt l 0 s) : s = 0 := h.2.1.symm
theorem sumAt_gap {l : List Edg} {i s : Nat} (h : SumAt l (i + 1) s) (hi : i + 1 < l.length) (hg : l[i].head ≠ l[i + 1].tail) : sumOk l = false ∧ sumOf l = 0 := by
  have : sumOk l = false := by
    cases e : sumOk l with
    | false => rfl
    | true =>
      have hc : chainB l = true := by unfold sumOk at e; simp at e; exact e.1
      have := chain_take l (i + 2) hc
      rw [chain_snoc l i hi, h.1] at this
      simp at this
      exact absurd this hg
  exact ⟨this, by unfold sumOf; rw [if_neg (by simp [this])]⟩
theorem sumAt_next0 {l : List Edg} {s : Nat} (h : SumAt l 0 s) (hi : 0 < l.length) (hf : fitsB s l[0].weight = true) : SumAt l 1 (s + l[0].weight) := by
  have := fitsB_yes hf
  refine ⟨?_, by rw [tot_snoc l 0 hi, h.2.1], this⟩
  rw [List.take_succ_eq_append_getElem hi]
  simp [chainB]
theorem sumAt_next {l : List Edg} {i s : Nat} (h : SumAt l (i + 1) s) (hi : i + 1 < l.length) (hg : l[i].head = l[i + 1].tail) (hf : fitsB s l[i + 1].weight = true) : SumAt l (i + 2) (s + l[i + 1].weight) := by
  have := fitsB_yes hf
  refine ⟨?_, by rw [tot_snoc l (i + 1) hi, h.2.1], this⟩
  rw [chain_snoc l i hi, h.1]
  simp [hg]
theorem sumAt_over {l : List Edg} {i s : Nat} (h : SumAt l i s) (hi : i < l.length) (hf : fitsB s l[i].weight = false) : sumOk l = false ∧ sumOf l = 0 := by
  have : sumOk l = false := by
    cases e : sumOk l with
    | false => rfl
    | true =>
      have hc : tot l < 9223372036854775808 := by unfold sumOk at e; simp at e; exact e.2
      have h1 := tot_take l (i + 1)
      rw [tot_snoc l i hi, h.2.1] at h1
      have := fitsB_no hf
      omega
  exact ⟨this, by unfold sumOf; rw [if_neg (by simp [this])]⟩

/-- does the second row begin where the first one ends? -/
def meetsB (l m : List Edg) : Bool := match l.getLast?, m.head? with | some x, some y => x.head == y.tail | _, _ => true
theorem sumOf_lt (l : List Edg) : sumOf l < 9223372036854775808 := by
  unfold sumOf
  by_cases h : sumOk l = true
  · rw [if_pos h]; unfold sumOk at h; simp at h; exact h.2
  · rw [if_neg h]; omega
theorem sum_join (l m : List Edg) : sumOk (l ++ m) = (sumOk l && sumOk m && fitsB (sumOf l) (sumOf m) && meetsB l m) := by
  have hc := chain_app l m
  have ht := tot_app l m
  unfold sumOf
  cases e1 : sumOk l with
  | false =>
    simp only [Bool.false_and]
    unfold sumOk at e1 ⊢
    rw [hc, ht]
    cases c1 : chainB l with
    | false => simp
    | true => rw [c1] at e1; simp at e1; simp; intros; omega
  | true =>
    cases e2 : sumOk m with
    | false =>
      simp only [Bool.and_false, Bool.false_and]
      unfold sumOk at e2 ⊢
      rw [hc, ht]
      cases c1 : chainB m with
      | false => simp
      | true => rw [c1] at e2; simp at e2; simp; intros; omega
    | true =>
      simp only [if_true, Bool.true_and]
      unfold sumOk at e1 e2 ⊢
      simp at e1 e2
      rw [hc, ht, e1.1, e2.1]
      simp only [Bool.true_and]
      rw [Bool.and_comm]
      rfl
theorem sum_join_of (l m : List Edg) (h : sumOk (l ++ m) = true) : sumOf (l ++ m) = sumOf l + sumOf m := by
  have hj := sum_join l m
  rw [h] at hj
  have h2 : (sumOk l = true ∧ sumOk m = true) := by
    cases a : sumOk l <;> cases b : sumOk m <;> rw [a, b] at hj <;> first | exact ⟨rfl, rfl⟩ | exact absurd hj (by simp)
  unfold sumOf
  rw [if_pos h, if_pos h2.1, if_pos h2.2, tot_app]
theorem sum_no {l : List Edg} (h : sumOk l = false) : sumOf l = 0 := by unfold sumOf; rw [if_neg (by simp [h])]
/-- a right way sums to its weight -/
theorem right_sum {g : Nat → Nat → Edg × Int} {a b wt : Nat} {M : List Edg} (r : Right g a b wt M) (h : wt < 9223372036854775808) : sumOk M = true ∧ sumOf M = wt := by
  have : sumOk M = true := by unfold sumOk; rw [r.chain, r.sum]; simp [h]
  exact ⟨this, by unfold sumOf; rw [if_pos this, r.sum]⟩
end Go.Proofs.Ytongpcfjfolfbaa
