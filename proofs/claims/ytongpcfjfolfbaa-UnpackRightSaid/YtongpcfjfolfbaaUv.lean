/- What opening an edge tells, in plain words, and what follows of it. -/
import Derived.Test.YtongpcfjfolfbaaEd
import Derived.Test.YtongpcfjfolfbaaWt
namespace Go.Proofs.Ytongpcfjfolfbaa
open Go.RowKit

/-- what opening an edge tells: an error, or a weight and the edges so far -/
inductive Res where
  | bad (e : Int)
  | good (wt : Nat) (l : List Edg)

/-- opening an edge, so many shortcuts deep at most -/
def openV (g : Nat → Nat → Edg × Int) : Nat → List Edg → Nat → Nat → Res
  | k, L, a, b =>
    if (g a b).2 ≠ 0 then .bad (g a b).2
    else if (g a b).1.tail ≠ a ∨ (g a b).1.head ≠ b then .bad 7
    else if (g a b).1.mid = 4294967295 then (if L.length < 65536 then .good (g a b).1.weight (L ++ [(g a b).1]) else .bad 9)
    else match k with
      | 0 => .bad 9
      | k + 1 => match openV g k L a (g a b).1.mid with
        | .bad e => .bad e
        | .good one L1 => match openV g k L1 (g a b).1.mid b with
          | .bad e => .bad e
          | .good two L2 => if fitsB one two = true ∧ one + two = (g a b).1.weight then .good (one + two) L2 else .bad 7

section
variable {g : Nat → Nat → Edg × Int} {k : Nat} {L L1 L2 : List Edg} {a b : Nat}
theorem openV_err (h : (g a b).2 ≠ 0) : openV g k L a b = .bad (g a b).2 := by unfold openV; rw [if_pos h]
theorem openV_ends (h : (g a b).2 = 0) (h2 : (g a b).1.tail ≠ a ∨ (g a b).1.head ≠ b) : openV g k L a b = .bad 7 := by
  unfold openV; rw [if_neg (fun e => e h), if_pos h2]
theorem openV_leaf (h : (g a b).2 = 0) (h2 : (g a b).1.tail = a ∧ (g a b).1.head = b) (h3 : (g a b).1.mid = 4294967295) (h4 : L.length < 65536) :
    openV g k L a b = .good (g a b).1.weight (L ++ [(g a b).1]) := by
  unfold openV; rw [if_neg (fun e => e h), if_neg (fun e => e.elim (fun x => x h2.1) (fun x => x h2.2)), if_pos h3, if_pos h4]
theorem openV_full (h : (g a b).2 = 0) (h2 : (g a b).1.tail = a ∧ (g a b).1.head = b) (h3 : (g a b).1.mid = 4294967295) (h4 : ¬ L.length < 65536) :
    openV g k L a b = .bad 9 := by
  unfold openV; rw [if_neg (fun e => e h), if_neg (fun e => e.elim (fun x => x h2.1) (fun x => x h2.2)), if_pos h3, if_neg h4]
theorem openV_deep (h : (g a b).2 = 0) (h2 : (g a b).1.tail = a ∧ (g a b).1.head = b) (h3 : (g a b).1.mid ≠ 4294967295) : openV g 0 L a b = .bad 9 := by
  unfold openV; rw [if_neg (fun e => e h), if_neg (fun e => e.elim (fun x => x h2.1) (fun x => x h2.2)), if_neg h3]
theorem openV_two (h : (g a b).2 = 0) (h2 : (g a b).1.tail = a ∧ (g a b).1.head = b) (h3 : (g a b).1.mid ≠ 4294967295) :
    openV g (k + 1) L a b = match openV g k L a (g a b).1.mid with
        | .bad e => .bad e
        | .good one L1 => match openV g k L1 (g a b).1.mid b with
          | .bad e => .bad e
          | .good two L2 => if fitsB one two = true ∧ one + two = (g a b).1.weight then .good (one + two) L2 else .bad 7 := by
  conv => lhs; unfold openV
  rw [if_neg (fun e => e h), if_neg (fun e => e.elim (fun x => x h2.1) (fun x => x h2.2)), if_neg h3]
theorem openV_bad1 {e : Int} (h : (g a b).2 = 0) (h2 : (g a b).1.tail = a ∧ (g a b).1.head = b) (h3 : (g a b).1.mid ≠ 4294967295) (h4 : openV g k L a (g a b).1.mid = .bad e) :
    openV g (k + 1) L a b = .bad e := by rw [openV_two h h2 h3, h4]
theorem openV_bad2 {e : Int} {one : Nat} (h : (g a b).2 = 0) (h2 : (g a b).1.tail = a ∧ (g a b).1.head = b) (h3 : (g a b).1.mid ≠ 4294967295) (h4 : openV g k L a (g a b).1.mid = .good one L1)
    (h5 : openV g k L1 (g a b).1.mid b = .bad e) : openV g (k + 1) L a b = .bad e := by rw [openV_two h h2 h3, h4]; simp only [h5]
theorem openV_sum {one two : Nat} (h : (g a b).2 = 0) (h2 : (g a b).1.tail = a ∧ (g a b).1.head = b) (h3 : (g a b).1.mid ≠ 4294967295) (h4 : openV g k L a (g a b).1.mid = .good one L1)
    (h5 : openV g k L1 (g a b).1.mid b = .good two L2) (h6 : fitsB one two = true ∧ one + two = (g a b).1.weight) : openV g (k + 1) L a b = .good (one + two) L2 := by
  rw [openV_two h h2 h3, h4]; simp only [h5]; rw [if_pos h6]
theorem openV_rot {one two : Nat} (h : (g a b).2 = 0) (h2 : (g a b).1.tail = a ∧ (g a b).1.head = b) (h3 : (g a b).1.mid ≠ 4294967295) (h4 : openV g k L a (g a b).1.mid = .good one L1)
    (h5 : openV g k L1 (g a b).1.mid b = .good two L2) (h6 : ¬ (fitsB one two = true ∧ one + two = (g a b).1.weight)) : openV g (k + 1) L a b = .bad 7 := by
  rw [openV_two h h2 h3, h4]; simp only [h5]; rw [if_neg h6]
end

theorem openV_weight {g : Nat → Nat → Edg × Int} {k : Nat} {L L' : List Edg} {a b wt : Nat} (h : openV g k L a b = .good wt L') : wt = (g a b).1.weight := by
  by_cases h1 : (g a b).2 = 0
  · by_cases h2 : (g a b).1.tail = a ∧ (g a b).1.head = b
    · by_cases h3 : (g a b).1.mid = 4294967295
      · by_cases h4 : L.length < 65536
        · rw [openV_leaf h1 h2 h3 h4] at h; injection h with e1 _; exact e1.symm
        · rw [openV_full h1 h2 h3 h4] at h; exact absurd h (by simp)
      · cases k with
        | zero => rw [openV_deep h1 h2 h3] at h; exact absurd h (by simp)
        | succ k =>
          cases h4 : openV g k L a (g a b).1.mid with
          | bad e => rw [openV_bad1 h1 h2 h3 h4] at h; exact absurd h (by simp)
          | good one L1 =>
            cases h5 : openV g k L1 (g a b).1.mid b with
            | bad e => rw [openV_bad2 h1 h2 h3 h4 h5] at h; exact absurd h (by simp)
            | good two L2 =>
              by_cases h6 : fitsB one two = true ∧ one + two = (g a b).1.weight
              · rw [openV_sum h1 h2 h3 h4 h5 h6] at h; injection h with e1 _; omega
              · rw [openV_rot h1 h2 h3 h4 h5 h6] at h; exact absurd h (by simp)
    · rw [openV_ends h1 (by omega)] at h; exact absurd h (by simp)
  · rw [openV_err h1] at h; exact absurd h (by simp)

theorem openV_bad_ne {g : Nat → Nat → Edg × Int} : ∀ {k : Nat} {L : List Edg} {a b : Nat} {e : Int}, openV g k L a b = .bad e → e ≠ 0 := by
  intro k
  induction k with
  | zero =>
    intro L a b e h
    by_cases h1 : (g a b).2 = 0
    · by_cases h2 : (g a b).1.tail = a ∧ (g a b).1.head = b
      · by_cases h3 : (g a b).1.mid = 4294967295
        · by_cases h4 : L.length < 65536
          · rw [openV_leaf h1 h2 h3 h4] at h; exact absurd h (by simp)
          · rw [openV_full h1 h2 h3 h4] at h; injection h with e1; omega
        · rw [openV_deep h1 h2 h3] at h; injection h with e1; omega
      · rw [openV_ends h1 (by omega)] at h; injection h with e1; omega
    · rw [openV_err h1] at h; injection h with e1; omega
  | succ k ih =>
    intro L a b e h
    by_cases h1 : (g a b).2 = 0
    · by_cases h2 : (g a b).1.tail = a ∧ (g a b).1.head = b
      · by_cases h3 : (g a b).1.mid = 4294967295
        · by_cases h4 : L.length < 65536
          · rw [openV_leaf h1 h2 h3 h4] at h; exact absurd h (by simp)
          · rw [openV_full h1 h2 h3 h4] at h; injection h with e1; omega
        · cases h4 : openV g k L a (g a b).1.mid with
          | bad e' => rw [openV_bad1 h1 h2 h3 h4] at h; injection h with e1; subst e1; exact ih h4
          | good one L1 =>
            cases h5 : openV g k L1 (g a b).1.mid b with
            | bad e' => rw [openV_bad2 h1 h2 h3 h4 h5] at h; injection h with e1; subst e1; exact ih h5
            | good two L2 =>
              by_cases h6 : fitsB one two = true ∧ one + two = (g a b).1.weight
              · rw [openV_sum h1 h2 h3 h4 h5 h6] at h; exact absurd h (by simp)
              · rw [openV_rot h1 h2 h3 h4 h5 h6] at h; injection h with e1; omega
      · rw [openV_ends h1 (by omega)] at h; injection h with e1; omega
    · rw [openV_err h1] at h; injection h with e1; omega

/-- edges follow on one another -/
def chainB : List Edg → Bool
  | [] => true
  | [_] => true
  | x :: y :: r => (x.head == y.tail) && chainB (y :: r)
/-- the weights together -/
def tot (l : List Edg) : Nat := (l.map Edg.weight).sum
def sumOk (l : List Edg) : Bool := chainB l && decide (tot l < 9223372036854775808)
def sumOf (l : List Edg) : Nat := if sumOk l = true then tot l else 0

theorem tot_nil : tot [] = 0 := rfl
theorem tot_cons (x : Edg) (l : List Edg) : tot (x :: l) = x.weight + tot l := by simp [tot]
theorem tot_app (l m : List Edg) : tot (l ++ m) = tot l + tot m := by simp [tot]
theorem chain_app : ∀ (l m : List Edg), chainB (l ++ m) = (chainB l && chainB m && (match l.getLast?, m.head? with | some x, some y => x.head == y.tail | _, _ => true))
  | [], m => by simp [chainB]
  | [x], [] => by simp [chainB]
  | [x], y :: r => by simp [chainB, Bool.and_comm]
  | x :: y :: r, m => by
    have := chain_app (y :: r) m
    simp only [List.cons_append] at this ⊢
    rw [chainB, this, chainB]
    have e : (x :: y :: r).getLast? = (y :: r).getLast? := by simp [List.getLast?_cons]
    rw [e, Bool.and_assoc, Bool.and_assoc, Bool.and_assoc]

/-- what is told of an edge that is opened -/
structure Right (g : Nat → Nat → Edg × Int) (a b : Nat) (wt : Nat) (M : List Edg) : Prop where
  ne : M ≠ []
  chain : chainB M = true
  first : M.head?.map Edg.tail = some a
  last : M.getLast?.map Edg.head = some b
  told : ∀ y ∈ M, g y.tail y.head = (y, 0) ∧ y.mid = 4294967295
  sum : tot M = wt
  ok : (g a b).2 = 0
  is : wt = (g a b).1.weight
  two : (M = [(g a b).1] ∧ (g a b).1.mid = 4294967295) ∨ (2 ≤ M.length ∧ (g a b).1.mid ≠ 4294967295 ∧ wt < 9223372036854775808)

theorem openV_right (g : Nat → Nat → Edg × Int) : ∀ (k : Nat) (L : List Edg) (a b wt : Nat) (L' : List Edg), L.length ≤ 65536 → openV g k L a b = .good wt L' →
    L'.length ≤ 65536 ∧ ∃ M, L' = L ++ M ∧ Right g a b wt M := by
  intro k
  induction k with
  | zero =>
    intro L a b wt L' hL h
    by_cases h1 : (g a b).2 = 0
    · by_cases h2 : (g a b).1.tail = a ∧ (g a b).1.head = b
      · by_cases h3 : (g a b).1.mid = 4294967295
        · by_cases h4 : L.length < 65536
          · rw [openV_leaf h1 h2 h3 h4] at h
            injection h with e1 e2
            subst e1 e2
            refine ⟨by simp; omega, [(g a b).1], rfl, by simp, rfl, by simp [h2], by simp [h2], ?_, by simp [tot], h1, rfl, .inl ⟨rfl, h3⟩⟩
            intro y hy
            obtain rfl : y = (g a b).1 := by simpa using hy
            exact ⟨by rw [h2.1, h2.2]; exact Prod.ext rfl h1, h3⟩
          · rw [openV_full h1 h2 h3 h4] at h; exact absurd h (by simp)
        · rw [openV_deep h1 h2 h3] at h; exact absurd h (by simp)
      · rw [openV_ends h1 (by omega)] at h; exact absurd h (by simp)
    · rw [openV_err h1] at h; exact absurd h (by simp)
  | succ k ih =>
    intro L a b wt L' hL h
    by_cases h1 : (g a b).2 = 0
    · by_cases h2 : (g a b).1.tail = a ∧ (g a b).1.head = b
      · by_cases h3 : (g a b).1.mid = 4294967295
        · by_cases h4 : L.length < 65536
          · rw [openV_leaf h1 h2 h3 h4] at h
            injection h with e1 e2
            subst e1 e2
            refine ⟨by simp; omega, [(g a b).1], rfl, by simp, rfl, by simp [h2], by simp [h2], ?_, by simp [tot], h1, rfl, .inl ⟨rfl, h3⟩⟩
            intro y hy
            obtain rfl : y = (g a b).1 := by simpa using hy
            exact ⟨by rw [h2.1, h2.2]; exact Prod.ext rfl h1, h3⟩
          · rw [openV_full h1 h2 h3 h4] at h; exact absurd h (by simp)
        · cases h4 : openV g k L a (g a b).1.mid with
          | bad e => rw [openV_bad1 h1 h2 h3 h4] at h; exact absurd h (by simp)
          | good one L1 =>
            cases h5 : openV g k L1 (g a b).1.mid b with
            | bad e => rw [openV_bad2 h1 h2 h3 h4 h5] at h; exact absurd h (by simp)
            | good two L2 =>
              by_cases h6 : fitsB one two = true ∧ one + two = (g a b).1.weight
              · rw [openV_sum h1 h2 h3 h4 h5 h6] at h
                injection h with e1 e2
                subst e1 e2
                obtain ⟨n1, M1, rfl, r1⟩ := ih _ _ _ _ _ hL h4
                obtain ⟨n2, M2, rfl, r2⟩ := ih _ _ _ _ _ n1 h5
                refine ⟨n2, M1 ++ M2, by simp, by simp [r1.ne], ?_, ?_, ?_, ?_, by rw [tot_app, r1.sum, r2.sum], h1, h6.2, .inr ⟨?_, h3, fitsB_yes h6.1⟩⟩
                · rw [chain_app, r1.chain, r2.chain]
                  have hl := r1.last
                  have hf := r2.first
                  cases hx : M1.getLast? with
                  | none => rw [hx] at hl; simp at hl
                  | some x =>
                    cases hy : M2.head? with
                    | none => rw [hy] at hf; simp at hf
                    | some y =>
                      rw [hx] at hl
                      rw [hy] at hf
                      simp at hl hf
                      simp [hl, hf]
                · have := r1.first
                  cases M1 with
                  | nil => exact absurd rfl r1.ne
                  | cons x r => simpa using this
                · have := r2.last
                  rw [List.getLast?_append]
                  cases hx : M2.getLast? with
                  | none => rw [hx] at this; simp at this
                  | some x => rw [hx] at this; simpa using this
                · intro y hy
                  rcases List.mem_append.1 hy with hy | hy
                  · exact r1.told y hy
                  · exact r2.told y hy
                · have := List.length_pos_iff.2 r1.ne
                  have := List.length_pos_iff.2 r2.ne
                  rw [List.length_append]; omega
              · rw [openV_rot h1 h2 h3 h4 h5 h6] at h; exact absurd h (by simp)
      · rw [openV_ends h1 (by omega)] at h; exact absurd h (by simp)
    · rw [openV_err h1] at h; exact absurd h (by simp)
end Go.Proofs.Ytongpcfjfolfbaa
