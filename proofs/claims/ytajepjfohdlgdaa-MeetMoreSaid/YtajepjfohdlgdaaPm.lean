/- Plain words on labels: no program here. -/
namespace Go.Proofs.Ytajepjfohdlgdaa

/-- a label: its hub, its next vertex, its distance, within their words -/
structure Lbl where
  hub : Nat
  next : Nat
  dist : Nat
  hhub : hub < 4294967296
  hnext : next < 4294967296
  hdist : dist < 18446744073709551616

theorem Lbl.ext_ {a b : Lbl} (h1 : a.hub = b.hub) (h2 : a.next = b.next) (h3 : a.dist = b.dist) : a = b := by
  cases a; cases b; simp only at h1 h2 h3; subst h1; subst h2; subst h3; rfl

/-- do the hubs rise? -/
def rightB : List Lbl → Bool
  | a :: b :: r => decide (a.hub < b.hub) && rightB (b :: r)
  | _ => true

theorem rightB_at : ∀ {l : List Lbl}, rightB l = true → ∀ (i : Nat) (h : i + 1 < l.length), (l[i]'(by omega)).hub < (l[i + 1]).hub
  | [], _, i, h => by simp at h
  | [_], _, i, h => by simp at h
  | a :: b :: r, hr, i, h => by
    simp only [rightB, Bool.and_eq_true, decide_eq_true_eq] at hr
    cases i with
    | zero => exact hr.1
    | succ i => exact rightB_at hr.2 i (by simpa using h)

theorem rightB_of : ∀ {l : List Lbl}, (∀ (i : Nat) (h : i + 1 < l.length), (l[i]'(by omega)).hub < (l[i + 1]).hub) → rightB l = true
  | [], _ => rfl
  | [_], _ => rfl
  | a :: b :: r, h => by
    simp only [rightB, Bool.and_eq_true, decide_eq_true_eq]
    exact ⟨h 0 (by simp), rightB_of fun i hi => h (i + 1) (by simpa using hi)⟩

theorem rightB_not {l : List Lbl} (i : Nat) (h : i + 1 < l.length) (hge : (l[i + 1]).hub ≤ (l[i]'(by omega)).hub) : rightB l = false := by
  cases hr : rightB l with
  | false => rfl
  | true => have := rightB_at hr i h; omega

/-- the first k labels rise -/
def RisesTo (l : List Lbl) (k : Nat) : Prop := ∀ (i : Nat) (h : i + 1 < l.length), i + 1 < k → (l[i]'(by omega)).hub < (l[i + 1]).hub

theorem RisesTo.zero (l : List Lbl) (k : Nat) (hk : k ≤ 1) : RisesTo l k := fun i _ h => absurd h (by omega)
theorem RisesTo.next {l : List Lbl} {k : Nat} (h : RisesTo l k) (hk : k < l.length) (h1 : 1 ≤ k) (hlt : (l[k - 1]'(by omega)).hub < (l[k]).hub) : RisesTo l (k + 1) := fun i hi hik => by
  by_cases e : i + 1 = k
  · subst e; exact hlt
  · exact h i hi (by omega)
theorem RisesTo.all {l : List Lbl} {k : Nat} (h : RisesTo l k) (hk : l.length ≤ k) : rightB l = true := rightB_of fun i hi => h i hi (by omega)
theorem rightB_not' {l : List Lbl} {k : Nat} (hk : k < l.length) (h1 : 1 ≤ k) (hge : (l[k]).hub ≤ (l[k - 1]'(by omega)).hub) : rightB l = false := by
  obtain ⟨j, rfl⟩ : ∃ j, k = j + 1 := ⟨k - 1, by omega⟩
  exact rightB_not j hk hge
end Go.Proofs.Ytajepjfohdlgdaa
