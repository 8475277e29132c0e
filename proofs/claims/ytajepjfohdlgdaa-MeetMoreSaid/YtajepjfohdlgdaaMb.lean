/- The plain law of stage 21, more: what Meet tells is the least of the pairs, and of those the first. No program here. -/
import Derived.Test.YtajepjfohdlgdaaMq
namespace Go.Proofs.Ytajepjfohdlgdaa

/-- s is the best of the pairs -/
def Best (l : List (Lbl × Lbl)) (s : St) : Prop :=
  (s.ok = false → s = St.none ∧ ∀ p ∈ l, fitsB p.1.dist p.2.dist = false) ∧
  (s.ok = true → (∃ p ∈ l, fitsB p.1.dist p.2.dist = true ∧ s.dist = p.1.dist + p.2.dist ∧ s.hub = p.1.hub) ∧
    ∀ p ∈ l, fitsB p.1.dist p.2.dist = true → s.dist ≤ p.1.dist + p.2.dist ∧ (s.dist = p.1.dist + p.2.dist → s.hub ≤ p.1.hub))

theorem Best.step {l : List (Lbl × Lbl)} {s : St} (h : Best l s) (p : Lbl × Lbl) (hp : ∀ q ∈ l, q.1.hub < p.1.hub) : Best (l ++ [p]) (s.step p) := by
  obtain ⟨h1, h2⟩ := h
  cases hf : fitsB p.1.dist p.2.dist with
  | false =>
    have e : s.step p = s := by simp [St.step, hf]
    rw [e]
    refine ⟨fun h0 => ⟨(h1 h0).1, fun q hq => ?_⟩, fun h0 => ⟨?_, fun q hq hqf => ?_⟩⟩
    · rcases List.mem_append.1 hq with hq | hq
      · exact (h1 h0).2 q hq
      · simp at hq; subst hq; exact hf
    · obtain ⟨⟨q, hq, r⟩, _⟩ := h2 h0
      exact ⟨q, List.mem_append_left _ hq, r⟩
    · rcases List.mem_append.1 hq with hq | hq
      · exact (h2 h0).2 q hq hqf
      · simp at hq; subst hq; rw [hf] at hqf; cases hqf
  | true =>
    by_cases hgo : s.ok = false ∨ p.1.dist + p.2.dist < s.dist
    · have e : s.step p = ⟨p.1.dist + p.2.dist, p.1.hub, true⟩ := by rcases hgo with h | h <;> simp [St.step, hf, h]
      rw [e]
      refine ⟨(fun h0 => by cases h0), fun _ => ⟨⟨p, by simp, hf, rfl, rfl⟩, fun q hq hqf => ?_⟩⟩
      rcases List.mem_append.1 hq with hq | hq
      · rcases hgo with h0 | h0
        · rw [(h1 h0).2 q hq] at hqf; cases hqf
        · cases hok : s.ok with
          | false => rw [(h1 hok).2 q hq] at hqf; cases hqf
          | true =>
            have := (h2 hok).2 q hq hqf
            exact ⟨by simp only; omega, fun e => by simp only at e; omega⟩
      · simp at hq; subst hq; exact ⟨Nat.le_refl _, fun _ => Nat.le_refl _⟩
    · obtain ⟨hok, hlt⟩ : s.ok = true ∧ ¬ p.1.dist + p.2.dist < s.dist := by
        cases h : s.ok
        · exact absurd (.inl h) hgo
        · exact ⟨rfl, fun h' => hgo (.inr h')⟩
      have e : s.step p = s := by simp [St.step, hf, hok, hlt]
      rw [e]
      obtain ⟨⟨q, hq, r1, r2, r3⟩, h3⟩ := h2 hok
      refine ⟨fun h0 => by (rw [hok] at h0; cases h0), fun _ => ⟨⟨q, List.mem_append_left _ hq, r1, r2, r3⟩, fun z hz hzf => ?_⟩⟩
      rcases List.mem_append.1 hz with hz | hz
      · exact h3 z hz hzf
      · simp at hz; subst hz
        refine ⟨by omega, fun _ => ?_⟩
        have := hp q hq
        omega

def Sorted (l : List (Lbl × Lbl)) : Prop := l.Pairwise fun p q => p.1.hub < q.1.hub

theorem Best.fold {l : List (Lbl × Lbl)} {s : St} (h : Best l s) : ∀ (r : List (Lbl × Lbl)), Sorted (l ++ r) → Best (l ++ r) (r.foldl St.step s)
  | [], _ => by simpa using h
  | p :: r, hs => by
    have hp : ∀ q ∈ l, q.1.hub < p.1.hub := fun q hq => (List.pairwise_append.1 hs).2.2 q hq p (List.mem_cons_self ..)
    have := Best.fold (h.step p hp) r (by simpa using hs)
    simpa using this

theorem sorted_right : ∀ {f : List Lbl}, rightB f = true → f.Pairwise fun x y => x.hub < y.hub
  | [], _ => List.Pairwise.nil
  | x :: f, h => by
    obtain ⟨h1, h2⟩ := rightB_cons h
    exact List.Pairwise.cons h2 (sorted_right h1)

theorem right_sorted : ∀ {f : List Lbl}, (f.Pairwise fun x y => x.hub < y.hub) → rightB f = true
  | [], _ => rfl
  | [_], _ => rfl
  | a :: b :: r, h => by
    simp only [rightB, Bool.and_eq_true, decide_eq_true_eq]
    cases h with
    | cons h1 h2 => exact ⟨h1 b (List.mem_cons_self ..), right_sorted h2⟩

theorem pairsF_mem {f b : List Lbl} {p : Lbl × Lbl} : p ∈ pairsF f b ↔ p.1 ∈ f ∧ findH b p.1.hub = some p.2 := by
  unfold pairsF
  rw [List.mem_filterMap]
  constructor
  · rintro ⟨x, hx, he⟩
    cases hy : findH b x.hub with
    | none => rw [hy] at he; cases he
    | some y =>
      rw [hy] at he
      simp only [Option.map_some, Option.some.injEq] at he
      subst he
      exact ⟨hx, hy⟩
  · rintro ⟨h1, h2⟩
    exact ⟨p.1, h1, by rw [h2]; rfl⟩

theorem pairsF_sorted {f b : List Lbl} (h : rightB f = true) : Sorted (pairsF f b) := by
  unfold Sorted pairsF
  refine List.Pairwise.filterMap _ ?_ (sorted_right h)
  intro x y hxy p hp q hq
  cases h1 : findH b x.hub with
  | none => rw [h1] at hp; cases hp
  | some u =>
    cases h2 : findH b y.hub with
    | none => rw [h2] at hq; cases hq
    | some v =>
      rw [h1] at hp
      rw [h2] at hq
      simp only [Option.map_some, Option.some.injEq] at hp hq
      subst hp hq
      exact hxy

theorem meet_best {f b : List Lbl} (hf : rightB f = true) (hb : rightB b = true) : Best (pairsF f b) (meetV f b) := by
  have e : meetV f b = (pairsF f b).foldl St.step St.none := by
    unfold meetV meetS
    rw [hf, hb, pairsL_eq_F f b hf hb]
    rfl
  rw [e]
  have := Best.fold (l := []) (s := St.none) ⟨fun _ => ⟨rfl, fun p hp => by cases hp⟩, fun h => by cases h⟩ (pairsF f b) (by simpa using pairsF_sorted hf)
  simpa using this

theorem meet_not {f b : List Lbl} (h : rightB f = false ∨ rightB b = false) : meetV f b = St.none := by
  unfold meetV
  rcases h with h | h <;> simp [h]

/-- in right lists a label is found by its hub -/
theorem findH_self {f : List Lbl} (h : rightB f = true) {x : Lbl} (hx : x ∈ f) : findH f x.hub = some x := by
  induction f with
  | nil => cases hx
  | cons y f ih =>
    obtain ⟨h1, h2⟩ := rightB_cons h
    rcases List.mem_cons.1 hx with rfl | hx
    · exact findH_cons_hit rfl
    · rw [findH_cons_miss (by have := h2 x hx; omega)]
      exact ih h1 hx
theorem findH_mem {l : List Lbl} {h : Nat} {x : Lbl} (e : findH l h = some x) : x ∈ l ∧ x.hub = h := by
  unfold findH at e
  exact ⟨List.mem_of_find?_eq_some e, by simpa using List.find?_some e⟩

theorem hasB_some {l : List Lbl} {h : Nat} (e : hasB l h = true) : ∃ x, findH l h = some x ∧ distV l h = x.dist := by
  unfold hasB at e
  unfold distV
  cases hx : findH l h with
  | none => rw [hx] at e; cases e
  | some x => exact ⟨x, rfl, rfl⟩
theorem hasB_of {l : List Lbl} {h : Nat} {x : Lbl} (e : findH l h = some x) : hasB l h = true ∧ distV l h = x.dist := by
  unfold hasB distV
  rw [e]
  exact ⟨rfl, rfl⟩

/-- WHAT MeetLeast ASKS, where both lists are right -/
theorem least_told {f b : List Lbl} (hf : rightB f = true) (hb : rightB b = true) (hok : (meetV f b).ok = true) :
    hasB f (meetV f b).hub = true ∧ hasB b (meetV f b).hub = true ∧ fitsB (distV f (meetV f b).hub) (distV b (meetV f b).hub) = true ∧
      sumV (distV f (meetV f b).hub) (distV b (meetV f b).hub) = (meetV f b).dist := by
  obtain ⟨⟨p, hp, h1, h2, h3⟩, _⟩ := (meet_best hf hb).2 hok
  obtain ⟨m1, m2⟩ := pairsF_mem.1 hp
  obtain ⟨a1, a2⟩ := hasB_of (findH_self hf m1)
  obtain ⟨b1, b2⟩ := hasB_of m2
  rw [h3, a2, b2, h2, sumV_yes h1]
  exact ⟨a1, b1, h1, rfl⟩
theorem least_none {f b : List Lbl} (hf : rightB f = true) (hb : rightB b = true) {x : Lbl} (hx : x ∈ f) (hh : hasB b x.hub = true) (hfit : fitsB x.dist (distV b x.hub) = true) :
    (meetV f b).ok = true ∧ (meetV f b).dist ≤ sumV x.dist (distV b x.hub) ∧ ((meetV f b).dist = sumV x.dist (distV b x.hub) → (meetV f b).hub ≤ x.hub) := by
  obtain ⟨y, hy, hd⟩ := hasB_some hh
  rw [hd] at hfit
  have hp : (x, y) ∈ pairsF f b := pairsF_mem.2 ⟨hx, hy⟩
  have B := meet_best hf hb
  cases hok : (meetV f b).ok with
  | false =>
    have := (B.1 hok).2 _ hp
    rw [hfit] at this; cases this
  | true =>
    have := (B.2 hok).2 _ hp hfit
    rw [hd, sumV_yes hfit]
    exact ⟨rfl, this⟩
theorem none_zero {f b : List Lbl} (h : (meetV f b).ok = false) : meetV f b = St.none := by
  cases hf : rightB f with
  | false => exact meet_not (.inl hf)
  | true =>
    cases hb : rightB b with
    | false => exact meet_not (.inr hb)
    | true => exact ((meet_best hf hb).1 h).1
end Go.Proofs.Ytajepjfohdlgdaa
