/- The plain law of stage 21: the two ways through right lists come to the same; no program here. -/
import Derived.Test.YtajepjfohdlgdaaMt
import Derived.Test.YtajepjfohdlgdaaMf
namespace Go.Proofs.Ytajepjfohdlgdaa

theorem rightB_cons {x : Lbl} {l : List Lbl} (h : rightB (x :: l) = true) : rightB l = true ∧ ∀ y ∈ l, x.hub < y.hub := by
  induction l generalizing x with
  | nil => exact ⟨rfl, fun y hy => by cases hy⟩
  | cons z l ih =>
    simp only [rightB, Bool.and_eq_true, decide_eq_true_eq] at h
    refine ⟨h.2, fun y hy => ?_⟩
    rcases List.mem_cons.1 hy with rfl | hy
    · exact h.1
    · exact Nat.lt_trans h.1 ((ih h.2).2 y hy)

theorem findH_cons_hit {x : Lbl} {l : List Lbl} {h : Nat} (e : x.hub = h) : findH (x :: l) h = some x := by simp [findH, e]
theorem findH_cons_miss {x : Lbl} {l : List Lbl} {h : Nat} (e : x.hub ≠ h) : findH (x :: l) h = findH l h := by simp [findH, e]
theorem findH_none_of {l : List Lbl} {h : Nat} (e : ∀ y ∈ l, y.hub ≠ h) : findH l h = none := by
  unfold findH
  rw [List.find?_eq_none]
  intro y hy
  simpa using e y hy

/-- the hubs of both, as the first list has them -/
def pairsF (f b : List Lbl) : List (Lbl × Lbl) := f.filterMap fun x => (findH b x.hub).map fun y => (x, y)

theorem pairsF_skip {f b : List Lbl} {y : Lbl} (h : ∀ x ∈ f, y.hub ≠ x.hub) : pairsF f (y :: b) = pairsF f b := by
  unfold pairsF
  induction f with
  | nil => rfl
  | cons x f ih =>
    have h1 := h x (List.mem_cons_self ..)
    simp only [List.filterMap_cons, findH_cons_miss h1]
    rw [ih fun z hz => h z (List.mem_cons_of_mem _ hz)]

theorem pairsL_eq_F : ∀ (f b : List Lbl), rightB f = true → rightB b = true → pairsL f b = pairsF f b := by
  intro f b
  induction f, b using pairsL.induct with
  | case1 b => intro _ _; unfold pairsL; rfl
  | case2 x f =>
    intro _ _
    unfold pairsL pairsF
    symm
    rw [List.filterMap_eq_nil_iff]
    intro z _
    simp [findH]
  | case3 x f y b hlt ih =>
    intro hf hb
    obtain ⟨hf1, hf2⟩ := rightB_cons hf
    obtain ⟨hb1, hb2⟩ := rightB_cons hb
    unfold pairsL
    rw [if_pos hlt, ih hf1 hb]
    have hn : findH (y :: b) x.hub = none := findH_none_of fun z hz => by
      rcases List.mem_cons.1 hz with rfl | hz
      · omega
      · have := hb2 z hz; omega
    simp [pairsF, hn]
  | case4 x f y b hn hlt ih =>
    intro hf hb
    obtain ⟨hf1, hf2⟩ := rightB_cons hf
    obtain ⟨hb1, hb2⟩ := rightB_cons hb
    unfold pairsL
    rw [if_neg hn, if_pos hlt, ih hf hb1]
    symm
    apply pairsF_skip
    intro z hz
    rcases List.mem_cons.1 hz with rfl | hz
    · omega
    · have := hf2 z hz; omega
  | case5 x f y b hn hn2 ih =>
    intro hf hb
    obtain ⟨hf1, hf2⟩ := rightB_cons hf
    obtain ⟨hb1, hb2⟩ := rightB_cons hb
    unfold pairsL
    rw [if_neg hn, if_neg hn2, ih hf1 hb1]
    have he : y.hub = x.hub := by omega
    have hs : pairsF f (y :: b) = pairsF f b := pairsF_skip fun z hz => by have := hf2 z hz; omega
    show _ = pairsF (x :: f) (y :: b)
    rw [← hs]
    simp [pairsF, findH_cons_hit he]

/-- the pairs, the other way round -/
theorem pairsL_swap : ∀ (f b : List Lbl), pairsL b f = (pairsL f b).map fun p => (p.2, p.1) := by
  intro f b
  induction f, b using pairsL.induct with
  | case1 b => cases b <;> simp [pairsL]
  | case2 x f => simp [pairsL]
  | case3 x f y b hlt ih =>
    unfold pairsL
    rw [if_neg (by omega : ¬ y.hub < x.hub), if_pos hlt, if_pos hlt]
    exact ih
  | case4 x f y b hn hlt ih =>
    unfold pairsL
    rw [if_pos hlt, if_neg hn, if_pos hlt]
    exact ih
  | case5 x f y b hn hn2 ih =>
    unfold pairsL
    rw [if_neg hn2, if_neg hn, if_neg hn, if_neg hn2, ih]
    rfl

/-- one pair, as the document's loops have it -/
def upd (s : Nat × Nat) (p : Lbl × Lbl) : Nat × Nat := if fitsB p.1.dist p.2.dist && decide (sumV p.1.dist p.2.dist < s.1) then (sumV p.1.dist p.2.dist, p.1.hub) else s

theorem rin_miss {x : Lbl} : ∀ {b : List Lbl} {s : Nat × Nat}, (∀ y ∈ b, x.hub ≠ y.hub) → rin x b s = s
  | [], s, _ => rfl
  | y :: b, s, h => by
    have h1 := h y (List.mem_cons_self ..)
    show rin x b (rstep x s y) = s
    have : rstep x s y = s := by simp [rstep, h1]
    rw [this]
    exact rin_miss fun z hz => h z (List.mem_cons_of_mem _ hz)
theorem rin_find {x : Lbl} : ∀ {b : List Lbl} {s : Nat × Nat}, rightB b = true → rin x b s = match findH b x.hub with | some y => upd s (x, y) | none => s
  | [], s, _ => rfl
  | y :: b, s, h => by
    obtain ⟨hb1, hb2⟩ := rightB_cons h
    show rin x b (rstep x s y) = _
    by_cases e : y.hub = x.hub
    · rw [findH_cons_hit e, rin_miss fun z hz => by have := hb2 z hz; omega]
      simp [rstep, upd, e]
    · have hs : rstep x s y = s := by
        have : ¬ x.hub = y.hub := fun h => e h.symm
        simp [rstep, this]
      rw [findH_cons_miss e, hs]
      exact rin_find hb1
theorem rout_pairs {b : List Lbl} (hb : rightB b = true) : ∀ (f : List Lbl) (s : Nat × Nat), rout b f s = (pairsF f b).foldl upd s
  | [], s => rfl
  | x :: f, s => by
    show rout b f (rin x b s) = _
    rw [rout_pairs hb f, rin_find hb]
    unfold pairsF
    cases h : findH b x.hub with
    | none => simp [h]
    | some y => simp [h]

def Same (s : St) (t : Nat × Nat) : Prop := (s = St.none ∧ t = (farN, 0)) ∨ (s.ok = true ∧ t = (s.dist, s.hub) ∧ s.dist < farN)
theorem Same.step {s : St} {t : Nat × Nat} (h : Same s t) (p : Lbl × Lbl) : Same (s.step p) (upd t p) := by
  cases hf : fitsB p.1.dist p.2.dist with
  | false => simpa [St.step, upd, hf] using h
  | true =>
    have hsum := sumV_yes hf
    have hlt := fitsB_yes hf
    rcases h with ⟨rfl, rfl⟩ | ⟨hok, rfl, hd⟩
    · refine .inr ?_
      have : p.1.dist + p.2.dist < farN := hlt
      simp [St.step, upd, hf, hsum, St.none, this]
    · by_cases hl : p.1.dist + p.2.dist < s.dist
      · refine .inr ?_
        have : p.1.dist + p.2.dist < farN := hlt
        simp [St.step, upd, hf, hsum, hok, hl, this]
      · refine .inr ?_
        simp [St.step, upd, hf, hsum, hok, hl, hd]
theorem Same.fold {s : St} {t : Nat × Nat} (h : Same s t) : ∀ (l : List (Lbl × Lbl)), Same (l.foldl St.step s) (l.foldl upd t)
  | [] => h
  | p :: l => by
    induction l generalizing s t p with
    | nil => exact h.step p
    | cons q l ih => exact ih (h.step p) q

theorem same_meet {f b : List Lbl} (hf : rightB f = true) (hb : rightB b = true) : Same (meetS f b) (refS f b) := by
  unfold meetS refS
  rw [rout_pairs hb, pairsL_eq_F f b hf hb]
  exact Same.fold (.inl ⟨rfl, rfl⟩) _

/-- THE PLAIN LAW: the program's answer is the document's. -/
theorem meet_ref (f b : List Lbl) : (meetV f b).dist = refD f b ∧ (meetV f b).hub = refH f b ∧ (meetV f b).ok = refO f b := by
  unfold meetV refD refH refO
  cases hf : rightB f with
  | false => simp [St.none]
  | true =>
    cases hb : rightB b with
    | false => simp [St.none]
    | true =>
      simp only [Bool.and_self, if_true]
      rcases same_meet hf hb with ⟨h1, h2⟩ | ⟨h1, h2, h3⟩
      · rw [h1, h2]; simp [St.none]
      · rw [h2]
        have : (meetS f b).dist ≠ farN := by omega
        simp [this, h1]

theorem sumV_comm (a b : Nat) : sumV a b = sumV b a := by simp [sumV, Nat.add_comm]
theorem fitsB_comm (a b : Nat) : fitsB a b = fitsB b a := by simp [fitsB, Nat.add_comm]

/-- the pairs are of one hub -/
theorem pairsL_hub : ∀ (f b : List Lbl), ∀ p ∈ pairsL f b, p.1.hub = p.2.hub := by
  intro f b
  induction f, b using pairsL.induct with
  | case1 b => intro p hp; simp [pairsL] at hp
  | case2 x f => intro p hp; simp [pairsL] at hp
  | case3 x f y b hlt ih => intro p hp; unfold pairsL at hp; rw [if_pos hlt] at hp; exact ih p hp
  | case4 x f y b hn hlt ih => intro p hp; unfold pairsL at hp; rw [if_neg hn, if_pos hlt] at hp; exact ih p hp
  | case5 x f y b hn hn2 ih =>
    intro p hp
    unfold pairsL at hp
    rw [if_neg hn, if_neg hn2] at hp
    rcases List.mem_cons.1 hp with rfl | hp
    · show x.hub = y.hub; omega
    · exact ih p hp

theorem meetV_swap (f b : List Lbl) : meetV b f = meetV f b := by
  unfold meetV meetS
  rw [Bool.and_comm (rightB b) (rightB f), pairsL_swap f b]
  have : ∀ (l : List (Lbl × Lbl)) (s : St), (∀ p ∈ l, p.1.hub = p.2.hub) → (l.map fun p => (p.2, p.1)).foldl St.step s = l.foldl St.step s := by
    intro l
    induction l with
    | nil => intro s _; rfl
    | cons p l ih =>
      intro s h
      have hp := h p (List.mem_cons_self ..)
      simp only [List.map_cons, List.foldl_cons]
      have e : s.step (p.2, p.1) = s.step p := by simp only [St.step, fitsB_comm p.2.dist p.1.dist, Nat.add_comm p.2.dist p.1.dist, hp]
      rw [e]
      exact ih _ fun q hq => h q (List.mem_cons_of_mem _ hq)
  rw [this _ _ (pairsL_hub f b)]
end Go.Proofs.Ytajepjfohdlgdaa
