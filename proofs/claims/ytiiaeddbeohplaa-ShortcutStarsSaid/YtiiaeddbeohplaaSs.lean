/- ShortcutStars, in plain words: the shortcuts of a star without an edge between. -/
import Derived.Test.YtiiaeddbeohplaaSe
namespace Go.Proofs.Ytiiaeddbeohplaa
theorem star_ask (Is Os : List W64) (W : W64) (i : Nat) (h : i < Is.length) : starOut Is Os false W (1 + i) = ([inE Is i], 0) := by
  unfold starOut
  rw [if_neg (by omega), if_pos (by omega), if_neg (fun e => Bool.false_ne_true e.2), Nat.add_sub_cancel_left]
  rfl
theorem star_find (Is Os : List W64) (W : W64) (av : Nat → Bool) (i j sum : Nat) (h : i < Is.length) (hi : i ≤ 12) : (findR (starOut Is Os false W) (shunB 0 av) (1 + i) (101 + j) sum).2 = (false, 0) := by
  unfold findR
  have hv : (rg [⟨1 + i, 0, false⟩] 0).v = 1 + i := rfl
  have ho : starOut Is Os false W (rg [⟨1 + i, 0, false⟩] 0).v = ([inE Is i], 0) := star_ask Is Os W i h
  rw [runL_ask (n := 15) (i := 0) (by rfl) (by show ¬ sum < 0; omega) (by show 1 + i ≠ 101 + j; omega) (by rw [ho]), ho]
  have r1 : relaxL (shunB 0 av) (rg [⟨1 + i, 0, false⟩] 0).dist [inE Is i] (mark [⟨1 + i, 0, false⟩] 0) = [⟨1 + i, 0, true⟩] := by
    show relaxL1 (shunB 0 av) 0 [⟨1 + i, 0, true⟩] (inE Is i) = _
    unfold relaxL1
    have : shunB 0 av (inE Is i).head = true := rfl
    rw [this, Bool.not_true, Bool.and_false]
    rfl
  rw [r1, runL_none (n := 14) (by rfl)]
theorem star_pair (Is Os : List W64) (W : W64) (av : Nat → Bool) (i j : Nat) (h : i < Is.length) (h' : j < Os.length) (hi : Is.length ≤ 12) (hj : Os.length ≤ 12) :
    pairR (starOut Is Os false W) av 0 zero_lt (inE Is i) (outE Os j) =
      if fitsB (Is[i]).1 (Os[j]).1 = false ∨ av (1 + i) = true ∨ av (101 + j) = true then .no else .yes (cutE (inE Is i) (outE Os j) 0 zero_lt) := by
  obtain ⟨a1, a2, a3, _⟩ := inE_is h (by omega)
  obtain ⟨b1, b2, b3, _⟩ := outE_is h' (by omega)
  have s1 : shunB 0 av (inE Is i).tail = av (1 + i) := by
    rw [a1]; unfold shunB
    have : (1 + i == 0) = false := by rw [beq_eq_false_iff_ne]; omega
    rw [this, Bool.false_or]
  have s2 : shunB 0 av (outE Os j).head = av (101 + j) := by
    rw [b2]; unfold shunB
    have : (101 + j == 0) = false := by rw [beq_eq_false_iff_ne]; omega
    rw [this, Bool.false_or]
  by_cases hs : av (1 + i) = true ∨ av (101 + j) = true
  · rw [if_pos (.inr hs)]
    exact pairR_shun (.inr (by rw [s1, s2]; exact hs))
  · have hn : ¬ ((inE Is i).tail = (outE Os j).head ∨ shunB 0 av (inE Is i).tail = true ∨ shunB 0 av (outE Os j).head = true) := by
      rw [s1, s2, a1, b2]
      rintro (e | e)
      · omega
      · exact hs e
    cases hf : fitsB (Is[i]).1 (Os[j]).1 with
    | false =>
      rw [if_pos (.inl rfl)]
      exact pairR_far hn (by rw [a3, b3]; exact hf)
    | true =>
      rw [if_neg (by rintro (e | e); · cases e
                     · exact hs e)]
      have ho : starOut Is Os false W (inE Is i).tail = ([inE Is i], 0) := by rw [a1]; exact star_ask Is Os W i h
      have hany : anyB (starOut Is Os false W (inE Is i).tail).1 (outE Os j).head (sumV (inE Is i).weight (outE Os j).weight) = false := by
        rw [ho]
        unfold anyB
        have : ((inE Is i).head == (outE Os j).head) = false := by rw [beq_eq_false_iff_ne, a2, b2]; omega
        simp [this]
      rw [pairR_find hn (by rw [a3, b3]; exact hf) (by rw [ho]) hany]
      have hfind : (findR (starOut Is Os false W) (shunB 0 av) (inE Is i).tail (outE Os j).head (sumV (inE Is i).weight (outE Os j).weight)).2 = (false, 0) := by
        rw [a1, b2]; exact star_find Is Os W av i j _ h (by omega)
      rw [hfind]
      rfl
/-- what stands already stays ahead -/
theorem goR_ahead {P : Edg → Edg → PR} {r : List (Edg × Edg)} {acc L : List Edg} (h : goR P r acc = (L, 0)) (hb : ∀ x, x ∈ r → ∀ e, P x.1 x.2 ≠ .bad e) : ∃ t, L = acc ++ t := by
  induction r generalizing acc with
  | nil => exact ⟨[], by have : (acc, (0 : Int)) = (L, 0) := h; injection this with h1 _; rw [List.append_nil]; exact h1.symm⟩
  | cons x r ih =>
    obtain ⟨a, b⟩ := x
    have hb' : ∀ x, x ∈ r → ∀ e, P x.1 x.2 ≠ .bad e := fun x hx => hb x (List.mem_cons_of_mem _ hx)
    cases hp : P a b with
    | bad e => exact absurd hp (hb (a, b) List.mem_cons_self e)
    | no => rw [goR_no hp] at h; exact ih h hb'
    | yes x =>
      rw [goR_yes hp] at h
      obtain ⟨t, ht⟩ := ih h hb'
      exact ⟨x :: t, by rw [ht]; simp⟩
theorem insT_at (Is : List W64) (k i : Nat) (h : i < k) : (insT Is k)[i]'(by rw [insT_len]; exact h) = inE Is i := by simp [insT]
theorem outsT_at (Os : List W64) (k i : Nat) (h : i < k) : (outsT Os k)[i]'(by rw [outsT_len]; exact h) = outE Os i := by simp [outsT]
theorem star_ends (Is Os : List W64) (W : W64) : starIn Is Os false W 0 = (insT Is Is.length, 0) ∧ starOut Is Os false W 0 = (outsT Os Os.length, 0) := by
  refine ⟨?_, if_pos rfl⟩
  unfold starIn; rw [if_pos rfl, if_neg (by omega), if_neg (by omega)]; simp
/-- the pairs of a star -/
def starPs (Is Os : List W64) : List (Edg × Edg) := pairsOf (insT Is Is.length) (outsT Os Os.length) 0
theorem star_make (Is Os : List W64) (W : W64) (av : Nat → Bool) : makeR (starOut Is Os false W) (starIn Is Os false W) av 0 zero_lt = goR (pairR (starOut Is Os false W) av 0 zero_lt) (starPs Is Os) [] := by
  obtain ⟨h1, h2⟩ := star_ends Is Os W
  unfold makeR
  rw [h1, h2, if_neg (fun h => h rfl), if_neg (fun h => h rfl)]
  rfl
/-- no pair of a star is an error -/
theorem star_never (Is Os : List W64) (W : W64) (av : Nat → Bool) (hi : Is.length ≤ 12) (hj : Os.length ≤ 12) (x : Edg × Edg) (hx : x ∈ starPs Is Os) (e : Int) : pairR (starOut Is Os false W) av 0 zero_lt x.1 x.2 ≠ .bad e := by
  unfold starPs pairsOf at hx
  rw [List.drop_zero, List.mem_flatMap] at hx
  obtain ⟨a, ha, hx⟩ := hx
  rw [List.mem_map] at hx
  obtain ⟨b, hb, rfl⟩ := hx
  unfold insT at ha
  unfold outsT at hb
  rw [List.mem_map] at ha hb
  obtain ⟨i, hi', rfl⟩ := ha
  obtain ⟨j, hj', rfl⟩ := hb
  rw [List.mem_range] at hi' hj'
  rw [star_pair Is Os W av i j hi' hj' hi hj]
  split <;> exact fun h => by cases h
theorem goR_ok {P : Edg → Edg → PR} {r : List (Edg × Edg)} {acc : List Edg} (hb : ∀ x, x ∈ r → ∀ e, P x.1 x.2 ≠ .bad e) : (goR P r acc).2 = 0 := by
  induction r generalizing acc with
  | nil => rfl
  | cons x r ih =>
    obtain ⟨a, b⟩ := x
    have hb' : ∀ x, x ∈ r → ∀ e, P x.1 x.2 ≠ .bad e := fun x hx => hb x (List.mem_cons_of_mem _ hx)
    cases hp : P a b with
    | bad e => exact absurd hp (hb (a, b) List.mem_cons_self e)
    | no => rw [goR_no hp]; exact ih hb'
    | yes x => rw [goR_yes hp]; exact ih hb'
theorem star_ok (Is Os : List W64) (W : W64) (av : Nat → Bool) (hi : Is.length ≤ 12) (hj : Os.length ≤ 12) : (makeR (starOut Is Os false W) (starIn Is Os false W) av 0 zero_lt).2 = 0 := by
  rw [star_make]
  exact goR_ok (star_never Is Os W av hi hj)
theorem mem_pairsAt {I O : List Edg} {i j : Nat} {x : Edg × Edg} (h : x ∈ pairsAt I O i j) : x.1 ∈ I ∧ x.2 ∈ O := by
  unfold pairsAt at h
  rw [List.mem_append] at h
  rcases h with h | h
  · cases hi : I[i]? with
    | none => rw [hi] at h; cases h
    | some a =>
      rw [hi] at h
      obtain ⟨b, hb, rfl⟩ := List.mem_map.1 h
      exact ⟨List.mem_of_getElem? hi, List.mem_of_mem_drop hb⟩
  · obtain ⟨a, ha, h⟩ := List.mem_flatMap.1 h
    obtain ⟨b, hb, rfl⟩ := List.mem_map.1 h
    exact ⟨List.mem_of_mem_drop ha, hb⟩
theorem star_never' (Is Os : List W64) (W : W64) (av : Nat → Bool) (hi : Is.length ≤ 12) (hj : Os.length ≤ 12) (x : Edg × Edg) (hx : x.1 ∈ insT Is Is.length ∧ x.2 ∈ outsT Os Os.length) (e : Int) : pairR (starOut Is Os false W) av 0 zero_lt x.1 x.2 ≠ .bad e := by
  obtain ⟨ha, hb⟩ := hx
  unfold insT at ha
  unfold outsT at hb
  rw [List.mem_map] at ha hb
  obtain ⟨i, hi', h1⟩ := ha
  obtain ⟨j, hj', h2⟩ := hb
  rw [List.mem_range] at hi' hj'
  rw [← h1, ← h2, star_pair Is Os W av i j hi' hj' hi hj]
  split <;> exact fun h => by cases h
/-- where the loops over a star's pairs stand -/
def SInv (Is Os : List W64) (W : W64) (av : Nat → Bool) (i j : Nat) (acc L : List Edg) : Prop :=
  goR (pairR (starOut Is Os false W) av 0 zero_lt) (pairsAt (insT Is Is.length) (outsT Os Os.length) i j) acc = (L, 0)
section
variable {Is Os : List W64} {W : W64} {av : Nat → Bool} {i j : Nat} {acc L : List Edg}
theorem SInv.cons (h : SInv Is Os W av i j acc L) (hi : i < Is.length) (hj : j < Os.length) : goR (pairR (starOut Is Os false W) av 0 zero_lt) ((inE Is i, outE Os j) :: pairsAt (insT Is Is.length) (outsT Os Os.length) i (j + 1)) acc = (L, 0) := by
  unfold SInv at h
  rw [pairs_cons (by rw [insT_len]; exact hi) (by rw [outsT_len]; exact hj), insT_at Is _ i hi, outsT_at Os _ j hj] at h
  exact h
theorem SInv.no (h : SInv Is Os W av i j acc L) (hi : i < Is.length) (hj : j < Os.length) (h1 : Is.length ≤ 12) (h2 : Os.length ≤ 12) (hc : fitsB (Is[i]).1 (Os[j]).1 = false ∨ av (1 + i) = true ∨ av (101 + j) = true) : SInv Is Os W av i (j + 1) acc L := by
  have hp := star_pair Is Os W av i j hi hj h1 h2
  rw [if_pos hc] at hp
  have := h.cons hi hj
  rw [goR_no hp] at this
  exact this
theorem SInv.yes (h : SInv Is Os W av i j acc L) (hi : i < Is.length) (hj : j < Os.length) (h1 : Is.length ≤ 12) (h2 : Os.length ≤ 12) (hc : ¬ (fitsB (Is[i]).1 (Os[j]).1 = false ∨ av (1 + i) = true ∨ av (101 + j) = true)) :
    SInv Is Os W av i (j + 1) (acc ++ [cutE (inE Is i) (outE Os j) 0 zero_lt]) L ∧ ∃ t, L = acc ++ cutE (inE Is i) (outE Os j) 0 zero_lt :: t := by
  have hp := star_pair Is Os W av i j hi hj h1 h2
  rw [if_neg hc] at hp
  have := h.cons hi hj
  rw [goR_yes hp] at this
  obtain ⟨t, ht⟩ := goR_ahead this (fun x hx e => star_never' Is Os W av h1 h2 x (mem_pairsAt hx) e)
  exact ⟨this, t, by rw [ht]; simp⟩
theorem SInv.row (h : SInv Is Os W av i Os.length acc L) (hi : i + 1 < Is.length) : SInv Is Os W av (i + 1) 0 acc L := by
  unfold SInv at *
  rw [← pairs_row (by rw [insT_len]; exact hi)]
  have := pairs_end (I := insT Is Is.length) (O := outsT Os Os.length) (i := i) (by rw [insT_len]; omega)
  rw [outsT_len] at this
  rw [← this]
  exact h
theorem SInv.done (h : SInv Is Os W av i Os.length acc L) (hi : i + 1 = Is.length) : L = acc := by
  unfold SInv at *
  have := pairs_end (I := insT Is Is.length) (O := outsT Os Os.length) (i := i) (by rw [insT_len]; omega)
  rw [outsT_len] at this
  rw [this, hi] at h
  have e : pairsOf (insT Is Is.length) (outsT Os Os.length) Is.length = [] := by
    have := pairs_done (I := insT Is Is.length) (O := outsT Os Os.length)
    rwa [insT_len] at this
  rw [e] at h
  have h' : (acc, (0 : Int)) = (L, 0) := h
  injection h' with h1 _
  exact h1.symm
/-- where the outer loop stands -/
def SRow (Is Os : List W64) (W : W64) (av : Nat → Bool) (i : Nat) (acc L : List Edg) : Prop :=
  goR (pairR (starOut Is Os false W) av 0 zero_lt) (pairsOf (insT Is Is.length) (outsT Os Os.length) i) acc = (L, 0)
theorem SRow.opens (h : SRow Is Os W av i acc L) (hi : i < Is.length) : SInv Is Os W av i 0 acc L := by
  unfold SRow SInv at *
  rwa [← pairs_row (by rw [insT_len]; exact hi)]
theorem SInv.close (h : SInv Is Os W av i Os.length acc L) (hi : i < Is.length) : SRow Is Os W av (i + 1) acc L := by
  unfold SRow SInv at *
  have := pairs_end (I := insT Is Is.length) (O := outsT Os Os.length) (i := i) (by rw [insT_len]; omega)
  rw [outsT_len] at this
  rwa [← this]
theorem SRow.done (h : SRow Is Os W av Is.length acc L) : L = acc := by
  unfold SRow at h
  have e : pairsOf (insT Is Is.length) (outsT Os Os.length) Is.length = [] := by
    have := pairs_done (I := insT Is Is.length) (O := outsT Os Os.length)
    rwa [insT_len] at this
  rw [e] at h
  have h' : (acc, (0 : Int)) = (L, 0) := h
  injection h' with h1 _
  exact h1.symm
theorem SRow.start (Is Os : List W64) (W : W64) (av : Nat → Bool) (h1 : Is.length ≤ 12) (h2 : Os.length ≤ 12) : SRow Is Os W av 0 [] (makeR (starOut Is Os false W) (starIn Is Os false W) av 0 zero_lt).1 := by
  have e := star_make Is Os W av
  have e2 := star_ok Is Os W av h1 h2
  show goR (pairR (starOut Is Os false W) av 0 zero_lt) (starPs Is Os) [] = _
  rw [← e]
  exact Prod.ext rfl e2
end
end Go.Proofs.Ytiiaeddbeohplaa
