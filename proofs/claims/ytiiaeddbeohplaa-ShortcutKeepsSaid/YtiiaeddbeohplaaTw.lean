/- ShortcutTwo, in plain words: each shortcut is two edges by the vertex, and no edge between its ends is as short. -/
import Derived.Test.YtiiaeddbeohplaaTr
import Derived.Test.YtiiaeddbeohplaaNi
namespace Go.Proofs.Ytiiaeddbeohplaa
/-- what is told of a pair that gives a shortcut -/
structure Yes (out : Nat → List Edg × Int) (av : Nat → Bool) (v : Nat) (hv : v < 4294967296) (a b x : Edg) : Prop where
  apart : a.tail ≠ b.head
  tail : shunB v av a.tail = false
  head : shunB v av b.head = false
  fits : fitsB a.weight b.weight = true
  asked : (out a.tail).2 = 0
  none : anyB (out a.tail).1 b.head (sumV a.weight b.weight) = false
  found : (findR out (shunB v av) a.tail b.head (sumV a.weight b.weight)).2.2 = 0 ∧ (findR out (shunB v av) a.tail b.head (sumV a.weight b.weight)).2.1 = false
  is : x = cutE a b v hv
theorem pairR_yes {out : Nat → List Edg × Int} {av : Nat → Bool} {v : Nat} {hv : v < 4294967296} {a b x : Edg} (h : pairR out av v hv a b = .yes x) : Yes out av v hv a b x := by
  by_cases h1 : a.tail = b.head ∨ shunB v av a.tail = true ∨ shunB v av b.head = true
  · rw [pairR_shun h1] at h; cases h
  cases h2 : fitsB a.weight b.weight with
  | false => rw [pairR_far h1 h2] at h; cases h
  | true =>
  by_cases h3 : (out a.tail).2 = 0
  · cases h4 : anyB (out a.tail).1 b.head (sumV a.weight b.weight) with
    | true => rw [pairR_edge h1 h2 h3 h4] at h; cases h
    | false =>
      rw [pairR_find h1 h2 h3 h4] at h
      by_cases h5 : (findR out (shunB v av) a.tail b.head (sumV a.weight b.weight)).2.2 = 0
      · rw [if_neg (fun e => e h5)] at h
        cases h6 : (findR out (shunB v av) a.tail b.head (sumV a.weight b.weight)).2.1 with
        | true => rw [h6, if_pos rfl] at h; cases h
        | false =>
          rw [h6, if_neg Bool.false_ne_true] at h
          injection h with h
          refine ⟨fun e => h1 (.inl e), ?_, ?_, h2, h3, h4, ⟨h5, h6⟩, h.symm⟩
          · cases e : shunB v av a.tail with
            | false => rfl
            | true => exact absurd (.inr (.inl e)) h1
          · cases e : shunB v av b.head with
            | false => rfl
            | true => exact absurd (.inr (.inr e)) h1
      · rw [if_pos h5] at h; cases h
  · rw [pairR_bad h1 h2 h3] at h; cases h
/-- each shortcut comes of a pair -/
theorem goR_mem {P : Edg → Edg → PR} {r : List (Edg × Edg)} {acc : List Edg} {x : Edg} (h : x ∈ (goR P r acc).1) : x ∈ acc ∨ ∃ p ∈ r, P p.1 p.2 = .yes x := by
  induction r generalizing acc with
  | nil => exact .inl h
  | cons p r ih =>
    obtain ⟨a, b⟩ := p
    cases hp : P a b with
    | bad e => rw [goR_bad hp] at h; cases h
    | no =>
      rw [goR_no hp] at h
      rcases ih h with h | ⟨p, h1, h2⟩
      · exact .inl h
      · exact .inr ⟨p, List.mem_cons_of_mem _ h1, h2⟩
    | yes y =>
      rw [goR_yes hp] at h
      rcases ih h with h | ⟨p, h1, h2⟩
      · rw [List.mem_append, List.mem_singleton] at h
        rcases h with h | rfl
        · exact .inl h
        · exact .inr ⟨(a, b), List.mem_cons_self, hp⟩
      · exact .inr ⟨p, List.mem_cons_of_mem _ h1, h2⟩
theorem pairsOf_mem {I O : List Edg} {p : Edg × Edg} (h : p ∈ pairsOf I O 0) : p.1 ∈ I ∧ p.2 ∈ O := by
  unfold pairsOf at h
  rw [List.drop_zero, List.mem_flatMap] at h
  obtain ⟨a, ha, h⟩ := h
  obtain ⟨b, hb, rfl⟩ := List.mem_map.1 h
  exact ⟨ha, hb⟩
theorem makeR_mem {out inn : Nat → List Edg × Int} {av : Nat → Bool} {v : Nat} {hv : v < 4294967296} {x : Edg} (h : x ∈ (makeR out inn av v hv).1) : ∃ a ∈ (inn v).1, ∃ b ∈ (out v).1, Yes out av v hv a b x := by
  unfold makeR at h
  split at h
  · cases h
  · split at h
    · cases h
    · rcases goR_mem h with h | ⟨p, h1, h2⟩
      · cases h
      · exact ⟨p.1, (pairsOf_mem h1).1, p.2, (pairsOf_mem h1).2, pairR_yes h2⟩
theorem goR_err {P : Edg → Edg → PR} {r : List (Edg × Edg)} {acc : List Edg} (h : (goR P r acc).2 ≠ 0) : (goR P r acc).1 = [] := by
  induction r generalizing acc with
  | nil => exact absurd rfl h
  | cons p r ih =>
    obtain ⟨a, b⟩ := p
    cases hp : P a b with
    | bad e => rw [goR_bad hp]
    | no => rw [goR_no hp] at h ⊢; exact ih h
    | yes y => rw [goR_yes hp] at h ⊢; exact ih h
theorem makeR_err {out inn : Nat → List Edg × Int} {av : Nat → Bool} {v : Nat} {hv : v < 4294967296} (h : (makeR out inn av v hv).2 ≠ 0) : (makeR out inn av v hv).1 = [] := by
  unfold makeR at *
  split
  · rfl
  · split
    · rfl
    · rename_i h1 h2
      rw [if_neg h1, if_neg h2] at h
      exact goR_err h
theorem goR_len {P : Edg → Edg → PR} {r : List (Edg × Edg)} {acc : List Edg} : (goR P r acc).1.length ≤ acc.length + r.length := by
  induction r generalizing acc with
  | nil => exact Nat.le_refl _
  | cons p r ih =>
    obtain ⟨a, b⟩ := p
    cases hp : P a b with
    | bad e => rw [goR_bad hp]; exact Nat.zero_le _
    | no => rw [goR_no hp, List.length_cons]; have := ih (acc := acc); omega
    | yes y => rw [goR_yes hp, List.length_cons]; have := ih (acc := acc ++ [y]); rw [List.length_append, List.length_singleton] at this; omega
/-- what is told of a shortcut: x is two edges of the net by v, at the places ka and jb; no edge is as short; its ends are others, and not avoided -/
structure Two (E : List Edg) (shun : List Nat) (v : Nat) (x : Edg) (ka jb : Nat) : Prop where
  la : ka < E.length
  lb : jb < E.length
  t : E[ka].tail = x.tail
  m : E[ka].head = v
  m' : E[jb].tail = v
  h : E[jb].head = x.head
  fits : fitsB E[ka].weight E[jb].weight = true
  sum : sumV E[ka].weight E[jb].weight = x.weight
  far : ∀ k (hk : k < E.length), E[k].tail ≠ x.tail ∨ (E[k].tail = x.tail ∧ E[k].head ≠ x.head) ∨ (E[k].tail = x.tail ∧ E[k].head = x.head ∧ x.weight < E[k].weight)
  mid : x.mid = v
  apart : x.tail ≠ x.head
  tv : x.tail ≠ v
  hv : x.head ≠ v
  ta : inB shun x.tail = false
  ha : inB shun x.head = false
theorem make_two {E : List Edg} {bad shun : List Nat} {v : Nat} {hv : v < 4294967296} {x : Edg} (h : x ∈ (makeR (netOut E bad) (netIn E bad) (inB shun) v hv).1) : ∃ ka jb, Two E shun v x ka jb := by
  obtain ⟨a, ha, b, hb, hy⟩ := makeR_mem h
  have ho : inB bad v = false := by
    cases e : inB bad v with
    | false => rfl
    | true => rw [netIn_bad e] at ha; cases ha
  rw [netIn_ok ho, List.mem_filter, beq_iff_eq] at ha
  rw [netOut_ok ho, List.mem_filter, beq_iff_eq] at hb
  obtain ⟨ka, la, ea⟩ := List.mem_iff_getElem.1 ha.1
  obtain ⟨jb, lb, eb⟩ := List.mem_iff_getElem.1 hb.1
  obtain ⟨y1, y2, y3, y4, y5, y6, _, rfl⟩ := hy
  have hu : inB bad a.tail = false := by
    cases e : inB bad a.tail with
    | false => rfl
    | true => rw [netOut_bad e] at y5; cases y5
  rw [netOut_ok hu] at y6
  have s1 : ∀ u, shunB v (inB shun) u = false → u ≠ v ∧ inB shun u = false := fun u hu => by
    unfold shunB at hu
    rw [Bool.or_eq_false_iff, beq_eq_false_iff_ne] at hu
    exact hu
  refine ⟨ka, jb, la, lb, by rw [ea]; rfl, by rw [ea]; exact ha.2, by rw [eb]; exact hb.2, by rw [eb]; rfl, by rw [ea, eb]; exact y4, by rw [ea, eb]; rfl, ?_, rfl, y1, (s1 _ y2).1, (s1 _ y3).1, (s1 _ y2).2, (s1 _ y3).2⟩
  intro k hk
  by_cases e1 : E[k].tail = a.tail
  · by_cases e2 : E[k].head = b.head
    · refine .inr (.inr ⟨e1, e2, Nat.lt_of_not_le fun hle => ?_⟩)
      have hin : E[k] ∈ E.filter (fun x => x.tail == a.tail) := List.mem_filter.2 ⟨List.getElem_mem hk, beq_iff_eq.2 e1⟩
      have : anyB (E.filter (fun x => x.tail == a.tail)) b.head (sumV a.weight b.weight) = true :=
        List.any_eq_true.2 ⟨E[k], hin, by rw [Bool.and_eq_true, beq_iff_eq, decide_eq_true_iff]; exact ⟨e2, hle⟩⟩
      rw [y6] at this; cases this
    · exact .inr (.inl ⟨e1, e2⟩)
  · exact .inl e1
end Go.Proofs.Ytiiaeddbeohplaa
