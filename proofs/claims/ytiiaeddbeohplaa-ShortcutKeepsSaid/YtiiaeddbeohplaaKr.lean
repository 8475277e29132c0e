/- What the loops over a table do, in plain words. -/
import Derived.Test.YtiiaeddbeohplaaKm
import Derived.Test.YtiiaeddbeohplaaKp
namespace Go.Proofs.Ytiiaeddbeohplaa
theorem rows_congr {V : List Nat} {T T' : Nat → Nat → Nat} (h : ∀ u ∈ V, ∀ v ∈ V, T u v = T' u v) : rowsOf V T = rowsOf V T' := by
  unfold rowsOf
  exact List.map_congr_left fun u hu => List.map_congr_left fun v hv => h u hu v hv
theorem rows_len {V : List Nat} {T : Nat → Nat → Nat} : (rowsOf V T).length = V.length := by unfold rowsOf; simp
theorem tabE_take (E : List Edg) (T : Nat → Nat → Nat) (i : Nat) (hi : i < E.length) : tabE (E.take (i + 1)) T = tab1 (tabE (E.take i) T) E[i] := by
  unfold tabE
  rw [List.take_succ_eq_append_getElem hi, List.foldl_append]
  rfl
theorem tabM_take (V : List Nat) (T : Nat → Nat → Nat) (i : Nat) (hi : i < V.length) : tabM (V.take (i + 1)) T = tabR (tabM (V.take i) T) V[i] := by
  unfold tabM
  rw [List.take_succ_eq_append_getElem hi, List.foldl_append]
  rfl
theorem rows_miss {V : List Nat} {T : Nat → Nat → Nat} {x : Edg} (h : x.tail ∉ V ∨ x.head ∉ V) : rowsOf V (tab1 T x) = rowsOf V T := rows_congr fun u hu v hv => by
  unfold tab1
  rw [if_neg]
  rintro ⟨rfl, rfl⟩
  rcases h with h | h
  · exact h hu
  · exact h hv
theorem rows_edge {V : List Nat} {T : Nat → Nat → Nat} {x : Edg} : rowsOf V (upd2 T x.tail x.head (min (T x.tail x.head) x.weight)) = rowsOf V (tab1 T x) := rows_congr fun u _ v _ => by
  unfold upd2 tab1
  split
  · rename_i h; rw [h.1, h.2]
  · rfl
/-- the row of one vertex, as far as it is filled -/
def initR (V : List Nat) (u k : Nat) : List Nat := (V.take k).map (tab0 u) ++ List.replicate (V.length - k) 0
theorem initR_len (V : List Nat) (u k : Nat) (hk : k ≤ V.length) : (initR V u k).length = V.length := by unfold initR; simp; omega
theorem initR_0 (V : List Nat) (u : Nat) : initR V u 0 = List.replicate V.length 0 := by unfold initR; simp
theorem initR_end (V : List Nat) (u : Nat) : initR V u V.length = V.map (tab0 u) := by unfold initR; simp
theorem initR_step {V : List Nat} {u k : Nat} (hk : k < V.length) : (initR V u k).set k (tab0 u V[k]) = initR V u (k + 1) := by
  unfold initR
  have h1 : ((V.take k).map (tab0 u)).length = k := by simp; omega
  rw [List.set_append, h1, if_neg (by omega), Nat.sub_self, List.take_succ_eq_append_getElem hk, List.map_append]
  have h2 : List.replicate (V.length - k) 0 = 0 :: List.replicate (V.length - (k + 1)) 0 := by
    rw [show V.length - k = (V.length - (k + 1)) + 1 by omega, List.replicate_succ]
  rw [h2, List.set_cons_zero]
  simp
theorem initR_same {V : List Nat} {u k : Nat} (hk : k < V.length) (h : tab0 u V[k] = 0) : initR V u k = initR V u (k + 1) := by
  rw [← initR_step hk, h]
  unfold initR
  have h1 : ((V.take k).map (tab0 u)).length = k := by simp; omega
  rw [List.set_append, h1, if_neg (by omega), Nat.sub_self]
  have h2 : List.replicate (V.length - k) 0 = 0 :: List.replicate (V.length - (k + 1)) 0 := by
    rw [show V.length - k = (V.length - (k + 1)) + 1 by omega, List.replicate_succ]
  rw [h2, List.set_cons_zero]
/-- a round by a vertex, as far as it is gone -/
def partT (V : List Nat) (T : Nat → Nat → Nat) (m i k u v : Nat) : Nat := if u ∈ V.take i ∨ (V[i]? = some u ∧ v ∈ V.take k) then tabR T m u v else T u v
section
variable {V : List Nat} {T : Nat → Nat → Nat} {m i k : Nat}
theorem part_0 : rowsOf V (partT V T m 0 0) = rowsOf V T := rows_congr fun u _ v _ => by
  unfold partT; rw [if_neg]; simp
theorem part_end : rowsOf V (partT V T m V.length 0) = rowsOf V (tabR T m) := rows_congr fun u hu v _ => by
  unfold partT; rw [if_pos]; left; simpa using hu
theorem part_row (hi : i < V.length) : rowsOf V (partT V T m i V.length) = rowsOf V (partT V T m (i + 1) 0) := rows_congr fun u _ v hv => by
  unfold partT
  have e : (u ∈ V.take i ∨ (V[i]? = some u ∧ v ∈ V.take V.length)) ↔ (u ∈ V.take (i + 1) ∨ (V[i + 1]? = some u ∧ v ∈ V.take 0)) := by
    rw [List.take_length, List.take_succ_eq_append_getElem hi, List.mem_append, List.mem_singleton, List.getElem?_eq_getElem hi]
    constructor
    · rintro (h | ⟨h, _⟩)
      · exact .inl (.inl h)
      · injection h with h; exact .inl (.inr h.symm)
    · rintro ((h | h) | ⟨_, h⟩)
      · exact .inl h
      · exact .inr ⟨by rw [h], hv⟩
      · cases h
  by_cases h : u ∈ V.take i ∨ (V[i]? = some u ∧ v ∈ V.take V.length)
  · rw [if_pos h, if_pos (e.1 h)]
  · rw [if_neg h, if_neg (fun h2 => h (e.2 h2))]
theorem part_col (u : Nat) : partT V T m i k u m = T u m := by
  unfold partT; split
  · unfold tabR; omega
  · rfl
theorem part_mid (v : Nat) : partT V T m i k m v = T m v := by
  unfold partT; split
  · unfold tabR; omega
  · rfl
theorem not_take {V : List Nat} (hn : V.Nodup) {i : Nat} (hi : i < V.length) : V[i] ∉ V.take i := by
  intro h
  obtain ⟨j, hj, e⟩ := List.mem_iff_getElem.1 h
  rw [List.getElem_take] at e
  have hj2 : j < i := by simp at hj; omega
  have := (List.getElem_inj hn (h₀ := by omega) (h₁ := hi)).1 e
  omega
theorem part_at (hn : V.Nodup) (hi : i < V.length) (hk : k < V.length) : partT V T m i k V[i] V[k] = T V[i] V[k] := by
  unfold partT; rw [if_neg]
  rintro (h | ⟨_, h⟩)
  · exact not_take hn hi h
  · exact not_take hn hk h
theorem part_step (hi : i < V.length) (hk : k < V.length) {s : Nat} (hs : s = tabR T m V[i] V[k]) : rowsOf V (upd2 (partT V T m i k) V[i] V[k] s) = rowsOf V (partT V T m i (k + 1)) := rows_congr fun u _ v _ => by
  unfold upd2
  by_cases e : u = V[i] ∧ v = V[k]
  · rw [if_pos e, hs, e.1, e.2]
    unfold partT
    rw [if_pos]
    right
    rw [List.getElem?_eq_getElem hi, List.take_succ_eq_append_getElem hk]
    exact ⟨rfl, List.mem_append_right _ List.mem_cons_self⟩
  · rw [if_neg e]
    unfold partT
    have e2 : (u ∈ V.take i ∨ (V[i]? = some u ∧ v ∈ V.take k)) ↔ (u ∈ V.take i ∨ (V[i]? = some u ∧ v ∈ V.take (k + 1))) := by
      rw [List.getElem?_eq_getElem hi, List.take_succ_eq_append_getElem hk, List.mem_append, List.mem_singleton]
      constructor
      · rintro (h | ⟨h, h2⟩)
        · exact .inl h
        · exact .inr ⟨h, .inl h2⟩
      · rintro (h | ⟨h, h2 | h2⟩)
        · exact .inl h
        · exact .inr ⟨h, h2⟩
        · injection h with h; exact absurd ⟨h.symm, h2⟩ e
    by_cases h : u ∈ V.take i ∨ (V[i]? = some u ∧ v ∈ V.take k)
    · rw [if_pos h, if_pos (e2.1 h)]
    · rw [if_neg h, if_neg (fun h2 => h (e2.2 h2))]
theorem upd2_self (T : Nat → Nat → Nat) (a b : Nat) : upd2 T a b (T a b) = T := by
  funext u v; unfold upd2; split
  · rename_i h; rw [h.1, h.2]
  · rfl
theorem part_skip (hn : V.Nodup) (hi : i < V.length) (hk : k < V.length) (h : tabR T m V[i] V[k] = T V[i] V[k]) : rowsOf V (partT V T m i k) = rowsOf V (partT V T m i (k + 1)) := by
  have h1 := part_step (T := T) (m := m) hi hk (s := T V[i] V[k]) h.symm
  have h2 := part_at (T := T) (m := m) hn hi hk
  rw [← h2, upd2_self] at h1
  exact h1
end
theorem tabM_far (V : List Nat) (E : List Edg) (u v : Nat) : tabM V (tabE E tab0) u v ≤ farV := Nat.le_trans (tabM_le V _ _ _) (Nat.le_trans (tabE_le E _ _ _) (tab0_far u v))
end Go.Proofs.Ytiiaeddbeohplaa
