/- ShortcutKeeps, in plain words: how far each vertex is from each, told by a table; and that no distance turns when a vertex goes and its shortcuts come. -/
import Derived.Test.YtiiaeddbeohplaaTw
import Derived.Test.YtiiaeddbeohplaaBf
namespace Go.Proofs.Ytiiaeddbeohplaa
def farV : Nat := 9223372036854775808
/-- is a vertex not among these? -/
def outB (V : List Nat) (v : Nat) : Bool := !inB V v
theorem outB_no {V : List Nat} {v : Nat} : outB V v = false ↔ v ∈ V := by unfold outB; rw [Bool.not_eq_false', inB_iff]
/-- ways between some vertices alone -/
def WayV (V : List Nat) (E : List Edg) (u v d : Nat) : Prop := Way (netOut E []) (outB V) u v d
theorem WayV.start {V : List Nat} {E : List Edg} (u : Nat) : WayV V E u u 0 := Way.start
theorem WayV.step {V : List Nat} {E : List Edg} {u v d : Nat} (h : WayV V E u v d) {x : Edg} (hx : x ∈ E) (ht : x.tail = v) (hd : d + x.weight < farV) (hv : x.head ∈ V) : WayV V E u x.head (d + x.weight) := by
  subst ht
  exact Way.step _ _ x h (mem_free hx) hd (outB_no.2 hv)
theorem WayV.rec' {V : List Nat} {E : List Edg} {u : Nat} {P : Nat → Nat → Prop} (h0 : P u 0)
    (hs : ∀ v d x, WayV V E u v d → P v d → x ∈ E → x.tail = v → d + x.weight < farV → x.head ∈ V → P x.head (d + x.weight)) {v d : Nat} (h : WayV V E u v d) : P v d := by
  unfold WayV at h
  induction h with
  | start => exact h0
  | step v d x hw hx hd ha ih =>
    obtain ⟨h1, h2⟩ := mem_net hx
    exact hs v d x hw ih h1 h2 hd (outB_no.1 ha)
theorem WayV.far {V : List Nat} {E : List Edg} {u v d : Nat} (h : WayV V E u v d) : d < farV := way_far h
theorem WayV.trans {V : List Nat} {E : List Edg} {u v w d e : Nat} (h1 : WayV V E u v d) (h2 : WayV V E v w e) : d + e < farV → WayV V E u w (d + e) := by
  refine WayV.rec' (P := fun w e => d + e < farV → WayV V E u w (d + e)) (fun _ => h1) ?_ h2
  intro y e x _ ih hx ht _ hv hd
  have := (ih (by omega)).step hx ht (by omega) hv
  rwa [Nat.add_assoc] at this
/-- the table before any edge -/
def tab0 (u v : Nat) : Nat := if u = v then 0 else farV
/-- one edge -/
def tab1 (T : Nat → Nat → Nat) (x : Edg) (u v : Nat) : Nat := if u = x.tail ∧ v = x.head then min (T u v) x.weight else T u v
def tabE (l : List Edg) (T : Nat → Nat → Nat) : Nat → Nat → Nat := l.foldl tab1 T
/-- one round: by a vertex -/
def tabR (T : Nat → Nat → Nat) (m u v : Nat) : Nat := min (T u v) (T u m + T m v)
def tabM (V : List Nat) (T : Nat → Nat → Nat) : Nat → Nat → Nat := V.foldl tabR T
def tabV (V : List Nat) (l : List Edg) : Nat → Nat → Nat := tabM V (tabE l tab0)
theorem tab1_le (T : Nat → Nat → Nat) (x : Edg) (u v : Nat) : tab1 T x u v ≤ T u v := by
  unfold tab1; split
  · exact Nat.min_le_left _ _
  · exact Nat.le_refl _
theorem tabE_le : ∀ (l : List Edg) (T : Nat → Nat → Nat) (u v : Nat), tabE l T u v ≤ T u v
  | [], _, _, _ => Nat.le_refl _
  | x :: l, T, u, v => Nat.le_trans (tabE_le l (tab1 T x) u v) (tab1_le T x u v)
theorem tabR_le (T : Nat → Nat → Nat) (m u v : Nat) : tabR T m u v ≤ T u v := Nat.min_le_left _ _
theorem tabM_le : ∀ (V : List Nat) (T : Nat → Nat → Nat) (u v : Nat), tabM V T u v ≤ T u v
  | [], _, _, _ => Nat.le_refl _
  | m :: V, T, u, v => Nat.le_trans (tabM_le V (tabR T m) u v) (tabR_le T m u v)
theorem tab0_far (u v : Nat) : tab0 u v ≤ farV := by unfold tab0; split <;> omega
theorem tabE_edge : ∀ (l : List Edg) (T : Nat → Nat → Nat) (x : Edg), x ∈ l → tabE l T x.tail x.head ≤ x.weight
  | [], _, _, h => by cases h
  | y :: l, T, x, h => by
    rcases List.mem_cons.1 h with rfl | h
    · refine Nat.le_trans (tabE_le l (tab1 T x) _ _) ?_
      unfold tab1; rw [if_pos ⟨rfl, rfl⟩]; exact Nat.min_le_right _ _
    · exact tabE_edge l _ x h
/-- what the table tells is a way -/
def TToldV (V : List Nat) (E : List Edg) (T : Nat → Nat → Nat) : Prop := ∀ u v, u ∈ V → v ∈ V → T u v < farV → WayV V E u v (T u v)
theorem told_0 {V : List Nat} {E : List Edg} : TToldV V E tab0 := fun u v _ _ h => by
  unfold tab0 at *
  by_cases e : u = v
  · subst e; rw [if_pos rfl]; exact .start _
  · rw [if_neg e] at h; omega
theorem TToldV.edge {V : List Nat} {E : List Edg} {T : Nat → Nat → Nat} (h : TToldV V E T) {x : Edg} (hx : x ∈ E) : TToldV V E (tab1 T x) := fun u v hu hv hf => by
  unfold tab1 at *
  by_cases e : u = x.tail ∧ v = x.head
  · rw [if_pos e] at hf ⊢
    rcases Nat.le_total (T u v) x.weight with hle | hle
    · rw [Nat.min_eq_left hle] at hf ⊢; exact h u v hu hv hf
    · rw [Nat.min_eq_right hle] at hf ⊢
      obtain ⟨rfl, rfl⟩ := e
      have := (WayV.start (V := V) (E := E) x.tail).step hx rfl (by omega) hv
      rwa [Nat.zero_add] at this
  · rw [if_neg e] at hf ⊢; exact h u v hu hv hf
theorem TToldV.edges {V : List Nat} {E : List Edg} : ∀ (l : List Edg) {T : Nat → Nat → Nat}, (∀ x ∈ l, x ∈ E) → TToldV V E T → TToldV V E (tabE l T)
  | [], _, _, h => h
  | x :: l, _, hs, h => TToldV.edges l (fun y hy => hs y (List.mem_cons_of_mem _ hy)) (h.edge (hs x List.mem_cons_self))
theorem TToldV.round {V : List Nat} {E : List Edg} {T : Nat → Nat → Nat} (h : TToldV V E T) {m : Nat} (hm : m ∈ V) : TToldV V E (tabR T m) := fun u v hu hv hf => by
  unfold tabR at *
  rcases Nat.le_total (T u v) (T u m + T m v) with hle | hle
  · rw [Nat.min_eq_left hle] at hf ⊢; exact h u v hu hv hf
  · rw [Nat.min_eq_right hle] at hf ⊢
    exact (h u m hu hm (by omega)).trans (h m v hm hv (by omega)) hf
theorem TToldV.rounds {V : List Nat} {E : List Edg} : ∀ (l : List Nat) {T : Nat → Nat → Nat}, (∀ x ∈ l, x ∈ V) → TToldV V E T → TToldV V E (tabM l T)
  | [], _, _, h => h
  | x :: l, _, hs, h => TToldV.rounds l (fun y hy => hs y (List.mem_cons_of_mem _ hy)) (h.round (hs x List.mem_cons_self))
/-- no way over these vertices is nearer -/
def Tri (J : Nat → Prop) (T : Nat → Nat → Nat) : Prop := ∀ j, J j → ∀ u v, T u v ≤ T u j + T j v
theorem Tri.round {J : Nat → Prop} {T : Nat → Nat → Nat} (h : Tri J T) (m : Nat) : Tri (fun j => J j ∨ j = m) (tabR T m) := by
  intro j hj u v
  unfold tabR
  rcases hj with hj | rfl
  · have h1 := h j hj u v
    have h2 := h j hj m v
    have h3 := h j hj u m
    omega
  · omega
theorem Tri.rounds : ∀ (l : List Nat) {J : Nat → Prop} {T : Nat → Nat → Nat}, Tri J T → Tri (fun j => J j ∨ j ∈ l) (tabM l T)
  | [], _, _, h => fun j hj => h j (hj.resolve_right (by simp))
  | m :: l, J, T, h => by
    have := Tri.rounds l (h.round m)
    intro j hj
    refine this j ?_
    rcases hj with hj | hj
    · exact .inl (.inl hj)
    · rcases List.mem_cons.1 hj with rfl | hj
      · exact .inl (.inr rfl)
      · exact .inr hj
theorem tabV_told (V : List Nat) (E : List Edg) : TToldV V E (tabV V E) := (told_0.edges E fun _ h => h).rounds V fun _ h => h
theorem tabV_le (V : List Nat) (E : List Edg) {u v d : Nat} (hu : u ∈ V) (h : WayV V E u v d) : tabV V E u v ≤ d := by
  have tri : Tri (fun j => False ∨ j ∈ V) (tabV V E) := Tri.rounds V (fun j hj => hj.elim)
  have self : tabV V E u u = 0 := by
    have h1 := tabM_le V (tabE E tab0) u u
    have h2 := tabE_le E tab0 u u
    have h3 : tab0 u u = 0 := if_pos rfl
    have h4 : tabV V E u u ≤ tabE E tab0 u u := h1
    omega
  have edge : ∀ x ∈ E, tabV V E x.tail x.head ≤ x.weight := fun x hx => Nat.le_trans (tabM_le V _ _ _) (tabE_edge E _ x hx)
  have : v ∈ V ∧ tabV V E u v ≤ d := by
    refine WayV.rec' (P := fun v d => v ∈ V ∧ tabV V E u v ≤ d) ⟨hu, by omega⟩ ?_ h
    rintro y e x _ ⟨hy, ih⟩ hx ht _ hv
    subst ht
    have h1 := tri x.tail (.inr hy) u x.head
    have h2 := edge x hx
    exact ⟨hv, by omega⟩
  exact this.2
theorem tabV_far (V : List Nat) (E : List Edg) (u v : Nat) : tabV V E u v ≤ farV := Nat.le_trans (tabM_le V _ _ _) (Nat.le_trans (tabE_le E _ _ _) (tab0_far u v))
/-- tables are one where ways are as short -/
theorem tab_same {V V' : List Nat} {E E' : List Edg} {u v : Nat} (hu : u ∈ V) (hv : v ∈ V) (hu' : u ∈ V') (hv' : v ∈ V') (h1 : ∀ d, WayV V E u v d → ∃ e, e ≤ d ∧ WayV V' E' u v e) (h2 : ∀ d, WayV V' E' u v d → ∃ e, e ≤ d ∧ WayV V E u v e) : tabV V E u v = tabV V' E' u v := by
  have a1 := tabV_far V E u v
  have a2 := tabV_far V' E' u v
  apply Nat.le_antisymm
  · rcases Nat.lt_or_ge (tabV V' E' u v) farV with h | h
    · obtain ⟨e, he, hw⟩ := h2 _ (tabV_told V' E' u v hu' hv' h)
      exact Nat.le_trans (tabV_le V E hu hw) he
    · omega
  · rcases Nat.lt_or_ge (tabV V E u v) farV with h | h
    · obtain ⟨e, he, hw⟩ := h1 _ (tabV_told V E u v hu hv h)
      exact Nat.le_trans (tabV_le V' E' hu' hw) he
    · omega
end Go.Proofs.Ytiiaeddbeohplaa
