/- How far each vertex is, by edges that are tried again and again: it is what ways come to. -/
import Derived.Test.YtiiaeddbeohplaaDj
import Derived.Test.YtiiaeddbeohplaaNt
namespace Go.Proofs.Ytiiaeddbeohplaa

theorem nat_min {p : Nat → Prop} (h : ∃ n, p n) : ∃ n, p n ∧ ∀ m, m < n → ¬ p m := by
  obtain ⟨n, hn⟩ := h
  induction n using Nat.strongRecOn with
  | _ n ih =>
    by_cases hm : ∃ m, m < n ∧ p m
    · obtain ⟨m, h1, h2⟩ := hm
      exact ih m h1 h2
    · exact ⟨n, hn, fun m h1 h2 => hm ⟨m, h1, h2⟩⟩
theorem mem_net {E : List Edg} {bad : List Nat} {v : Nat} {x : Edg} (h : x ∈ (netOut E bad v).1) : x ∈ E ∧ x.tail = v := by
  cases hb : inB bad v with
  | true => rw [netOut_bad hb] at h; cases h
  | false =>
    rw [netOut_ok hb] at h
    simpa using h
theorem mem_free {E : List Edg} {x : Edg} (h : x ∈ E) : x ∈ (netOut E [] x.tail).1 := by
  rw [netOut_ok (inB_nil _)]
  simpa using h
theorem way_free {E : List Edg} {bad : List Nat} {av : Nat → Bool} {src v d : Nat} (h : Way (netOut E bad) av src v d) : Way (netOut E []) av src v d := by
  induction h with
  | start => exact .start
  | step v d x _ hx hd ha ih =>
    obtain ⟨h1, h2⟩ := mem_net hx
    subst h2
    exact .step _ _ x ih (mem_free h1) hd ha
theorem way_far {out : Nat → List Edg × Int} {av : Nat → Bool} {src v d : Nat} (h : Way out av src v d) : d < 9223372036854775808 := by
  cases h with
  | start => omega
  | step v d x _ _ hd _ => exact hd
/-- a way of so many edges -/
inductive WayN (E : List Edg) (av : Nat → Bool) (src : Nat) : Nat → Nat → Nat → Prop where
  | start : WayN E av src 0 src 0
  | step (n v d : Nat) (x : Edg) : WayN E av src n v d → x ∈ E → x.tail = v → d + x.weight < 9223372036854775808 → av x.head = false → WayN E av src (n + 1) x.head (d + x.weight)
theorem way_n {E : List Edg} {av : Nat → Bool} {src v d : Nat} (h : Way (netOut E []) av src v d) : ∃ n, WayN E av src n v d := by
  induction h with
  | start => exact ⟨0, .start⟩
  | step v d x _ hx hd ha ih =>
    obtain ⟨n, hn⟩ := ih
    obtain ⟨h1, h2⟩ := mem_net hx
    exact ⟨n + 1, .step n v d x hn h1 h2 hd ha⟩
theorem n_way {E : List Edg} {av : Nat → Bool} {src n v d : Nat} (h : WayN E av src n v d) : Way (netOut E []) av src v d := by
  induction h with
  | start => exact .start
  | step n v d x _ h1 h2 hd ha ih => subst h2; exact .step _ _ x ih (mem_free h1) hd ha
/-- one edge is tried -/
def bf1 (av : Nat → Bool) (g : Nat → Nat) (x : Edg) : Nat → Nat :=
  if (fitsB (g x.tail) x.weight && !av x.head && decide (g x.tail + x.weight < g x.head)) = true then fun u => if u = x.head then g x.tail + x.weight else g u else g
def bfE (av : Nat → Bool) (E : List Edg) (g : Nat → Nat) : Nat → Nat := E.foldl (bf1 av) g
def bfR (av : Nat → Bool) (E : List Edg) : Nat → (Nat → Nat) → Nat → Nat
  | 0, g => g
  | n + 1, g => bfE av E (bfR av E n g)
def bf0 (src : Nat) : Nat → Nat := fun v => if v = src then 0 else 9223372036854775808
section
variable {av : Nat → Bool} {E : List Edg} {src : Nat}
theorem bf1_le (g : Nat → Nat) (x : Edg) (v : Nat) : bf1 av g x v ≤ g v := by
  unfold bf1
  split
  · rename_i h
    rw [Bool.and_eq_true, Bool.and_eq_true, decide_eq_true_iff] at h
    by_cases hv : v = x.head
    · subst hv; simp only [if_pos]; omega
    · simp only [if_neg hv]; exact Nat.le_refl _
  · exact Nat.le_refl _
theorem bfE_le : ∀ (E : List Edg) (g : Nat → Nat) (v : Nat), bfE av E g v ≤ g v
  | [], _, _ => Nat.le_refl _
  | x :: E, g, v => Nat.le_trans (bfE_le E (bf1 av g x) v) (bf1_le g x v)
theorem bfE_hits : ∀ (E : List Edg) (g : Nat → Nat) (x : Edg), x ∈ E → av x.head = false → g x.tail + x.weight < 9223372036854775808 → bfE av E g x.head ≤ g x.tail + x.weight
  | [], g, x, h, _, _ => by cases h
  | y :: E, g, x, h, ha, hd => by
    rcases List.mem_cons.1 h with rfl | h
    · refine Nat.le_trans (bfE_le E (bf1 av g x) x.head) ?_
      unfold bf1
      split
      · simp
      · rename_i hc
        rw [Bool.and_eq_true, Bool.and_eq_true, decide_eq_true_iff] at hc
        have : fitsB (g x.tail) x.weight = true := fitsB_mk hd
        have : ¬ g x.tail + x.weight < g x.head := fun e => hc ⟨⟨this, by rw [ha]; rfl⟩, e⟩
        omega
    · have h1 := bf1_le (av := av) g y x.tail
      have := bfE_hits E (bf1 av g y) x h ha (by omega)
      show bfE av E (bf1 av g y) x.head ≤ _
      omega
theorem bfR_le : ∀ (n : Nat) (g : Nat → Nat) (v : Nat), bfR av E n g v ≤ g v
  | 0, _, _ => Nat.le_refl _
  | n + 1, g, v => Nat.le_trans (bfE_le E _ v) (bfR_le n g v)
/-- what is told is a way -/
def Told (E : List Edg) (av : Nat → Bool) (src : Nat) (g : Nat → Nat) : Prop := ∀ v, g v < 9223372036854775808 → Way (netOut E []) av src v (g v)
theorem Told.one {g : Nat → Nat} (h : Told E av src g) {x : Edg} (hx : x ∈ E) : Told E av src (bf1 av g x) := by
  intro v
  unfold bf1
  split
  · rename_i hc
    rw [Bool.and_eq_true, Bool.and_eq_true, Bool.not_eq_true'] at hc
    intro hv
    by_cases e : v = x.head
    · subst e
      simp only [if_pos] at hv ⊢
      exact .step _ _ x (h x.tail (by omega)) (mem_free hx) hv hc.1.2
    · simp only [if_neg e] at hv ⊢
      exact h v hv
  · exact h v
theorem Told.edges : ∀ (L : List Edg) {g : Nat → Nat}, (∀ x ∈ L, x ∈ E) → Told E av src g → Told E av src (bfE av L g)
  | [], _, _, h => h
  | x :: L, _, hs, h => Told.edges L (fun y hy => hs y (by simp [hy])) (h.one (hs x (by simp)))
theorem Told.rounds : ∀ (n : Nat) {g : Nat → Nat}, Told E av src g → Told E av src (bfR av E n g)
  | 0, _, h => h
  | n + 1, _, h => Told.edges E (fun _ h => h) (Told.rounds n h)
theorem told0 : Told E av src (bf0 src) := fun v h => by
  unfold bf0 at *
  by_cases e : v = src
  · subst e; simp only [if_pos]; exact .start
  · simp only [if_neg e] at h; omega
/-- no way is shorter -/
def Final (E : List Edg) (av : Nat → Bool) (src : Nat) (g : Nat → Nat) (v : Nat) : Prop := ∀ d, Way (netOut E []) av src v d → g v ≤ d
theorem final_round {g : Nat → Nat} {v : Nat} (h : Final E av src g v) : Final E av src (bfE av E g) v := fun d hw => Nat.le_trans (bfE_le E g v) (h d hw)
/-- where somebody isn't final one more is behind a round -/
theorem one_more {g : Nat → Nat} (h0 : g src = 0) (h : ¬ ∀ v, Final E av src g v) : ∃ v d, Way (netOut E []) av src v d ∧ ¬ Final E av src g v ∧ Final E av src (bfE av E g) v := by
  have hv : ∃ d, ∃ n v, WayN E av src n v d ∧ d < g v := by
    apply Classical.byContradiction
    intro hn
    refine h fun v d hw => ?_
    obtain ⟨n, hn2⟩ := way_n hw
    exact Nat.le_of_not_lt fun hlt => hn ⟨d, n, v, hn2, hlt⟩
  obtain ⟨d, hd, hmin⟩ := nat_min hv
  obtain ⟨n, ⟨v, hw, hlt⟩, hnm⟩ := nat_min hd
  refine ⟨v, d, n_way hw, fun hf => by have := hf d (n_way hw); omega, ?_⟩
  have hgood : bfE av E g v ≤ d := by
    cases hw with
    | start => rw [h0] at hlt; omega
    | step n u du x hu hx ht hfit ha =>
      have h2 : g u ≤ du := by
        refine Nat.le_of_not_lt fun hbad => ?_
        rcases Nat.lt_or_ge du (du + x.weight) with h3 | h3
        · exact hmin du h3 ⟨n, u, hu, hbad⟩
        · have : x.weight = 0 := by omega
          exact hnm n (by omega) ⟨u, by rw [this]; exact hu, by rw [this]; exact hbad⟩
      subst ht
      have := bfE_hits (av := av) E g x hx ha (by omega)
      omega
  intro d' hw'
  refine Nat.le_trans hgood (Nat.le_of_not_lt fun hlt' => ?_)
  obtain ⟨n', hn'⟩ := way_n hw'
  exact hmin d' hlt' ⟨n', v, hn', by omega⟩
theorem bf_grow {V : List Nat} (hV : ∀ v d, Way (netOut E []) av src v d → v ∈ V) : ∀ r, (∀ v, Final E av src (bfR av E r (bf0 src)) v) ∨ ∃ L : List Nat, L.Nodup ∧ (∀ u ∈ L, u ∈ V) ∧ (∀ u ∈ L, Final E av src (bfR av E r (bf0 src)) u) ∧ L.length = r
  | 0 => .inr ⟨[], List.nodup_nil, fun u h => (by cases h), fun u h => (by cases h), rfl⟩
  | r + 1 => by
    by_cases hall : ∀ v, Final E av src (bfR av E r (bf0 src)) v
    · exact .inl fun v => final_round (hall v)
    · have h0 : bfR av E r (bf0 src) src = 0 := by
        have := bfR_le (av := av) (E := E) r (bf0 src) src
        unfold bf0 at this ⊢
        simpa using this
      rcases bf_grow hV r with h | ⟨L, h1, h2, h3, h4⟩
      · exact absurd h hall
      · obtain ⟨v, d, hw, hn, hf⟩ := one_more h0 hall
        refine .inr ⟨v :: L, List.nodup_cons.2 ⟨fun hm => hn (h3 v hm), h1⟩, fun u hu => ?_, fun u hu => ?_, by simp [h4]⟩
        · rcases List.mem_cons.1 hu with rfl | hu
          · exact hV _ _ hw
          · exact h2 u hu
        · rcases List.mem_cons.1 hu with rfl | hu
          · exact hf
          · exact final_round (h3 u hu)
theorem bf_final {V : List Nat} (hV : ∀ v d, Way (netOut E []) av src v d → v ∈ V) (v : Nat) : Final E av src (bfR av E V.length (bf0 src)) v := by
  rcases bf_grow hV V.length with h | ⟨L, h1, h2, h3, h4⟩
  · exact h v
  · intro d hw
    by_cases hv : v ∈ L
    · exact h3 v hv d hw
    · have := nodup_sub_len (v :: L) V (List.nodup_cons.2 ⟨hv, h1⟩) fun u hu => by
        rcases List.mem_cons.1 hu with rfl | hu
        · exact hV _ _ hw
        · exact h2 u hu
      simp only [List.length_cons] at this
      omega
/-- is a vertex near enough? -/
def nearB (g : Nat → Nat) (to most : Nat) : Bool := decide (g to < 9223372036854775808) && decide (g to ≤ most)
theorem nearB_iff {V : List Nat} (hV : ∀ v d, Way (netOut E []) av src v d → v ∈ V) {to most : Nat} : nearB (bfR av E V.length (bf0 src)) to most = true ↔ ∃ d, Way (netOut E []) av src to d ∧ d ≤ most := by
  unfold nearB
  rw [Bool.and_eq_true, decide_eq_true_iff, decide_eq_true_iff]
  constructor
  · rintro ⟨h1, h2⟩
    exact ⟨_, Told.rounds _ told0 to h1, h2⟩
  · rintro ⟨d, h1, h2⟩
    have h3 := bf_final hV to d h1
    have := way_far h1
    omega
end
end Go.Proofs.Ytiiaeddbeohplaa
