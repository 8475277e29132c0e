/- A front that has let go of those who wait behind many others, in plain words. -/
import Derived.Test.YtpnmfhcmodoeiaaFn
namespace Go.Proofs.Ytpnmfhcmodoeiaa

def LiveI (f : Nat → Option Nat) (y : Itm) : Prop := f y.id = some y.key
def Ahead (y : Itm) (v d : Nat) : Prop := y.key < d ∨ (y.key = d ∧ y.id < v)
/-- r at least that wait are ahead of a vertex -/
def Behind (l : List Itm) (f : Nat → Option Nat) (r v d : Nat) : Prop := ∃ K : List Itm, (K.map Itm.id).Nodup ∧ r ≤ K.length ∧ ∀ y ∈ K, y ∈ l ∧ LiveI f y ∧ Ahead y v d
/-- who was come to waits, or is behind r that do -/
def Near (l : List Itm) (f : Nat → Option Nat) (r : Nat) : Prop := ∀ v d, f v = some d → (∃ x ∈ l, x.id = v ∧ x.key = d) ∨ Behind l f r v d
section
variable {f : Nat → Option Nat} {l l' : List Itm} {x : Itm} {r : Nat}
theorem Taken.still (h : Taken f l x l') {y : Itm} (hy : y ∈ l) (hv : LiveI f y) : y = x ∨ y ∈ l' := by
  obtain ⟨gone, hp, hg⟩ := h.perm
  have h1 := hp.mem_iff.1 hy
  simp only [List.mem_append, List.mem_cons] at h1
  rcases h1 with h1 | h1 | h1
  · exact absurd hv (hg y h1)
  · exact .inl h1
  · exact .inr h1
theorem near_least (h : Taken f l x l') (hn : Near l f r) (hr : r ≠ 0) : IsLeast f x.id x.key := by
  refine ⟨h.live, fun u e hu => ?_⟩
  rcases hn u e hu with ⟨y, hy, rfl, rfl⟩ | ⟨K, _, hk, hK⟩
  · rcases h.still hy hu with rfl | hy
    · omega
    · exact r_le (h.le y hy)
  · obtain ⟨y, hyK⟩ : ∃ y, y ∈ K := List.exists_mem_of_length_pos (by omega)
    obtain ⟨h1, h2, h3⟩ := hK y hyK
    unfold Ahead at h3
    rcases h.still h1 h2 with rfl | h4
    · omega
    · have := r_le (h.le y h4)
      omega
theorem near_none (hn : Near l f r) (hr : r ≠ 0) (hs : ∀ y ∈ l, Stale f y) (u : Nat) : f u = none := by
  cases hu : f u with
  | none => rfl
  | some e =>
    rcases hn u e hu with ⟨y, hy, rfl, rfl⟩ | ⟨K, _, hk, hK⟩
    · exact absurd hu (hs y hy)
    · obtain ⟨y, hyK⟩ : ∃ y, y ∈ K := List.exists_mem_of_length_pos (by omega)
      obtain ⟨h1, h2, _⟩ := hK y hyK
      exact absurd h2 (hs y h1)
/-- without one id -/
theorem ids_without (u : Nat) : ∀ K : List Itm, (K.map Itm.id).Nodup → ((K.filter fun y => y.id != u).map Itm.id).Nodup ∧ K.length ≤ (K.filter fun y => y.id != u).length + 1 ∧ (u ∉ K.map Itm.id → (K.filter fun y => y.id != u).length = K.length)
  | [], _ => by simp
  | y :: K, h => by
    rw [List.map_cons, List.nodup_cons] at h
    obtain ⟨h1, h2, h3⟩ := ids_without u K h.2
    by_cases hy : y.id = u
    · have hf : (y :: K).filter (fun y => y.id != u) = K.filter fun y => y.id != u := by simp [hy]
      have h4 := h3 (by rw [← hy]; exact h.1)
      rw [hf]
      refine ⟨h1, by simp only [List.length_cons]; omega, fun hn => ?_⟩
      simp [hy] at hn
    · have hf : (y :: K).filter (fun y => y.id != u) = y :: K.filter fun y => y.id != u := by simp [hy]
      rw [hf]
      refine ⟨?_, by simp only [List.length_cons]; omega, fun hn => ?_⟩
      · rw [List.map_cons, List.nodup_cons]
        refine ⟨fun hm => h.1 ?_, h1⟩
        obtain ⟨z, hz, hz2⟩ := List.mem_map.1 hm
        exact List.mem_map.2 ⟨z, (List.mem_filter.1 hz).1, hz2⟩
      · have := h3 (fun hm => hn (by rw [List.map_cons]; exact List.mem_cons_of_mem _ hm))
        simp only [List.length_cons]; omega
theorem near_next (h : Taken f l x l') (hn : Near l f r) : Near l' (off f x.id) (r - 1) := by
  intro u e hu
  by_cases hux : u = x.id
  · subst hux; rw [off_same] at hu; cases hu
  · rw [off_other f hux] at hu
    rcases hn u e hu with ⟨y, hy, rfl, rfl⟩ | ⟨K, hK1, hk, hK⟩
    · left
      rcases h.still hy hu with rfl | hy
      · exact absurd rfl hux
      · exact ⟨y, hy, rfl, rfl⟩
    · right
      obtain ⟨k1, k2, _⟩ := ids_without x.id K hK1
      refine ⟨_, k1, by omega, fun y hy => ?_⟩
      obtain ⟨hy1, hy2⟩ := List.mem_filter.1 hy
      have hne : y.id ≠ x.id := by simpa using hy2
      obtain ⟨h1, h2, h3⟩ := hK y hy1
      refine ⟨?_, by unfold LiveI; rw [off_other f hne]; exact h2, h3⟩
      rcases h.still h1 h2 with rfl | h4
      · exact absurd rfl hne
      · exact h4
/-- those that are ahead, with one that has come nearer -/
theorem behind_put {v d : Nat} (hux : v ≠ x.id) (hd : f x.id = none ∨ ∃ old, f x.id = some old ∧ x.key < old) {K : List Itm} (h1 : (K.map Itm.id).Nodup) (hr : r ≤ K.length) (hK : ∀ y ∈ K, LiveI f y ∧ Ahead y v d) :
    ∃ K' : List Itm, (K'.map Itm.id).Nodup ∧ r ≤ K'.length ∧ ∀ y ∈ K', (y = x ∨ (y ∈ K ∧ y.id ≠ x.id)) ∧ LiveI (upd f x.id x.key) y ∧ Ahead y v d := by
  obtain ⟨k1, k2, k3⟩ := ids_without x.id K h1
  by_cases hx : x.id ∈ K.map Itm.id
  · obtain ⟨z, hz, hzx⟩ := List.mem_map.1 hx
    obtain ⟨z1, z2⟩ := hK z hz
    have hxz : x.key < z.key := by
      unfold LiveI at z1
      rw [hzx] at z1
      rcases hd with hd | ⟨old, hd, hlt⟩
      · rw [hd] at z1; cases z1
      · rw [hd] at z1; injection z1 with z1; omega
    refine ⟨x :: K.filter fun y => y.id != x.id, ?_, by simp only [List.length_cons]; omega, fun y hy => ?_⟩
    · rw [List.map_cons, List.nodup_cons]
      refine ⟨fun hm => ?_, k1⟩
      obtain ⟨q, hq, hq2⟩ := List.mem_map.1 hm
      have := (List.mem_filter.1 hq).2
      simp [hq2] at this
    · rcases List.mem_cons.1 hy with rfl | hy
      · refine ⟨.inl rfl, upd_same _ _ _, ?_⟩
        unfold Ahead at *; omega
      · obtain ⟨hy1, hy2⟩ := List.mem_filter.1 hy
        have hne : y.id ≠ x.id := by simpa using hy2
        exact ⟨.inr ⟨hy1, hne⟩, by unfold LiveI; rw [upd_other _ _ hne]; exact (hK y hy1).1, (hK y hy1).2⟩
  · refine ⟨K, h1, hr, fun y hy => ?_⟩
    have hne : y.id ≠ x.id := fun e => hx (List.mem_map.2 ⟨y, hy, e⟩)
    exact ⟨.inr ⟨hy, hne⟩, by unfold LiveI; rw [upd_other _ _ hne]; exact (hK y hy).1, (hK y hy).2⟩
theorem near_put (hn : Near l f r) (hd : f x.id = none ∨ ∃ old, f x.id = some old ∧ x.key < old) (hp : l'.Perm (l ++ [x])) : Near l' (upd f x.id x.key) r := by
  intro v d hv
  by_cases hux : v = x.id
  · subst hux
    rw [upd_same] at hv
    injection hv with hv
    exact .inl ⟨x, hp.mem_iff.2 (by simp), rfl, hv⟩
  · rw [upd_other f _ hux] at hv
    rcases hn v d hv with ⟨y, hy, h1, h2⟩ | ⟨K, hK1, hk, hK⟩
    · exact .inl ⟨y, hp.mem_iff.2 (by simp [hy]), h1, h2⟩
    · right
      obtain ⟨K', k1, k2, k3⟩ := behind_put hux hd hK1 hk (fun y hy => (hK y hy).2)
      refine ⟨K', k1, k2, fun y hy => ?_⟩
      obtain ⟨h1, h2, h3⟩ := k3 y hy
      refine ⟨hp.mem_iff.2 ?_, h2, h3⟩
      rcases h1 with rfl | ⟨h1, _⟩
      · simp
      · simp [(hK y h1).1]
/-- what is kept of those that wait -/
structure Kept (f : Nat → Option Nat) (l T : List Itm) : Prop where
  nodup : (T.map Itm.id).Nodup
  live : ∀ t ∈ T, t ∈ l ∧ LiveI f t
  all : ∀ y ∈ l, LiveI f y → y ∈ T ∨ (17 ≤ T.length ∧ ∀ t ∈ T, t.r < y.r)
theorem r_lt {x y : Itm} (h : x.r < y.r) : x.key < y.key ∨ (x.key = y.key ∧ x.id < y.id) := by
  have := x.hid; have := y.hid
  unfold Itm.r at h
  omega
theorem near_cut {T : List Itm} (hn : Near l f r) (hr : r ≤ 17) (hd : f x.id = none ∨ ∃ old, f x.id = some old ∧ x.key < old) (hk : Kept (upd f x.id x.key) l T) (hp : l'.Perm (T ++ [x])) : Near l' (upd f x.id x.key) r := by
  have hT : 17 ≤ T.length → ∀ v d, (∀ t ∈ T, Ahead t v d) → Behind l' (upd f x.id x.key) r v d := fun h17 v d h =>
    ⟨T, hk.nodup, by omega, fun t ht => ⟨hp.mem_iff.2 (by simp [ht]), (hk.live t ht).2, h t ht⟩⟩
  intro v d hv
  by_cases hux : v = x.id
  · subst hux
    rw [upd_same] at hv
    injection hv with hv
    exact .inl ⟨x, hp.mem_iff.2 (by simp), rfl, hv⟩
  · have hv' := hv
    rw [upd_other f _ hux] at hv
    rcases hn v d hv with ⟨y, hy, rfl, rfl⟩ | ⟨K, hK1, hkl, hK⟩
    · rcases hk.all y hy hv' with h | ⟨h17, h⟩
      · exact .inl ⟨y, hp.mem_iff.2 (by simp [h]), rfl, rfl⟩
      · exact .inr (hT h17 _ _ fun t ht => r_lt (h t ht))
    · right
      obtain ⟨K', k1, k2, k3⟩ := behind_put hux hd hK1 hkl (fun y hy => (hK y hy).2)
      by_cases hall : ∀ y ∈ K', y = x ∨ y ∈ T
      · refine ⟨K', k1, k2, fun y hy => ⟨hp.mem_iff.2 ?_, (k3 y hy).2⟩⟩
        rcases hall y hy with rfl | h
        · simp
        · simp [h]
      · have : ∃ y ∈ K', ¬ (y = x ∨ y ∈ T) := by
          apply Classical.byContradiction
          intro hne
          exact hall fun y hy => Classical.byContradiction fun h => hne ⟨y, hy, h⟩
        obtain ⟨y, hy, hno⟩ := this
        obtain ⟨h1, h2, h3⟩ := k3 y hy
        rcases h1 with h1 | ⟨h1, _⟩
        · exact absurd (.inl h1) hno
        · rcases hk.all y (hK y h1).1 h2 with h | ⟨h17, h⟩
          · exact absurd (.inr h) hno
          · refine hT h17 _ _ fun t ht => ?_
            have := r_lt (h t ht)
            unfold Ahead at *
            omega
end
end Go.Proofs.Ytpnmfhcmodoeiaa
