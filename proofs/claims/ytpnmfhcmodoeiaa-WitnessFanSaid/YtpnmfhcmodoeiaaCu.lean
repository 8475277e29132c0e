/- What shrink keeps of those that wait, in plain words. -/
import Derived.Test.YtpnmfhcmodoeiaaNr
namespace Go.Proofs.Ytpnmfhcmodoeiaa
/-- where the taking stands: T is taken, l is left of l0 -/
structure Cut (f : Nat → Option Nat) (l0 : List Itm) (fk : Nat → Option Nat) (l : List Itm) (T : List Itm) (g : Nat → Option Nat) (k : Nat) : Prop where
  nodup : (T.map Itm.id).Nodup
  live : ∀ t ∈ T, t ∈ l0 ∧ LiveI f t
  sub : ∀ y ∈ l, y ∈ l0
  rest : ∀ u, fk u = if u ∈ T.map Itm.id then none else f u
  told : ∀ u d, g u = some d ↔ ∃ t ∈ T, t.id = u ∧ t.key = d
  order : ∀ t ∈ T, ∀ y ∈ l, t.r ≤ y.r
  all : ∀ y ∈ l0, LiveI f y → y ∈ T ∨ y ∈ l
  cnt : T.length = k ∨ l = []
  le : T.length ≤ k
theorem itm_ext {x y : Itm} (h1 : x.key = y.key) (h2 : x.id = y.id) : x = y := by
  cases x; cases y; simp only at h1 h2; subst h1 h2; rfl
section
variable {f fk g : Nat → Option Nat} {l0 l l' T : List Itm} {x : Itm} {k : Nat}
theorem Cut.start (f : Nat → Option Nat) (l0 : List Itm) : Cut f l0 f l0 [] (fun _ => none) 0 :=
  ⟨List.nodup_nil, fun t h => (by cases h), fun y h => h, fun u => (by simp), fun u d => (by simp), fun t h => (by cases h), fun y h _ => .inr h, .inl rfl, Nat.le_refl _⟩
theorem Cut.stale_in (h : Cut f l0 fk l T g k) {y : Itm} (hs : Stale fk y) (hl : LiveI f y) : y ∈ T := by
  unfold Stale LiveI at *
  rw [h.rest] at hs
  by_cases hm : y.id ∈ T.map Itm.id
  · obtain ⟨t, ht, hid⟩ := List.mem_map.1 hm
    have h1 := (h.live t ht).2
    unfold LiveI at h1
    rw [hid, hl] at h1
    injection h1 with h1
    have := itm_ext h1 hid.symm
    rw [this]; exact ht
  · rw [if_neg hm] at hs; exact absurd hl hs
theorem Cut.fresh (h : Cut f l0 fk l T g k) (ht : Taken fk l x l') : x.id ∉ T.map Itm.id ∧ f x.id = some x.key ∧ g x.id = none := by
  have h1 := ht.live
  rw [h.rest] at h1
  by_cases hm : x.id ∈ T.map Itm.id
  · rw [if_pos hm] at h1; cases h1
  · rw [if_neg hm] at h1
    refine ⟨hm, h1, ?_⟩
    cases hg : g x.id with
    | none => rfl
    | some d =>
      obtain ⟨t, ht, e, _⟩ := (h.told _ _).1 hg
      exact absurd (List.mem_map.2 ⟨t, ht, e⟩) hm
theorem Cut.take (h : Cut f l0 fk l T g k) (ht : Taken fk l x l') : Cut f l0 (off fk x.id) l' (T ++ [x]) (upd g x.id x.key) (k + 1) := by
  obtain ⟨f1, f2, f3⟩ := h.fresh ht
  obtain ⟨gone, hp, hg⟩ := ht.perm
  have hmem : ∀ y, y ∈ l ↔ y ∈ gone ∨ y = x ∨ y ∈ l' := fun y => by rw [hp.mem_iff]; simp
  have hx0 : x ∈ l0 := h.sub x ((hmem x).2 (.inr (.inl rfl)))
  refine ⟨?_, fun t htm => ?_, fun y hy => h.sub y ((hmem y).2 (.inr (.inr hy))), fun u => ?_, fun u d => ?_, fun t htm y hy => ?_, fun y hy hl => ?_, ?_, by simp; exact h.le⟩
  · rw [List.map_append, List.map_singleton]
    exact List.nodup_append.2 ⟨h.nodup, by simp, fun a ha b hb => by
      have : b = x.id := by simpa using hb
      subst this
      exact fun e => f1 (e ▸ ha)⟩
  · rcases List.mem_append.1 htm with htm | htm
    · exact h.live t htm
    · have : t = x := by simpa using htm
      subst this; exact ⟨hx0, f2⟩
  · rw [List.map_append, List.map_singleton]
    by_cases hu : u = x.id
    · subst hu; rw [off_same, if_pos (by simp)]
    · rw [off_other fk hu, h.rest]
      by_cases hm : u ∈ T.map Itm.id
      · rw [if_pos hm, if_pos (List.mem_append_left _ hm)]
      · rw [if_neg hm, if_neg (fun e => by rcases List.mem_append.1 e with e | e
                                           · exact hm e
                                           · exact hu (by simpa using e))]
  · by_cases hu : u = x.id
    · subst hu
      rw [upd_same]
      constructor
      · intro e; injection e with e; exact ⟨x, by simp, rfl, e⟩
      · rintro ⟨t, ht2, e1, e2⟩
        rcases List.mem_append.1 ht2 with ht2 | ht2
        · exact absurd (List.mem_map.2 ⟨t, ht2, e1⟩) f1
        · have : t = x := by simpa using ht2
          subst this; rw [e2]
    · rw [upd_other g _ hu, h.told]
      constructor
      · rintro ⟨t, ht2, e⟩; exact ⟨t, List.mem_append_left _ ht2, e⟩
      · rintro ⟨t, ht2, e1, e2⟩
        rcases List.mem_append.1 ht2 with ht2 | ht2
        · exact ⟨t, ht2, e1, e2⟩
        · have : t = x := by simpa using ht2
          subst this; exact absurd e1.symm hu
  · rcases List.mem_append.1 htm with htm | htm
    · exact h.order t htm y ((hmem y).2 (.inr (.inr hy)))
    · have : t = x := by simpa using htm
      subst this; exact ht.le y hy
  · rcases h.all y hy hl with h1 | h1
    · exact .inl (List.mem_append_left _ h1)
    · rcases (hmem y).1 h1 with h2 | h2 | h2
      · exact .inl (List.mem_append_left _ (h.stale_in (hg y h2) hl))
      · subst h2; exact .inl (by simp)
      · exact .inr h2
  · rcases h.cnt with h1 | h1
    · left; simp [h1]
    · subst h1
      have := (hmem x).2 (.inr (.inl rfl))
      cases this
theorem Cut.miss (h : Cut f l0 fk l T g k) (hs : ∀ y ∈ l, Stale fk y) : Cut f l0 fk [] T g (k + 1) :=
  ⟨h.nodup, h.live, fun y hy => (by cases hy), h.rest, h.told, fun t _ y hy => (by cases hy), fun y hy hl => .inl ((h.all y hy hl).elim id fun h1 => h.stale_in (hs y h1) hl), .inr rfl, Nat.le_succ_of_le h.le⟩
theorem Cut.kept (h : Cut f l0 fk l T g 17) : Kept f l0 T := by
  refine ⟨h.nodup, h.live, fun y hy hl => ?_⟩
  by_cases hm : y ∈ T
  · exact .inl hm
  · right
    have hyl : y ∈ l := (h.all y hy hl).resolve_left hm
    rcases h.cnt with h1 | h1
    · refine ⟨by omega, fun t ht => ?_⟩
      have h2 := h.order t ht y hyl
      rcases Nat.lt_or_ge t.r y.r with h3 | h3
      · exact h3
      · exfalso
        have h4 : t.r = y.r := by omega
        have e : t = y := by
          have := t.hid; have := y.hid
          unfold Itm.r at h4
          exact itm_ext (by omega) (by omega)
        exact hm (e ▸ ht)
    · subst h1; cases hyl
/-- what the map says again, once all is put back -/
theorem Cut.back (h : Cut f l0 fk l T g k) (u : Nat) : (match g u with | some d => some d | none => fk u) = f u := by
  cases hg : g u with
  | some d =>
    obtain ⟨t, ht, e1, e2⟩ := (h.told u d).1 hg
    have := (h.live t ht).2
    unfold LiveI at this
    rw [e1, e2] at this
    exact this.symm
  | none =>
    show fk u = f u
    rw [h.rest, if_neg]
    intro hm
    obtain ⟨t, ht, e⟩ := List.mem_map.1 hm
    rw [(h.told u t.key).2 ⟨t, ht, e, rfl⟩] at hg
    cases hg
end
end Go.Proofs.Ytpnmfhcmodoeiaa
