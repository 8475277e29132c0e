/- A front that is never too full. -/
import Derived.Test.YtpnmfhcmodoeiaaSt
import Derived.Test.YtpnmfhcmodoeiaaLe
import Derived.Test.YtpnmfhcmodoeiaaCo
namespace Go.Proofs.Ytpnmfhcmodoeiaa
open Go.RowKit
/-- who is come to waits -/
def Live (l : List Itm) (f : Nat → Option Nat) : Prop := ∀ v d, f v = some d → ∃ x ∈ l, x.id = v ∧ x.key = d
theorem r_le {x y : Itm} (h : x.r ≤ y.r) : x.key < y.key ∨ x.key = y.key ∧ x.id ≤ y.id := by
  have := x.hid; have := y.hid
  unfold Itm.r at h
  omega
section
variable {f : Nat → Option Nat} {l l' : List Itm} {x : Itm}
theorem Taken.mem (h : Taken f l x l') (hl : Live l f) {u e : Nat} (hu : f u = some e) : ∃ y, (y = x ∨ y ∈ l') ∧ y.id = u ∧ y.key = e := by
  obtain ⟨y, hy, rfl, rfl⟩ := hl u e hu
  obtain ⟨gone, hp, hg⟩ := h.perm
  refine ⟨y, ?_, rfl, rfl⟩
  have h1 := hp.mem_iff.1 hy
  simp only [List.mem_append, List.mem_cons] at h1
  rcases h1 with h1 | h1 | h1
  · exact absurd hu (hg y h1)
  · exact .inl h1
  · exact .inr h1
theorem Taken.least (h : Taken f l x l') (hl : Live l f) : IsLeast f x.id x.key := by
  refine ⟨h.live, fun u e hu => ?_⟩
  obtain ⟨y, hy, rfl, rfl⟩ := h.mem hl hu
  rcases hy with rfl | hy
  · omega
  · exact r_le (h.le y hy)
theorem Taken.lives (h : Taken f l x l') (hl : Live l f) : Live l' (off f x.id) := by
  intro u e hu
  by_cases hux : u = x.id
  · subst hux; rw [off_same] at hu; cases hu
  · rw [off_other f hux] at hu
    obtain ⟨y, hy, rfl, rfl⟩ := h.mem hl hu
    rcases hy with rfl | hy
    · exact absurd rfl hux
    · exact ⟨y, hy, rfl, rfl⟩
theorem Taken.len (h : Taken f l x l') : l'.length + 1 ≤ l.length := by
  obtain ⟨gone, hp, _⟩ := h.perm
  have := hp.length_eq
  simp at this
  omega
theorem Live.put (h : Live l f) (hp : l'.Perm (l ++ [x])) : Live l' (upd f x.id x.key) := by
  intro u e hu
  by_cases hux : u = x.id
  · subst hux
    rw [upd_same] at hu
    injection hu with hu
    exact ⟨x, hp.mem_iff.2 (by simp), rfl, hu⟩
  · rw [upd_other f _ hux] at hu
    obtain ⟨y, hy, h1, h2⟩ := h u e hu
    exact ⟨y, hp.mem_iff.2 (by simp [hy]), h1, h2⟩
end
def plainFront : FrontD where
  lim := 65536
  G := fun F _ c f O w => ∃ H M n v l, O = frO F H M v ∧ FrAt F H M n w v l f ∧ Live l f ∧ l.length ≤ c ∧ n ≤ c ∧ c ≤ 65536
theorem plain_front : FrontC plainFront where
  init := fun F H M w h => ⟨H, M, 0, _, [], rfl, h, fun _ _ h => by simp at h, by simp, by omega, by omega⟩
  come := fun F r c f O w v d h hc hv hd => by
    obtain ⟨H, M, n, u, l, rfl, h1, h2, h3, h4, h5⟩ := h
    have hc : c < 65536 := hc
    rcases comeF_cases f v d with ⟨old, hf, hle, he⟩ | ⟨hf, he⟩
    · rw [he]
      refine (come_old F H M n u l f v d old w h1 hv hf hle).mono fun e w' ⟨hr, hw⟩ => ?_
      subst hw
      exact ⟨hr, _, ⟨H, M, n, u, l, rfl, h1, h2, by omega, by omega, by omega⟩, Moves.refl _ _⟩
    · rw [he]
      refine (come_new F H M n u l f v d w h1 hv hd hf (by omega) (by omega)).mono fun e w' ⟨hr, v', l', k1, k2, k3⟩ => ?_
      refine ⟨hr, _, ⟨H, M, n + 1, v', l', rfl, k1, h2.put (x := ⟨d, v, hd, hv⟩) k2, ?_, by omega, by omega⟩, k3⟩
      have := perm_len k2
      omega
  least := fun F r c f O w h => by
    obtain ⟨H, M, n, u, l, rfl, h1, h2, h3, h4, h5⟩ := h
    refine (least_any F H M n u l f w h1 (by omega)).mono fun e w' ⟨v', l', k1, k2⟩ => ?_
    rcases k2 with ⟨x, hr, k3, k4⟩ | ⟨hr, k3, _, k4⟩
    · refine ⟨x.id, x.key, true, _, hr, k1, x.hid, x.hkey, fun _ => .inl ⟨rfl, k4.least h2, H, M, n, v', l', rfl, k3, k4.lives h2, ?_, h4, h5⟩⟩
      have := k4.len
      omega
    · refine ⟨0, 0, false, _, hr, k1, by omega, by omega, fun _ => .inr ⟨rfl, fun u => ?_⟩⟩
      cases hu : f u with
      | none => rfl
      | some e =>
        obtain ⟨y, hy, rfl, rfl⟩ := h2 u e hu
        exact absurd hu (k4 y hy)
  stay := fun F r c f O w w' h hb => by
    obtain ⟨H, M, n, u, l, rfl, h1, h2⟩ := h
    exact ⟨H, M, n, u, l, rfl, h1.stay hb, h2⟩
  lt := fun F r c f O w h => by
    obtain ⟨H, M, n, u, l, rfl, h1, h2⟩ := h
    exact h1.lt
end Go.Proofs.Ytpnmfhcmodoeiaa
