/- A front whose heap may be full. -/
import Derived.Test.YtpnmfhcmodoeiaaCf
namespace Go.Proofs.Ytpnmfhcmodoeiaa
open Go.RowKit
def fullFront : FrontD where
  lim := 2000000
  G := fun F r c f O w => ∃ H M n v l, O = frO F H M v ∧ FrAt F H M n w v l f ∧ Near l f r ∧ l.length ≤ 65536 ∧ n ≤ 20 * c ∧ c ≤ 2000000 ∧ r ≤ 17
theorem full_front : FrontC fullFront where
  init := fun F H M w h => ⟨H, M, 0, _, [], rfl, h, fun _ _ h => by simp at h, by simp, by omega, by omega, by omega⟩
  come := fun F r c f O w v d h hc hv hd => by
    obtain ⟨H, M, n, u, l, rfl, h1, h2, h3, h4, h5, h6⟩ := h
    have hc : c < 2000000 := hc
    rcases comeF_cases f v d with ⟨old, hf, hle, he⟩ | ⟨hf, he⟩
    · rw [he]
      refine (come_old F H M n u l f v d old w h1 hv hf hle).mono fun e w' ⟨hr, hw⟩ => ?_
      subst hw
      exact ⟨hr, _, ⟨H, M, n, u, l, rfl, h1, h2, h3, by omega, by omega, h6⟩, Moves.refl _ _⟩
    · rw [he]
      by_cases hfull : l.length < 65536
      · refine (come_new F H M n u l f v d w h1 hv hd hf hfull (by omega)).mono fun e w' ⟨hr, v', l', k1, k2, k3⟩ => ?_
        refine ⟨hr, _, ⟨H, M, n + 1, v', l', rfl, k1, near_put (x := ⟨d, v, hd, hv⟩) h2 hf k2, ?_, by omega, by omega, h6⟩, k3⟩
        have := perm_len k2
        omega
      · refine (come_full F H M n u l f v d w h1 hv hd hf (by omega) (by omega)).mono fun e w' ⟨hr, H', v', l', T, n', k1, k2, k3, k4, k5, k6⟩ => ?_
        refine ⟨hr, _, ⟨H', M, n', v', l', rfl, k1, near_cut (x := ⟨d, v, hd, hv⟩) h2 h6 hf k2 k4, ?_, by omega, by omega, h6⟩, k6⟩
        have := perm_len k4
        omega
  least := fun F r c f O w h => by
    obtain ⟨H, M, n, u, l, rfl, h1, h2, h3, h4, h5, h6⟩ := h
    refine (least_any F H M n u l f w h1 h3).mono fun e w' ⟨v', l', k1, k2⟩ => ?_
    rcases k2 with ⟨x, hr, k3, k4⟩ | ⟨hr, k3, _, k4⟩
    · refine ⟨x.id, x.key, true, _, hr, k1, x.hid, x.hkey, fun hr0 => .inl ⟨rfl, near_least k4 h2 hr0, H, M, n, v', l', rfl, k3, near_next k4 h2, ?_, h4, h5, by omega⟩⟩
      have := k4.len
      omega
    · exact ⟨0, 0, false, _, hr, k1, by omega, by omega, fun hr0 => .inr ⟨rfl, near_none h2 hr0 k4⟩⟩
  stay := fun F r c f O w w' h hb => by
    obtain ⟨H, M, n, u, l, rfl, h1, h2⟩ := h
    exact ⟨H, M, n, u, l, rfl, h1.stay hb, h2⟩
  lt := fun F r c f O w h => by
    obtain ⟨H, M, n, u, l, rfl, h1, h2⟩ := h
    exact h1.lt
end Go.Proofs.Ytpnmfhcmodoeiaa
