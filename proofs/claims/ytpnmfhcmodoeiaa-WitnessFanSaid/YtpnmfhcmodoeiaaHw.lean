/- A heap at large: its slice may be nil. -/
import Derived.Test.YtpnmfhcmodoeiaaHs
namespace Go.Proofs.Ytpnmfhcmodoeiaa
open Go.RowKit
structure HS (H : Nat) (w : World) (v : Value) (l : List Itm) : Prop where
  row : w.heap[H]? = some (.cells #[v, .func (.func 36) #[] #[]] 97 (0, 0))
  own : Its w (H + 1) v l
theorem HAt.hs {H g c : Nat} {w : World} {l : List Itm} (h : HAt H g c w l) : HS H w (.slice (some ⟨g, 0, none⟩) l.length c) l := ⟨h.row, h.own⟩
theorem HS.at {H : Nat} {w : World} {v : Value} {l : List Itm} (h : HS H w v l) (hl : 0 < l.length) : ∃ g c, v = .slice (some ⟨g, 0, none⟩) l.length c ∧ HAt H g c w l := by
  obtain ⟨A, c, hv, _⟩ := h.own.form
  obtain ⟨h1, h2⟩ := h.own
  rcases h2 with h2 | ⟨g, cap, cur, hg, _⟩
  · have := h2.2; omega
  · rw [hv] at hg
    injection hg with e1 e2 e3
    subst e1
    exact ⟨g, c, hv, ⟨hv ▸ h.row, hv ▸ h.own⟩⟩
theorem HS.empty {H : Nat} {w : World} {v : Value} (h : HS H w v []) : ∃ A c, v = .slice A 0 c ∧ w.cell? ⟨H, 0, none⟩ = some (.slice A 0 c) := by
  obtain ⟨A, c, hv, _⟩ := h.own.form
  exact ⟨A, c, hv, by have := cell_of_row w H 0 _ _ _ h.row; rw [hv] at this; exact this⟩
theorem HS.fresh {H : Nat} {w : World} (h : w.heap[H]? = some (.cells #[.slice none 0 0, .func (.func 36) #[] #[]] 97 (0, 0))) : HS H w (.slice none 0 0) [] :=
  ⟨h, rfl, .inl ⟨rfl, rfl⟩⟩
end Go.Proofs.Ytpnmfhcmodoeiaa
