/- What a Pop tells, in one contract. -/
import Derived.Test.YtpnmfhcmodoeiaaHy0
namespace Go.Proofs.Ytpnmfhcmodoeiaa
open Go.RowKit
/-- what a Pop tells of a list -/
def PopSaid (l l' : List Itm) (y : Itm) (b : Bool) : Prop := (b = true ∧ (l' ++ [y]).Perm l ∧ Least l y) ∨ (b = false ∧ l = [] ∧ l' = [] ∧ y = Itm.nil)
theorem HP.below {H : Nat} {w w' : World} {v : Value} {l : List Itm} (h : HP H w v l) (hb : Below w.heap.size w w') : HP H w' v l := ⟨h.oi.below hb, h.heap⟩
theorem pop_said (H : Nat) (v : Value) (l : List Itm) (w : World) (h : HP H w v l) (hl : l.length ≤ 65536) :
    Calls Try.prog 42 #[.pointer (some ⟨H, 0, none⟩)] w fun e w' => ∃ v' l' y b, e = .returned (.tuple #[y.agg, .bool b]) ∧ HP H w' v' l' ∧ Step H v v' w w' ∧ PopSaid l l' y b := by
  by_cases h0 : l.length = 0
  · have hn := List.eq_nil_of_length_eq_zero h0
    subst hn
    refine (pop_none H v w h.oi).mono fun e w' ⟨he, hb⟩ => ?_
    exact ⟨v, [], Itm.nil, false, he, h.below hb, (Step.refl _ _ _).below hb, .inr ⟨rfl, rfl, rfl, rfl⟩⟩
  · refine (pop_hp H v l w h (by omega) hl).mono fun e w' ⟨v', l', x, he, h1, h2, h3, h4⟩ => ?_
    exact ⟨v', l', x, true, he, h1, h4, .inl ⟨rfl, h2, h3⟩⟩
/-- how many items an object has, as its cell tells -/
def lenAt (H : Nat) (w : World) : Nat := match w.cell? ⟨H, 0, none⟩ with | some (.slice _ n _) => n | _ => 0
theorem HP.lenAt {H : Nat} {w : World} {v : Value} {l : List Itm} (h : HP H w v l) : lenAt H w = l.length := by
  obtain ⟨A, c, rfl, hc⟩ := oi_cell h.oi rfl
  unfold Go.Proofs.Ytpnmfhcmodoeiaa.lenAt
  rw [hc]
end Go.Proofs.Ytpnmfhcmodoeiaa
