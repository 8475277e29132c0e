/- A heap and the document's heap beside one another. -/
import Derived.Test.YthppjkjaaekikaaHz
import Derived.Test.YthppjkjaaekikaaHj
import Derived.Test.YthppjkjaaekikaaHt
import Derived.Test.YthppjkjaaekikaaHm
import Derived.Test.YthppjkjaaekikaaHy
namespace Go.Proofs.Ythppjkjaaekikaa
open Go.RowKit
structure Pair (H R : Nat) (W w : World) (v : Value) (l : List Itm) (u : Value) (m : List Itm) : Prop where
  hp : HP H w v l
  ro : RO R w u m
  apart : ∀ j, v.ownBlock = some j → u.ownBlock ≠ some j
  ne : R ≠ H
  lowH : W.heap.size ≤ H
  lowR : W.heap.size ≤ R
  low : Below W.heap.size W w
theorem HP.below {H : Nat} {w w' : World} {v : Value} {l : List Itm} (h : HP H w v l) (hb : Below w.heap.size w w') : HP H w' v l := ⟨h.oi.below hb, h.heap⟩
section
variable {H R : Nat} {W w w' : World} {v v' u u' : Value} {l l' m m' : List Itm}
theorem Pair.below (h : Pair H R W w v l u m) (hb : Below w.heap.size w w') : Pair H R W w' v l u m :=
  ⟨h.hp.below hb, h.ro.below hb, h.apart, h.ne, h.lowH, h.lowR, h.low.trans (hb.mono h.low.size)⟩
theorem Pair.drew (h : Pair H R W w v l u m) : Pair H R W w.drew v l u m := h.below (below_drewN (Below.refl _ _) 1)
theorem Pair.stepH (h : Pair H R W w v l u m) (k : HP H w' v' l') (hs : Step H v v' w w') : Pair H R W w' v' l' u m :=
  ⟨k, h.ro.stay h.hp.oi hs h.ne (by decide) (by decide) h.apart, h.ro.stay_apart hs h.apart, h.ne, h.lowH, h.lowR, hs.low h.low h.hp.oi h.lowH⟩
theorem Pair.stepR (h : Pair H R W w v l u m) (k : RO R w' u' m') (hs : Step R u u' w w') : Pair H R W w' v l u' m' :=
  ⟨⟨h.hp.oi.stay h.ro hs h.ne.symm (by decide) (by decide) (fun j h1 h2 => h.apart j h2 h1), h.hp.heap⟩, k, fun j h1 h2 => h.hp.oi.stay_apart hs (fun j h1 h2 => h.apart j h2 h1) j h2 h1, h.ne, h.lowH, h.lowR, hs.low h.low h.ro h.lowR⟩
theorem rpop_none (H : Nat) (v : Value) (w : World) (h : RO H w v []) :
    Calls Try.prog 12 #[.pointer (some ⟨H, 0, none⟩)] w fun e w' => e = .returned (.tuple #[Itm.nil.agg, .bool false]) ∧ Below w.heap.size w w' := by
  obtain ⟨A, c, rfl, hc⟩ := oi_cell h rfl
  exact rpop_empty H c A w hc
/-- what a Pop tells of a list -/
def PopSaid (l l' : List Itm) (y : Itm) (b : Bool) : Prop := (b = true ∧ (l' ++ [y]).Perm l ∧ Least l y) ∨ (b = false ∧ l = [] ∧ l' = [] ∧ y = Itm.nil)
theorem PopSaid.one {l l' m m' : List Itm} {y z : Itm} {b c : Bool} (h : PopSaid l l' y b) (k : PopSaid m m' z c) (hp : l.Perm m) : y = z ∧ b = c ∧ l'.Perm m' := by
  rcases h with ⟨rfl, h1, h2⟩ | ⟨rfl, rfl, rfl, rfl⟩
  · rcases k with ⟨rfl, k1, k2⟩ | ⟨rfl, rfl, rfl, rfl⟩
    · have e := least_one hp h2 k2
      subst e
      exact ⟨rfl, rfl, (List.perm_append_right_iff _).1 (h1.trans (hp.trans k1.symm))⟩
    · have := hp.eq_nil
      subst this
      exact absurd h2.1 (by simp)
  · have hm : m = [] := hp.symm.eq_nil
    subst hm
    rcases k with ⟨rfl, k1, k2⟩ | ⟨rfl, _, rfl, rfl⟩
    · exact absurd k2.1 (by simp)
    · exact ⟨rfl, rfl, List.Perm.refl _⟩
theorem PopSaid.len {l l' : List Itm} {y : Itm} {b : Bool} (h : PopSaid l l' y b) : l'.length ≤ l.length := by
  rcases h with ⟨_, h1, _⟩ | ⟨_, rfl, rfl, _⟩
  · have := perm_len' h1; omega
  · exact Nat.le_refl _
theorem pop_said (H : Nat) (v : Value) (l : List Itm) (w : World) (h : HP H w v l) (hl : l.length ≤ 65536) :
    Calls Try.prog 11 #[.pointer (some ⟨H, 0, none⟩)] w fun e w' => ∃ v' l' y b, e = .returned (.tuple #[y.agg, .bool b]) ∧ HP H w' v' l' ∧ Step H v v' w w' ∧ PopSaid l l' y b := by
  by_cases h0 : l.length = 0
  · have hn := List.eq_nil_of_length_eq_zero h0
    subst hn
    refine (pop_none H v w h.oi).mono fun e w' ⟨he, hb⟩ => ?_
    exact ⟨v, [], Itm.nil, false, he, h.below hb, (Step.refl _ _ _).below hb, .inr ⟨rfl, rfl, rfl, rfl⟩⟩
  · refine (pop_hp H v l w h (by omega) hl).mono fun e w' ⟨v', l', x, he, h1, h2, h3, h4⟩ => ?_
    exact ⟨v', l', x, true, he, h1, h4, .inl ⟨rfl, h2, h3⟩⟩
theorem rpop_said (H : Nat) (v : Value) (l : List Itm) (w : World) (h : RO H w v l) (hl : l.length ≤ 65536) :
    Calls Try.prog 12 #[.pointer (some ⟨H, 0, none⟩)] w fun e w' => ∃ v' l' y b, e = .returned (.tuple #[y.agg, .bool b]) ∧ RO H w' v' l' ∧ Step H v v' w w' ∧ PopSaid l l' y b := by
  by_cases h0 : l.length = 0
  · have hn := List.eq_nil_of_length_eq_zero h0
    subst hn
    refine (rpop_none H v w h).mono fun e w' ⟨he, hb⟩ => ?_
    exact ⟨v, [], Itm.nil, false, he, h.below hb, (Step.refl _ _ _).below hb, .inr ⟨rfl, rfl, rfl, rfl⟩⟩
  · refine (rpop_ro H v l w h (by omega) hl).mono fun e w' ⟨v', l', x, he, h1, h2, h3, h4⟩ => ?_
    exact ⟨v', l', x, true, he, h1, h4, .inl ⟨rfl, h2, h3⟩⟩
/-- at the start: a new heap, and the document's -/
theorem Pair.start {W w1 : World} (h : HP W.heap.size w1 (.slice none 0 0) []) (hb : Below W.heap.size W w1) :
    Pair W.heap.size w1.heap.size W (w1.alloc (.cells #[.slice none 0 0] 28)) (.slice none 0 0) [] (.slice none 0 0) [] :=
  ⟨h.below ((Below.refl _ _).alloc (Nat.le_refl _) _), OI.fresh (heap_alloc_new _ _), fun j hj => by simp [Value.ownBlock] at hj, by have := h.oi.lt; omega, Nat.le_refl _, hb.size, hb.alloc hb.size _⟩
end
end Go.Proofs.Ythppjkjaaekikaa
