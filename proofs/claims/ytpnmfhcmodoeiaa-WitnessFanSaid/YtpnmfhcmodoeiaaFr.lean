/- The front of a search: its heap and its map; what a call may move. -/
import Derived.Test.YtpnmfhcmodoeiaaHy0
import Derived.Test.YtpnmfhcmodoeiaaMa
namespace Go.Proofs.Ytpnmfhcmodoeiaa
open Go.RowKit
/-- of the blocks that were there only those of O have turned; O' are those of O and new ones -/
structure Moves (O O' : Nat → Prop) (w w' : World) : Prop where
  os : w'.os = w.os
  tape : w'.tape = w.tape
  output : w'.output = w.output
  size : w.heap.size ≤ w'.heap.size
  block : ∀ b, b < w.heap.size → ¬ O b → w'.heap[b]? = w.heap[b]?
  own : ∀ b, O' b → O b ∨ w.heap.size ≤ b
section
variable {O O' O2 : Nat → Prop} {w w1 w2 : World}
theorem Moves.refl (O : Nat → Prop) (w : World) : Moves O O w w := ⟨rfl, rfl, rfl, Nat.le_refl _, fun _ _ _ => rfl, fun _ h => .inl h⟩
theorem Moves.trans (h : Moves O O' w w1) (k : Moves O' O2 w1 w2) : Moves O O2 w w2 :=
  ⟨k.os.trans h.os, k.tape.trans h.tape, k.output.trans h.output, Nat.le_trans h.size k.size, fun b h1 h2 => (k.block b (Nat.lt_of_lt_of_le h1 h.size) (fun e => by
    rcases h.own b e with h3 | h3
    · exact h2 h3
    · omega)).trans (h.block b h1 h2), fun b hb => by
    rcases k.own b hb with h1 | h1
    · exact h.own b h1
    · exact .inr (Nat.le_trans h.size h1)⟩
theorem Moves.below (h : Moves O O' w w1) (hb : Below w1.heap.size w1 w2) : Moves O O' w w2 :=
  ⟨hb.os.trans h.os, hb.tape.trans h.tape, hb.output.trans h.output, Nat.le_trans h.size hb.size, fun b h1 h2 => (hb.block b (Nat.lt_of_lt_of_le h1 h.size)).trans (h.block b h1 h2), h.own⟩
theorem Moves.of_below (hb : Below w.heap.size w w1) : Moves O O w w1 := (Moves.refl O w).below hb
theorem Moves.of_grown {b : Nat} (h : w.grownBy w1 (some b)) (hb : O b) : Moves O O w w1 :=
  ⟨h.os, h.tape, h.output, h.size, fun k h1 h2 => h.block k h1 (fun e => h2 (by injection e with e; exact e ▸ hb)), fun _ h => .inl h⟩
theorem Moves.set {b : Nat} (h : Moves O O' w w1) (hb : O b ∨ w.heap.size ≤ b) (i : Nat) (u : Value) : Moves O O' w (w1.setCell ⟨b, i, none⟩ u) :=
  ⟨h.os, h.tape, h.output, by rw [World.size_setCell]; exact h.size, fun k h1 h2 => (heap_setCell_other _ _ _ _ (by
    rintro (rfl : k = b)
    rcases hb with hb | hb
    · exact h2 hb
    · omega)).trans (h.block k h1 h2), h.own⟩
theorem Moves.low (h : Moves O O' w w1) {B : Nat} (hB : ∀ b, O b → B ≤ b) (hs : B ≤ w.heap.size) : Below B w w1 :=
  ⟨h.os, h.tape, h.output, h.size, fun b hb => h.block b (by omega) (fun e => by have := hB b e; omega)⟩
end
/-- the front at F: its heap at H, its map in block M -/
structure FrAt (F H M n : Nat) (w : World) (v : Value) (l : List Itm) (f : Nat → Option Nat) : Prop where
  row : w.heap[F]? = some (.cells #[.pointer (some ⟨H, 0, none⟩), .map (some M)] 73 (0, 0))
  hp : HP H w v l
  map : FMap w M n f
/-- the blocks of a front -/
def frO (F H M : Nat) (v : Value) : Nat → Prop := fun b => b = F ∨ b = H ∨ b = M ∨ v.ownBlock = some b
section
variable {F H M n : Nat} {w w' : World} {v v' : Value} {l l' : List Itm} {f f' : Nat → Option Nat}
theorem FrAt.lt (h : FrAt F H M n w v l f) : ∀ b, frO F H M v b → b < w.heap.size := fun b hb => by
  rcases hb with rfl | rfl | rfl | hb
  · exact (Array.getElem?_eq_some_iff.1 h.row).1
  · exact h.hp.oi.lt
  · exact h.map.lt
  · exact (h.hp.oi.own.lt b hb).2
theorem FrAt.stay (h : FrAt F H M n w v l f) (hb : ∀ b, frO F H M v b → w'.heap[b]? = w.heap[b]?) : FrAt F H M n w' v l f :=
  ⟨(hb F (.inl rfl)).trans h.row, ⟨⟨(hb H (.inr (.inl rfl))).trans h.hp.oi.row, h.hp.oi.own.same fun k hk => hb k (.inr (.inr (.inr hk)))⟩, h.hp.heap⟩, h.map.same (hb M (.inr (.inr (.inl rfl))))⟩
theorem FrAt.below (h : FrAt F H M n w v l f) (hb : Below w.heap.size w w') : FrAt F H M n w' v l f := h.stay fun b hb2 => hb.block b (h.lt b hb2)
theorem row_not (h : HP H w v l) {b : Nat} {cs : Array Value} {T : TypeId} (hb : w.heap[b]? = some (.cells cs T (0, 0))) (hT : T ≠ 88) : v.ownBlock ≠ some b := by
  intro e
  obtain ⟨_, h2⟩ := h.oi.own
  rcases h2 with h2 | ⟨g, cap, cur, hg, _, hh, _⟩
  · rw [h2.1] at e; simp [Value.ownBlock] at e
  · rw [hg] at e
    have : g = b := by simpa [Value.ownBlock] using e
    subst this
    rw [hb] at hh
    injection hh with hh
    injection hh with _ h3 _
    exact hT h3
theorem row_not_map (h : HP H w v l) (k : FMap w M n f) : v.ownBlock ≠ some M := by
  intro e
  obtain ⟨_, h2⟩ := h.oi.own
  rcases h2 with h2 | ⟨g, cap, cur, hg, _, hh, _⟩
  · rw [h2.1] at e; simp [Value.ownBlock] at e
  · rw [hg] at e
    have : g = M := by simpa [Value.ownBlock] using e
    subst this
    exact k.no_cells hh
/-- the blocks are four -/
theorem FrAt.ne (h : FrAt F H M n w v l f) : F ≠ H ∧ F ≠ M ∧ H ≠ M ∧ v.ownBlock ≠ some F ∧ v.ownBlock ≠ some H ∧ v.ownBlock ≠ some M := by
  refine ⟨?_, ?_, ?_, row_not h.hp h.row (by decide), row_not h.hp h.hp.oi.row (by decide), row_not_map h.hp h.map⟩
  · rintro rfl
    have := h.row.symm.trans h.hp.oi.row
    injection this with this
    injection this with _ h3 _
    exact absurd h3 (by decide)
  · rintro rfl; exact h.map.no_cells h.row
  · rintro rfl; exact h.map.no_cells h.hp.oi.row
/-- the heap has taken a step -/
theorem FrAt.heap (h : FrAt F H M n w v l f) (k : HP H w' v' l') (hs : Step H v v' w w') : FrAt F H M n w' v' l' f ∧ Moves (frO F H M v) (frO F H M v') w w' := by
  obtain ⟨n1, n2, n3, n4, n5, n6⟩ := h.ne
  have hb : ∀ b, b < w.heap.size → b ≠ H → v.ownBlock ≠ some b → w'.heap[b]? = w.heap[b]? := fun b h1 h2 h3 => hs.keeps.block b h1 h2 (fun e => h3 e.symm)
  refine ⟨⟨(hb F (h.lt F (.inl rfl)) n1 n4).trans h.row, k, h.map.same (hb M h.map.lt (Ne.symm n3) n6)⟩, hs.keeps.os, hs.keeps.tape, hs.keeps.output, hs.keeps.size, fun b h1 h2 => hb b h1 (fun e => h2 (.inr (.inl e))) (fun e => h2 (.inr (.inr (.inr e)))), fun b hb2 => ?_⟩
  rcases hb2 with rfl | rfl | rfl | hb2
  · exact .inl (.inl rfl)
  · exact .inl (.inr (.inl rfl))
  · exact .inl (.inr (.inr (.inl rfl)))
  · rcases hs.row b hb2 with h1 | h1
    · exact .inl (.inr (.inr (.inr h1)))
    · exact .inr h1
/-- the map has been written -/
theorem FrAt.mapped {n' : Nat} (h : FrAt F H M n w v l f) (k : FMap w' M n' f') (hg : w.grownBy w' (some M)) : FrAt F H M n' w' v l f' ∧ Moves (frO F H M v) (frO F H M v) w w' := by
  obtain ⟨n1, n2, n3, n4, n5, n6⟩ := h.ne
  have hb : ∀ b, b < w.heap.size → b ≠ M → w'.heap[b]? = w.heap[b]? := fun b h1 h2 => hg.block b h1 (fun e => h2 (by injection e))
  refine ⟨⟨(hb F (h.lt F (.inl rfl)) n2).trans h.row, ⟨⟨(hb H h.hp.oi.lt n3).trans h.hp.oi.row, h.hp.oi.own.same fun j hj => hb j (h.hp.oi.own.lt j hj).2 (fun e => n6 (e ▸ hj))⟩, h.hp.heap⟩, k⟩, Moves.of_grown hg (.inr (.inr (.inl rfl)))⟩
end
end Go.Proofs.Ytpnmfhcmodoeiaa
