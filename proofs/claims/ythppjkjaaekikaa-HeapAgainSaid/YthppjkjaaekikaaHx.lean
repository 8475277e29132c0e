/- What is not taken yet of a list; heaps beside rows and boxes of the call's own. -/
import Derived.Test.YthppjkjaaekikaaHb
import Derived.OwnWalk
namespace Go.Proofs.Ythppjkjaaekikaa
open Go.RowKit
/-- what is not taken -/
def untaken : List Itm → List Bool → List Itm
  | x :: l, b :: t => if b = true then untaken l t else x :: untaken l t
  | _, _ => []
def gtB (t : List Bool) (i : Nat) : Bool := t.getD i true
theorem untaken_none : ∀ l : List Itm, untaken l (List.replicate l.length false) = l
  | [] => rfl
  | x :: l => by rw [List.length_cons, List.replicate_succ, untaken, if_neg (by simp), untaken_none l]
theorem untaken_mem : ∀ (l : List Itm) (t : List Bool) (x : Itm), x ∈ untaken l t → ∃ i, i < l.length ∧ gtB t i = false ∧ gt l i = x
  | [], t, x, h => by cases t <;> simp [untaken] at h
  | y :: l, [], x, h => by simp [untaken] at h
  | y :: l, b :: t, x, h => by
    rw [untaken] at h
    by_cases hb : b = true
    · rw [if_pos hb] at h
      obtain ⟨i, h1, h2, h3⟩ := untaken_mem l t x h
      exact ⟨i + 1, by simpa using h1, h2, h3⟩
    · rw [if_neg hb] at h
      rcases List.mem_cons.1 h with rfl | h
      · exact ⟨0, by simp, by simpa [gtB] using hb, rfl⟩
      · obtain ⟨i, h1, h2, h3⟩ := untaken_mem l t x h
        exact ⟨i + 1, by simpa using h1, h2, h3⟩
theorem untaken_set : ∀ (l : List Itm) (t : List Bool) (i : Nat), i < l.length → gtB t i = false → (gt l i :: untaken l (t.set i true)).Perm (untaken l t)
  | [], t, i, h, _ => by simp at h
  | y :: l, [], i, h, h2 => by simp [gtB] at h2
  | y :: l, b :: t, 0, h, h2 => by
    have hb : b = false := h2
    subst hb
    simp [untaken, gt]
  | y :: l, b :: t, i + 1, h, h2 => by
    have ih := untaken_set l t i (by simpa using h) h2
    have e : gt (y :: l) (i + 1) = gt l i := rfl
    rw [e, List.set_cons_succ, untaken, untaken]
    by_cases hb : b = true
    · rw [if_pos hb, if_pos hb]; exact ih
    · rw [if_neg hb, if_neg hb]
      exact (List.Perm.swap _ _ _).trans (ih.cons y)
theorem gtB_lt {t : List Bool} {i : Nat} (h : i < t.length) : gtB t i = t[i] := by unfold gtB; rw [List.getD_eq_getElem?_getD, List.getElem?_eq_getElem h]; rfl
def encB (b : Bool) : List Value := [.bool b]
/-- a row of truth values of the call's own -/
abbrev BLs (w : World) (base : Nat) (v : Value) (t : List Bool) : Prop := OwnS w base 4 1 encB v t
theorem flat_encB : ∀ t : List Bool, t.flatMap encB = t.map Value.bool
  | [] => rfl
  | b :: t => by rw [List.flatMap_cons, flat_encB t]; rfl
theorem BLs.cell {w : World} {base g c : Nat} {t : List Bool} (h : BLs w base (.slice (some ⟨g, 0, none⟩) t.length c) t) (i : Nat) (hi : i < t.length) :
    w.cell? ⟨g, i, none⟩ = some (.bool (gtB t i)) ∧ w.frozen? ⟨g, i, none⟩ = false := by
  unfold BLs OwnS at h
  refine ⟨?_, h.frozenAt _⟩
  rw [h.cellAt _ (by omega), flat_encB, List.getElem?_map, List.getElem?_eq_getElem hi, gtB_lt hi]
  rfl
theorem BLs.set {w : World} {base g c : Nat} {t : List Bool} (h : BLs w base (.slice (some ⟨g, 0, none⟩) t.length c) t) (i : Nat) (b : Bool) :
    BLs (w.setCell ⟨g, i, none⟩ (.bool b)) base (.slice (some ⟨g, 0, none⟩) t.length c) (t.set i b) := by
  unfold BLs OwnS at *
  have h1 := (h.stored i (.bool b)).1
  rw [List.length_set, flat_encB, List.map_set]
  rw [flat_encB] at h1
  exact h1
theorem bool_info : (Try.prog.info? 4).map (fun i => (i.zero, i.size, i.bytes)) = some (some (.bool false), 1, 1) := by kernel_rfl
theorem BLs.made {w : World} {base g n : Nat} (h : w.ownsRow base 4 1 (.slice (some ⟨g, 0, none⟩) n n) n (madeCells (Value.bool false).cells (n * 1)).toList) : BLs w base (.slice (some ⟨g, 0, none⟩) n n) (List.replicate n false) := by
  unfold BLs OwnS
  rw [List.length_replicate, flat_encB, List.map_replicate]
  have e : (madeCells (Value.bool false).cells (n * 1)).toList = List.replicate n (.bool false) := by rw [Nat.mul_one]; exact toList_madeCells_one _ _
  rw [e] at h
  exact h
/-- a store into another block leaves an object as it was -/
theorem OI.set {mk : Value → Array Value} {T : TypeId} {H B : Nat} {w : World} {v : Value} {l : List Itm} (h : OI mk T H w v l) (h1 : B ≠ H) (h2 : ∀ j, v.ownBlock = some j → j ≠ B) (i : Nat) (u : Value) : OI mk T H (w.setCell ⟨B, i, none⟩ u) v l :=
  ⟨(heap_setCell_other _ _ _ _ (Ne.symm h1)).trans h.row, h.own.same fun k hk => heap_setCell_other _ _ _ _ (h2 k hk)⟩
theorem HP.set {H B : Nat} {w : World} {v : Value} {l : List Itm} (h : HP H w v l) (h1 : B ≠ H) (h2 : ∀ j, v.ownBlock = some j → j ≠ B) (i : Nat) (u : Value) : HP H (w.setCell ⟨B, i, none⟩ u) v l := ⟨h.oi.set h1 h2 i u, h.heap⟩
theorem OI.not_new {mk : Value → Array Value} {T : TypeId} {H B : Nat} {w : World} {v : Value} {l : List Itm} (h : OI mk T H w v l) (hB : w.heap.size ≤ B) : ∀ j, v.ownBlock = some j → j ≠ B := fun j hj => by have := (h.own.lt j hj).2; omega
theorem Step.not_old {H B : Nat} {v v' : Value} {w w' : World} (hs : Step H v v' w w') (hB : B < w.heap.size) (h : ∀ j, v.ownBlock = some j → j ≠ B) : ∀ j, v'.ownBlock = some j → j ≠ B := fun j hj => by
  rcases hs.row j hj with h1 | h1
  · exact h j h1
  · omega
theorem Step.box {H B : Nat} {v v' : Value} {w w' : World} (hs : Step H v v' w w') (hB : B < w.heap.size) (hH : B ≠ H) (h : ∀ j, v.ownBlock = some j → j ≠ B) : w'.heap[B]? = w.heap[B]? := hs.keeps.block B hB hH (fun e => h B e.symm rfl)
theorem gt_get {l : List Itm} {i : Nat} (h : i < l.length) : l[i] = gt l i := (gt_eq h).symm
theorem take_next {l : List Itm} {i : Nat} (h : i < l.length) : l.take (i + 1) = l.take i ++ [gt l i] := by rw [List.take_succ_eq_append_getElem h, gt_get h]
/-- an item of a list in memory, at a later time -/
theorem ILs.gt' {w W : World} {A : Option Addr} {l : List Itm} (h : ILs w.heap.size w A l) (hb : Below w.heap.size w W) (i : Nat) (hi : i < l.length) :
    ∃ b o : Nat, A = some ⟨b, o, none⟩ ∧ b < w.heap.size ∧ W.cell? ⟨b, o + i * 2, none⟩ = some (.int .u64 ((gt l i).key : Int)) ∧ W.cell? ⟨b, o + i * 2 + 1, none⟩ = some (.int .u32 ((gt l i).id : Int)) := by
  obtain ⟨b, o, h1, h2, h3, h4⟩ := h.at' i hi
  rw [gt_get hi] at h3 h4
  exact ⟨b, o, h1, h2, (hb.cell (p := ⟨b, _, none⟩) h2).trans h3, (hb.cell (p := ⟨b, _, none⟩) h2).trans h4⟩
end Go.Proofs.Ythppjkjaaekikaa
