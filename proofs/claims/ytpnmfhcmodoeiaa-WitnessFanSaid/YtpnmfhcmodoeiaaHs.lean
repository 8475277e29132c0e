/- A heap in memory: its object, and the row of its items. -/
import Derived.Test.YtpnmfhcmodoeiaaHc
import Derived.Laws.OwnMore
namespace Go.Proofs.Ytpnmfhcmodoeiaa
open Go.RowKit

theorem OwnS.same {α : Type} {w w' : World} {base : Nat} {e : TypeId} {sz : Nat} {enc : α → List Value} {v : Value} {l : List α} (h : OwnS w base e sz enc v l) (hk : ∀ k, v.ownBlock = some k → w'.heap[k]? = w.heap[k]?) : OwnS w' base e sz enc v l := by
  obtain ⟨h1, h2⟩ := h
  refine ⟨h1, ?_⟩
  rcases h2 with h2 | ⟨g, cap, cur, hv, hg, hh, r⟩
  · exact .inl h2
  · exact .inr ⟨g, cap, cur, hv, hg, (hk g (by rw [hv]; rfl)).trans hh, r⟩
/-- items of the call's own -/
abbrev Its (w : World) (base : Nat) (v : Value) (l : List Itm) : Prop := OwnS w base 88 2 Itm.enc v l
theorem its_cells {w : World} {base g c n : Nat} {l : List Itm} (h : Its w base (.slice (some ⟨g, 0, none⟩) n c) l) (i : Nat) (hi : i < l.length) :
    w.cell? ⟨g, i * 2, none⟩ = some (.int .u64 ((gt l i).key : Int)) ∧ w.cell? ⟨g, i * 2 + 1, none⟩ = some (.int .u32 ((gt l i).id : Int)) ∧ w.frozen? ⟨g, i * 2, none⟩ = false ∧ w.frozen? ⟨g, i * 2 + 1, none⟩ = false := by
  obtain ⟨A0, c0, hv, _⟩ := h.form
  injection hv with hA hn hc
  subst hn
  unfold Its OwnS at h
  have hl : ∀ x : Itm, (Itm.enc x).length = 2 := fun _ => rfl
  rw [gt_eq hi]
  refine ⟨?_, ?_, h.frozenAt _, h.frozenAt _⟩
  · rw [h.cellAt _ (by omega)]
    have := flat_at hl l i 0 hi (by omega)
    rw [Nat.add_zero] at this
    rw [this]; rfl
  · rw [h.cellAt _ (by omega), flat_at hl l i 1 hi (by omega)]; rfl
theorem flat_set (l : List Itm) (x : Itm) : ∀ i, i < l.length → (l.set i x).flatMap Itm.enc = ((l.flatMap Itm.enc).set (i * 2) (.int .u64 (x.key : Int))).set (i * 2 + 1) (.int .u32 (x.id : Int)) := by
  induction l with
  | nil => intro i h; simp at h
  | cons y l ih =>
    intro i hi
    cases i with
    | zero => simp [Itm.enc]
    | succ i =>
      have := ih i (by simpa using hi)
      rw [List.set_cons_succ, List.flatMap_cons, this, List.flatMap_cons]
      have e : (i + 1) * 2 = i * 2 + 1 + 1 := by omega
      rw [e]
      simp [Itm.enc]
theorem its_set {w : World} {base g c n : Nat} {l : List Itm} (hn : n = l.length) (h : Its w base (.slice (some ⟨g, 0, none⟩) n c) l) (i : Nat) (hi : i < l.length) (x : Itm) :
    Its ((w.setCell ⟨g, i * 2, none⟩ (.int .u64 (x.key : Int))).setCell ⟨g, i * 2 + 1, none⟩ (.int .u32 (x.id : Int))) base (.slice (some ⟨g, 0, none⟩) n c) (l.set i x) := by
  subst hn
  unfold Its OwnS at *
  have h1 := (h.stored (i * 2) (.int .u64 (x.key : Int))).1
  have h2 := (h1.stored (i * 2 + 1) (.int .u32 (x.id : Int))).1
  rw [List.length_set, flat_set l x i hi]
  exact h2

/-- a heap at H, its items in block g -/
structure HAt (H g c : Nat) (w : World) (l : List Itm) : Prop where
  row : w.heap[H]? = some (.cells #[.slice (some ⟨g, 0, none⟩) l.length c, .func (.func 36) #[] #[]] 97 (0, 0))
  own : Its w (H + 1) (.slice (some ⟨g, 0, none⟩) l.length c) l
theorem HAt.lt {H g c : Nat} {w : World} {l : List Itm} (h : HAt H g c w l) : H < w.heap.size ∧ g < w.heap.size ∧ H < g :=
  ⟨(Array.getElem?_eq_some_iff.1 h.row).1, (h.own.lt g rfl).2, by have := (h.own.lt g rfl).1; omega⟩
/-- nothing has turned but block g -/
structure Turn (g : Nat) (w w' : World) : Prop where
  os : w'.os = w.os
  tape : w'.tape = w.tape
  output : w'.output = w.output
  size : w.heap.size ≤ w'.heap.size
  block : ∀ b, b < w.heap.size → b ≠ g → w'.heap[b]? = w.heap[b]?
theorem Turn.refl (g : Nat) (w : World) : Turn g w w := ⟨rfl, rfl, rfl, Nat.le_refl _, fun _ _ _ => rfl⟩
theorem Turn.below {g : Nat} {w w1 w2 : World} (h : Turn g w w1) (hb : Below w1.heap.size w1 w2) : Turn g w w2 :=
  ⟨hb.os.trans h.os, hb.tape.trans h.tape, hb.output.trans h.output, Nat.le_trans h.size hb.size, fun b h1 h2 => (hb.block b (Nat.lt_of_lt_of_le h1 h.size)).trans (h.block b h1 h2)⟩
theorem Turn.set {g i : Nat} {w w1 : World} (h : Turn g w w1) (v : Value) : Turn g w (w1.setCell ⟨g, i, none⟩ v) :=
  ⟨h.os, h.tape, h.output, by rw [World.size_setCell]; exact h.size, fun b h1 h2 => (heap_setCell_other _ _ _ _ h2).trans (h.block b h1 h2)⟩
theorem HAt.below {H g c : Nat} {w w' : World} {l : List Itm} (h : HAt H g c w l) (hb : Below w.heap.size w w') : HAt H g c w' l :=
  ⟨(hb.block H h.lt.1).trans h.row, h.own.same fun k hk => by
    have : k = g := by simpa [Value.ownBlock] using hk.symm
    subst this
    exact hb.block _ h.lt.2.1⟩
/-- two items exchanged -/
theorem hat_swq {H g c i j : Nat} {w : World} {l : List Itm} (h : HAt H g c w l) (hi : i < l.length) (hj : j < l.length) :
    HAt H g c ((((w.setCell ⟨g, i * 2, none⟩ (.int .u64 ((gt l j).key : Int))).setCell ⟨g, i * 2 + 1, none⟩ (.int .u32 ((gt l j).id : Int))).setCell ⟨g, j * 2, none⟩ (.int .u64 ((gt l i).key : Int))).setCell ⟨g, j * 2 + 1, none⟩ (.int .u32 ((gt l i).id : Int))) (swq l i j) := by
  have h1 := its_set rfl h.own i hi (gt l j)
  have h2 := its_set (by rw [List.length_set]) h1 j (by rw [List.length_set]; exact hj) (gt l i)
  have hH : H ≠ g := by have := h.lt; omega
  refine ⟨?_, ?_⟩
  · rw [heap_setCell_other _ _ _ _ hH, heap_setCell_other _ _ _ _ hH, heap_setCell_other _ _ _ _ hH, heap_setCell_other _ _ _ _ hH, swq_length]
    exact h.row
  · rw [swq_length]
    exact h2
/-- the same, the row's begin under a letter -/
theorem its_at {w : World} {base g c n o : Nat} {l : List Itm} (ho : o = 0) (h : Its w base (.slice (some ⟨g, 0, none⟩) n c) l) (i : Nat) (hi : i < l.length) :
    w.cell? ⟨g, o + i * 2, none⟩ = some (.int .u64 ((gt l i).key : Int)) ∧ w.cell? ⟨g, o + i * 2 + 1, none⟩ = some (.int .u32 ((gt l i).id : Int)) ∧ w.frozen? ⟨g, o + i * 2, none⟩ = false ∧ w.frozen? ⟨g, o + i * 2 + 1, none⟩ = false := by
  subst ho
  rw [Nat.zero_add]
  exact its_cells h i hi
theorem hat_swq_at {H g c i j o : Nat} {w : World} {l : List Itm} (ho : o = 0) (h : HAt H g c w l) (hi : i < l.length) (hj : j < l.length) :
    HAt H g c ((((w.setCell ⟨g, o + i * 2, none⟩ (.int .u64 ((gt l j).key : Int))).setCell ⟨g, o + i * 2 + 1, none⟩ (.int .u32 ((gt l j).id : Int))).setCell ⟨g, o + j * 2, none⟩ (.int .u64 ((gt l i).key : Int))).setCell ⟨g, o + j * 2 + 1, none⟩ (.int .u32 ((gt l i).id : Int))) (swq l i j) := by
  subst ho
  rw [Nat.zero_add, Nat.zero_add]
  exact hat_swq h hi hj
end Go.Proofs.Ytpnmfhcmodoeiaa
