/- Objects that hold items, the heap's and the document's; what a Push or a Pop may turn. -/
import Derived.Test.YtpnmfhcmodoeiaaHw
namespace Go.Proofs.Ytpnmfhcmodoeiaa
open Go.RowKit
/-- nothing has turned but block W and the row of v -/
structure Keeps (W : Nat) (v : Value) (w w' : World) : Prop where
  os : w'.os = w.os
  tape : w'.tape = w.tape
  output : w'.output = w.output
  size : w.heap.size ≤ w'.heap.size
  block : ∀ b, b < w.heap.size → b ≠ W → some b ≠ v.ownBlock → w'.heap[b]? = w.heap[b]?
theorem Keeps.refl (W : Nat) (v : Value) (w : World) : Keeps W v w w := ⟨rfl, rfl, rfl, Nat.le_refl _, fun _ _ _ _ => rfl⟩
theorem Keeps.below {W : Nat} {v : Value} {w w1 w2 : World} (h : Keeps W v w w1) (hb : Below w1.heap.size w1 w2) : Keeps W v w w2 :=
  ⟨hb.os.trans h.os, hb.tape.trans h.tape, hb.output.trans h.output, Nat.le_trans h.size hb.size, fun b h1 h2 h3 => (hb.block b (Nat.lt_of_lt_of_le h1 h.size)).trans (h.block b h1 h2 h3)⟩
theorem Keeps.trans {W : Nat} {v v' : Value} {w w1 w2 : World} (h : Keeps W v w w1) (k : Keeps W v' w1 w2) (hv : ∀ j, v'.ownBlock = some j → v.ownBlock = some j ∨ w.heap.size ≤ j) : Keeps W v w w2 :=
  ⟨k.os.trans h.os, k.tape.trans h.tape, k.output.trans h.output, Nat.le_trans h.size k.size, fun b h1 h2 h3 => (k.block b (Nat.lt_of_lt_of_le h1 h.size) h2 (fun e => by
    rcases hv b e.symm with h4 | h4
    · exact h3 h4.symm
    · omega)).trans (h.block b h1 h2 h3)⟩
theorem Turn.keeps {H g : Nat} {v : Value} {w w1 w2 : World} (h : Keeps H v w w1) (k : Turn g w1 w2) (hg : v.ownBlock = some g ∨ w.heap.size ≤ g) : Keeps H v w w2 :=
  ⟨k.os.trans h.os, k.tape.trans h.tape, k.output.trans h.output, Nat.le_trans h.size k.size, fun b h1 h2 h3 => (k.block b (Nat.lt_of_lt_of_le h1 h.size) (fun e => by
    subst e
    rcases hg with h4 | h4
    · exact h3 h4.symm
    · omega)).trans (h.block b h1 h2 h3)⟩
/-- one step of an object: what it was told by, and is told by -/
structure Step (H : Nat) (v v' : Value) (w w' : World) : Prop where
  keeps : Keeps H v w w'
  row : ∀ j, v'.ownBlock = some j → v.ownBlock = some j ∨ w.heap.size ≤ j
theorem Step.refl (H : Nat) (v : Value) (w : World) : Step H v v w w := ⟨Keeps.refl _ _ _, fun _ h => .inl h⟩
theorem Step.trans {H : Nat} {v v1 v2 : Value} {w w1 w2 : World} (h : Step H v v1 w w1) (k : Step H v1 v2 w1 w2) : Step H v v2 w w2 :=
  ⟨h.keeps.trans k.keeps h.row, fun j hj => by
    rcases k.row j hj with h1 | h1
    · exact h.row j h1
    · exact .inr (Nat.le_trans h.keeps.size h1)⟩
theorem Step.below {H : Nat} {v v1 : Value} {w w1 w2 : World} (h : Step H v v1 w w1) (hb : Below w1.heap.size w1 w2) : Step H v v1 w w2 := ⟨h.keeps.below hb, h.row⟩

/-- an object at H, told by mk of a slice that owns the items l -/
structure OI (mk : Value → Array Value) (T : TypeId) (H : Nat) (w : World) (v : Value) (l : List Itm) : Prop where
  row : w.heap[H]? = some (.cells (mk v) T (0, 0))
  own : Its w (H + 1) v l
section
variable {mk mk' : Value → Array Value} {T T' : TypeId} {H R : Nat} {w w' : World} {v v' u : Value} {l m : List Itm}
theorem OI.lt (h : OI mk T H w v l) : H < w.heap.size := (Array.getElem?_eq_some_iff.1 h.row).1
theorem OI.below (h : OI mk T H w v l) (hb : Below w.heap.size w w') : OI mk T H w' v l :=
  ⟨(hb.block H h.lt).trans h.row, h.own.same fun k hk => hb.block k (h.own.lt k hk).2⟩
theorem OI.fresh (h : w.heap[H]? = some (.cells (mk (.slice none 0 0)) T (0, 0))) : OI mk T H w (.slice none 0 0) [] := ⟨h, rfl, .inl ⟨rfl, rfl⟩⟩
theorem OI.form (h : OI mk T H w v l) : ∃ A c, v = .slice A l.length c := by obtain ⟨A, c, hv, _⟩ := h.own.form; exact ⟨A, c, hv⟩
theorem OI.at (h : OI mk T H w v l) (hl : 0 < l.length) : ∃ g c, v = .slice (some ⟨g, 0, none⟩) l.length c ∧ H < g ∧ g < w.heap.size ∧ l.length ≤ c := by
  obtain ⟨A, c, hv, hc⟩ := h.own.form
  obtain ⟨_, h2⟩ := h.own
  rcases h2 with h2 | ⟨g, cap, cur, hg, _⟩
  · have := h2.2; omega
  · rw [hv] at hg
    injection hg with e1 e2 e3
    subst e1
    have := h.own.lt g (by rw [hv]; rfl)
    exact ⟨g, c, hv, by omega, by omega, hc⟩
/-- a row of items is no object of another type -/
theorem OI.apart (h : OI mk T H w v l) (k : OI mk' T' R w u m) (hT : T' ≠ 88) : v.ownBlock ≠ some R := by
  intro e
  obtain ⟨_, h2⟩ := h.own
  rcases h2 with h2 | ⟨g, cap, cur, hg, _, hh, _⟩
  · rw [h2.1] at e; simp [Value.ownBlock] at e
  · rw [hg] at e
    have : g = R := by simpa [Value.ownBlock] using e
    subst this
    rw [k.row] at hh
    injection hh with hh
    injection hh with _ h3 _
    exact hT h3
/-- an object beside another one that takes a step -/
theorem OI.stay (k : OI mk' T' R w u m) (h : OI mk T H w v l) (hs : Step H v v' w w') (hHR : R ≠ H) (hT : T ≠ 88) (hT' : T' ≠ 88) (ha : ∀ j, v.ownBlock = some j → u.ownBlock ≠ some j) : OI mk' T' R w' u m :=
  ⟨(hs.keeps.block R k.lt hHR (fun e => h.apart k hT' e.symm)).trans k.row, k.own.same fun j hj => hs.keeps.block j (k.own.lt j hj).2 (fun e => k.apart h hT (e ▸ hj)) (fun e => ha j e.symm hj)⟩
theorem OI.stay_apart (k : OI mk' T' R w u m) (hs : Step H v v' w w') (ha : ∀ j, v.ownBlock = some j → u.ownBlock ≠ some j) : ∀ j, v'.ownBlock = some j → u.ownBlock ≠ some j := fun j hj e => by
  rcases hs.row j hj with h1 | h1
  · exact ha j h1 e
  · have := (k.own.lt j e).2; omega
theorem OI.keeps_below {B : Nat} (h : OI mk T H w v l) (hk : Keeps H v w w') (hB : B ≤ H) : Below B w w' :=
  ⟨hk.os, hk.tape, hk.output, hk.size, fun b hb => hk.block b (Nat.lt_trans (Nat.lt_of_lt_of_le hb hB) h.lt) (by omega) (fun e => by have := (h.own.lt b e.symm).1; omega)⟩
end
def mkH (v : Value) : Array Value := #[v, .func (.func 36) #[] #[]]
abbrev HO := OI mkH 97
theorem OI.hat {H g c : Nat} {w : World} {l : List Itm} (h : HO H w (.slice (some ⟨g, 0, none⟩) l.length c) l) : HAt H g c w l := ⟨h.row, h.own⟩
theorem HAt.oi {H g c : Nat} {w : World} {l : List Itm} (h : HAt H g c w l) : HO H w (.slice (some ⟨g, 0, none⟩) l.length c) l := ⟨h.row, h.own⟩
/-- the world behind an append of an item that is stored into the object -/
theorem oi_app {mk : Value → Array Value} {T : TypeId} {H gg cap : Nat} {w w2 w3 : World} {v : Value} {l : List Itm} {x : Itm} (hA : OI mk T H w v l)
    (h2 : Below w.heap.size w w2) (hown : Its w3 (H + 1) (.slice (some ⟨gg, 0, none⟩) (l.length + 1) cap) (l ++ [x])) (hgrow : w2.grownBy w3 v.ownBlock) (hat : v.ownBlock = some gg ∨ gg = w2.heap.size)
    (hmk : ∀ v', (mk v).setIfInBounds 0 v' = mk v') :
    OI mk T H (w3.setCell ⟨H, 0, none⟩ (.slice (some ⟨gg, 0, none⟩) (l.length + 1) cap)) (.slice (some ⟨gg, 0, none⟩) (l.length + 1) cap) (l ++ [x]) ∧
    Step H v (.slice (some ⟨gg, 0, none⟩) (l.length + 1) cap) w (w3.setCell ⟨H, 0, none⟩ (.slice (some ⟨gg, 0, none⟩) (l.length + 1) cap)) := by
  have hW := hA.lt
  have h2s := h2.size
  have hv : ∀ k, v.ownBlock = some k → H + 1 ≤ k ∧ k < w.heap.size := hA.own.lt
  have hne : some H ≠ v.ownBlock := fun e => by have := hv H e.symm; omega
  have hgW : H ≠ gg := by
    rcases hat with h | h
    · have := hv gg h; omega
    · omega
  have r3 : ∀ b, b < w.heap.size → some b ≠ v.ownBlock → w3.heap[b]? = w.heap[b]? := fun b h3 h4 => (hgrow.block b (by omega) h4).trans (h2.block b h3)
  refine ⟨⟨?_, hown.same fun k hk => ?_⟩, ⟨?_, ?_, ?_, ?_, fun b h3 h4 h5 => ?_⟩, fun j hj => ?_⟩
  · have := heap_setCell_same w3 H 0 _ _ (.slice (some ⟨gg, 0, none⟩) (l.length + 1) cap) ((r3 H (by omega) hne).trans hA.row)
    rw [hmk] at this
    exact this
  · have : k = gg := by simpa [Value.ownBlock] using hk.symm
    subst this
    exact heap_setCell_other _ _ _ _ (Ne.symm hgW)
  · exact hgrow.os.trans h2.os
  · exact hgrow.tape.trans h2.tape
  · exact hgrow.output.trans h2.output
  · rw [World.size_setCell]; have := hgrow.size; omega
  · rw [heap_setCell_other _ _ _ _ h4]
    exact r3 b (by omega) h5
  · have : j = gg := by simpa [Value.ownBlock] using hj.symm
    subst this
    rcases hat with h | h
    · exact .inl h
    · right; omega
/-- behind the append the object itself is as it was -/
theorem oi_app_stay {mk : Value → Array Value} {T : TypeId} {H : Nat} {w w2 w3 : World} {v : Value} {l : List Itm} (hA : OI mk T H w v l) (hgrow : w2.grownBy w3 v.ownBlock) (hb : Below w.heap.size w w2) :
    w3.frozen? ⟨H, 0, none⟩ = false ∧ w3.cell? ⟨H, 0, none⟩ = (mk v)[0]? := by
  have hlt := hA.lt
  have hne : some H ≠ v.ownBlock := fun e => by have := (hA.own.lt H e.symm).1; omega
  have hr : w3.heap[H]? = some (.cells (mk v) T (0, 0)) := (hgrow.block H (by have := hb.size; omega) hne).trans ((hb.block H hlt).trans hA.row)
  exact ⟨frozen_of_row _ _ _ _ _ hr, cell_of_row _ _ _ _ _ _ hr⟩
/-- a row of the call's own, shortened -/
theorem its_take {w : World} {base g n c k : Nat} {l : List Itm} (hn : n = l.length) (h : Its w base (.slice (some ⟨g, 0, none⟩) n c) l) (hk : k ≤ l.length) : Its w base (.slice (some ⟨g, 0, none⟩) k c) (l.take k) := by
  subst hn
  have hl : ∀ x : Itm, (Itm.enc x).length = 2 := fun _ => rfl
  have hlen : (l.take k).length = k := by simp; omega
  obtain ⟨_, h2⟩ := h
  refine ⟨by rw [flat_length hl, hlen], ?_⟩
  rcases h2 with ⟨h2, _⟩ | ⟨g', cap, cur, hv, hg, hh, hc, hm, hs, ht⟩
  · cases h2
  · injection hv with e1 e2 e3
    injection e1 with e1
    injection e1 with e1
    subst e1 e3
    refine .inr ⟨g, c, cur, by rw [hlen], hg, hh, by omega, hm, hs, ?_⟩
    have e : l.flatMap Itm.enc = (l.take k).flatMap Itm.enc ++ (l.drop k).flatMap Itm.enc := by rw [← List.flatMap_append, List.take_append_drop]
    have e2 : ((l.take k).flatMap Itm.enc).length = k * 2 := by rw [flat_length hl, hlen]
    have e3 := congrArg (List.take (k * 2)) (ht.trans e)
    rw [List.take_take, Nat.min_eq_left (by omega), List.take_left' e2] at e3
    rw [hlen]
    exact e3
end Go.Proofs.Ytpnmfhcmodoeiaa
