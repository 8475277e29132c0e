/- Two heaps beside one another; how long a heap is, told by its world. -/
import Derived.Test.YthppjkjaaekikaaHx
import Derived.Test.YthppjkjaaekikaaHk
namespace Go.Proofs.Ythppjkjaaekikaa
open Go.RowKit
structure Twin (G H : Nat) (W w : World) (v : Value) (l : List Itm) (u : Value) (m : List Itm) : Prop where
  one : HP G w v l
  two : HP H w u m
  apart : ∀ j, v.ownBlock = some j → u.ownBlock ≠ some j
  ne : G ≠ H
  lowG : W.heap.size ≤ G
  lowH : W.heap.size ≤ H
  low : Below W.heap.size W w
section
variable {G H : Nat} {W w w' : World} {v v' u u' : Value} {l l' m m' : List Itm}
theorem Twin.below (h : Twin G H W w v l u m) (hb : Below w.heap.size w w') : Twin G H W w' v l u m :=
  ⟨h.one.below hb, h.two.below hb, h.apart, h.ne, h.lowG, h.lowH, h.low.trans (hb.mono h.low.size)⟩
theorem Twin.step1 (h : Twin G H W w v l u m) (k : HP G w' v' l') (hs : Step G v v' w w') : Twin G H W w' v' l' u m :=
  ⟨k, ⟨h.two.oi.stay h.one.oi hs h.ne.symm (by decide) (by decide) h.apart, h.two.heap⟩, h.two.oi.stay_apart hs h.apart, h.ne, h.lowG, h.lowH, hs.low h.low h.one.oi h.lowG⟩
theorem Twin.step2 (h : Twin G H W w v l u m) (k : HP H w' u' m') (hs : Step H u u' w w') : Twin G H W w' v l u' m' :=
  ⟨⟨h.one.oi.stay h.two.oi hs h.ne (by decide) (by decide) (fun j h1 h2 => h.apart j h2 h1), h.one.heap⟩, k, fun j h1 h2 => h.one.oi.stay_apart hs (fun j h1 h2 => h.apart j h2 h1) j h2 h1, h.ne, h.lowG, h.lowH, hs.low h.low h.two.oi h.lowH⟩
theorem Twin.start {w1 w2 : World} (h1 : HP W.heap.size w1 (.slice none 0 0) []) (hb1 : Below W.heap.size W w1) (h2 : HP w1.heap.size w2 (.slice none 0 0) []) (hb2 : Below w1.heap.size w1 w2) :
    Twin W.heap.size w1.heap.size W w2 (.slice none 0 0) [] (.slice none 0 0) [] :=
  ⟨h1.below hb2, h2, fun j hj => by simp [Value.ownBlock] at hj, by have := h1.oi.lt; omega, Nat.le_refl _, hb1.size, hb1.trans (hb2.mono hb1.size)⟩
end
/-- how long the slice is with which an object begins -/
def lenAt (H : Nat) (w : World) : Nat := match w.cell? ⟨H, 0, none⟩ with
  | some (.slice _ n _) => n
  | _ => 0
theorem HP.lenAt {H : Nat} {w : World} {v : Value} {l : List Itm} (h : HP H w v l) : lenAt H w = l.length := by
  obtain ⟨A, c, rfl, hc⟩ := oi_cell h.oi rfl
  unfold Go.Proofs.Ythppjkjaaekikaa.lenAt
  rw [hc]
/-- the items of a list, from behind and turned round -/
def turned (L : List Itm) (r i : Nat) : List Itm := (List.range i).map fun j => gt L ((L.length - 1 - j + r) % L.length)
theorem turned_next (L : List Itm) (r i : Nat) : turned L r (i + 1) = turned L r i ++ [gt L ((L.length - 1 - i + r) % L.length)] := by
  unfold turned
  rw [List.range_succ, List.map_append]
  rfl
theorem turned_all (L : List Itm) (r : Nat) : (turned L r L.length).Perm L := by
  by_cases h0 : L.length = 0
  · have := List.eq_nil_of_length_eq_zero h0
    subst this
    exact List.Perm.refl _
  · have hr : r % L.length < L.length := Nat.mod_lt _ (by omega)
    have e : turned L r L.length = (L.drop (r % L.length) ++ L.take (r % L.length)).reverse := by
      apply List.ext_getElem
      · simp [turned]; omega
      · intro k h1 h2
        have hk : k < L.length := by simpa [turned] using h1
        rw [List.getElem_reverse]
        have hm : (L.length - 1 - k + r) % L.length = (L.length - 1 - k + r % L.length) % L.length := by rw [Nat.add_mod_mod]
        simp only [turned, List.getElem_map, List.getElem_range]
        rw [hm, List.getElem_append]
        have hlen : (L.drop (r % L.length)).length = L.length - r % L.length := List.length_drop
        have hlen2 : (L.drop (r % L.length) ++ L.take (r % L.length)).length = L.length := by simp <;> omega
        split
        · rename_i h3
          rw [List.getElem_drop]
          rw [hlen, hlen2] at h3
          have e4 : (L.length - 1 - k + r % L.length) % L.length = L.length - 1 - k + r % L.length := Nat.mod_eq_of_lt (by omega)
          rw [e4, gt_eq (by omega)]
          congr 1
          simp only [hlen2] <;> omega
        · rename_i h3
          rw [List.getElem_take]
          rw [hlen, hlen2] at h3
          have e4 : (L.length - 1 - k + r % L.length) % L.length = L.length - 1 - k + r % L.length - L.length := by
            rw [Nat.mod_eq_sub_mod (by omega), Nat.mod_eq_of_lt (by omega)]
          rw [e4, gt_eq (by omega)]
          congr 1
          simp only [hlen, hlen2] <;> omega
    rw [e]
    exact (List.reverse_perm _).trans (List.perm_append_comm.trans (by rw [List.take_append_drop]))
/-- what was popped, and is pushed again, is popped again -/
theorem least_again {l m l' : List Itm} {x y : Itm} (h : Least l x) (hp : (m ++ [x]).Perm l) (hl : l'.Perm (m ++ [x])) (hy : Least l' y) : y = x :=
  least_one (hl.trans hp) hy h
end Go.Proofs.Ythppjkjaaekikaa
