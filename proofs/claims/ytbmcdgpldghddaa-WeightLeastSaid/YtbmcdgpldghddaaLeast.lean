/- WeightLeast: the best of some edges is found in whatever order they are gone through. No condition. -/
import Derived.Test.YtbmcdgpldghddaaWw
import Derived.Test.YtbmcdgpldghddaaEo
import Derived.Deep.RegionHeld3
namespace Go.Proofs.Ytbmcdgpldghddaa.weightLeast
open Go.ChangeShapes Go.WideShapes Go.ChangeAt Go.RowKit Go.Deep

theorem nx_eq {m k : Nat} (h1 : m < 4294967296) (h2 : k < 4294967296) (h : nx m = nx k) : m = k := by unfold nx at h; omega
theorem irr (a : Edg) : betterB a a = false := by unfold betterB; simp
theorem both {a b : Edg} (h1 : betterB a b = false) (h2 : betterB b a = false) : a.weight = b.weight ∧ a.mid = b.mid := by
  unfold betterB at h1 h2
  simp only [decide_eq_false_iff_not] at h1 h2
  have hw : a.weight = b.weight := by omega
  exact ⟨hw, nx_eq a.hmid b.hmid (by omega)⟩
theorem trans {a b c : Edg} (h1 : betterB a b = true) (h2 : betterB b c = true) : betterB a c = true := by
  unfold betterB at *
  simp only [decide_eq_true_eq] at *
  omega
theorem less_better {a b : Edg} (h : a.weight < b.weight) : betterB a b = true := by unfold betterB; simp [h]

abbrev ELs := SR 4 Edg.enc
theorem ELs.at' {B : Nat} {w : World} {A : Option Addr} {l : List Edg} (h : ELs B w A l) (i : Nat) (hi : i < l.length) :
    ∃ b o : Nat, A = some ⟨b, o, none⟩ ∧ b < B ∧ w.cell? ⟨b, o + i * 4, none⟩ = some (.int .u32 (l[i].tail : Int)) ∧ w.cell? ⟨b, o + i * 4 + 1, none⟩ = some (.int .u32 (l[i].head : Int)) ∧
      w.cell? ⟨b, o + i * 4 + 2, none⟩ = some (.int .u64 (l[i].weight : Int)) ∧ w.cell? ⟨b, o + i * 4 + 3, none⟩ = some (.int .u32 (l[i].mid : Int)) := by
  obtain ⟨b, o, hA, hb, hc⟩ := h.at_ i hi
  exact ⟨b, o, hA, hb, hc 0 _ rfl, hc 1 _ rfl, hc 2 _ rfl, hc 3 _ rfl⟩

theorem ELs.row {B : Nat} {w : World} {p o : Nat} {l : List Edg} (h : ELs B w (some ⟨p, o, none⟩) l) (i : Nat) (hi : i < l.length) :
    w.cell? ⟨p, o + i * 4, none⟩ = some (.int .u32 (l[i].tail : Int)) ∧ w.cell? ⟨p, o + i * 4 + 1, none⟩ = some (.int .u32 (l[i].head : Int)) ∧
      w.cell? ⟨p, o + i * 4 + 2, none⟩ = some (.int .u64 (l[i].weight : Int)) ∧ w.cell? ⟨p, o + i * 4 + 3, none⟩ = some (.int .u32 (l[i].mid : Int)) := by
  obtain ⟨b', o', hA, _, h0⟩ := ELs.at' h i hi
  obtain ⟨rfl, rfl⟩ : p = b' ∧ o = o' := by simpa using hA
  exact h0

/-- best of those that p lets by -/
def BestOf (l : List Edg) (p : Nat → Prop) (a : Edg) : Prop := a ∈ l ∧ ∀ (k : Nat) (hk : k < l.length), p k → betterB l[k] a = false
theorem BestOf.next {l : List Edg} {p : Nat → Prop} {a : Edg} {i : Nat} (h : BestOf l p a) (hi : i < l.length) :
    BestOf l (fun k => p k ∨ k = i) (if betterB l[i] a then l[i] else a) := by
  cases hb : betterB l[i] a with
  | true =>
    refine ⟨List.getElem_mem hi, fun k hk hp => ?_⟩
    simp only [if_true]
    rcases hp with hp | rfl
    · cases hc : betterB l[k] l[i] with
      | false => rfl
      | true => have := trans hc hb; rw [h.2 k hk hp] at this; cases this
    · exact irr _
  | false =>
    refine ⟨by simpa using h.1, fun k hk hp => ?_⟩
    simp only [Bool.false_eq_true, if_false]
    rcases hp with hp | rfl
    · exact h.2 k hk hp
    · exact hb
theorem BestOf.mono {l : List Edg} {p q : Nat → Prop} {a : Edg} (h : BestOf l p a) (hpq : ∀ k, k < l.length → q k → p k) : BestOf l q a := ⟨h.1, fun k hk hq => h.2 k hk (hpq k hk hq)⟩
theorem BestOf.all {l : List Edg} {p : Nat → Prop} {a : Edg} (h : BestOf l p a) (hp : ∀ k, k < l.length → p k) : ∀ x ∈ l, betterB x a = false := by
  intro x hx
  obtain ⟨k, hk, rfl⟩ := List.getElem_of_mem hx
  exact h.2 k hk (hp k hk)
def Fwd (l : List Edg) (i : Nat) (a : Edg) : Prop := BestOf l (fun k => k < i) a
def Bwd (l : List Edg) (i : Nat) (a : Edg) : Prop := BestOf l (fun k => l.length ≤ k + i) a
theorem Fwd.next {l : List Edg} {i : Nat} {a : Edg} (h : Fwd l i a) (hi : i < l.length) : Fwd l (i + 1) (if betterB l[i] a then l[i] else a) :=
  (BestOf.next h hi).mono fun k _ hk => by have : k < i ∨ k = i := by omega
                                           exact this
theorem Bwd.next {l : List Edg} {i j : Nat} {a : Edg} (h : Bwd l i a) (hj : j < l.length) (e : j + i + 1 = l.length) : Bwd l (i + 1) (if betterB l[j] a then l[j] else a) :=
  (BestOf.next h hj).mono fun k hk hq => by have : l.length ≤ k + i ∨ k = j := by omega
                                            exact this

/-- two edges in boxes -/
structure Two (w W : World) (a b : Edg) : Prop where
  at0 : W.heap[w.heap.size]? = some (.cells a.cells 30 (0, 0))
  at1 : W.heap[w.heap.size + 1]? = some (.cells b.cells 30 (0, 0))
  low : Below w.heap.size w W
theorem Two.size {w W : World} {a b : Edg} (h : Two w W a b) : w.heap.size + 2 ≤ W.heap.size := by
  rcases Nat.lt_or_ge (w.heap.size + 1) W.heap.size with h1 | h1
  · omega
  · have := h.at1; rw [Array.getElem?_eq_none h1] at this; cases this
theorem Two.next {w W W' : World} {a b : Edg} (h : Two w W a b) (hb : Below W.heap.size W W') : Two w W' a b :=
  ⟨(hb.block _ (by have := h.size; omega)).trans h.at0, (hb.block _ (by have := h.size; omega)).trans h.at1, h.low.trans (hb.mono h.low.size)⟩
theorem Two.drew {w W : World} {a b : Edg} (h : Two w W a b) : Two w W.drew a b := h.next (below_drewN (Below.refl _ _) 1)
theorem cells_of {W : World} {g : Nat} {x : Edg} (h : W.heap[g]? = some (.cells x.cells 30 (0, 0))) :
    W.cell? ⟨g, 0, none⟩ = some (.int .u32 x.tail) ∧ W.cell? ⟨g, 1, none⟩ = some (.int .u32 x.head) ∧ W.cell? ⟨g, 2, none⟩ = some (.int .u64 x.weight) ∧ W.cell? ⟨g, 3, none⟩ = some (.int .u32 x.mid) :=
  ⟨cell_of_row _ _ 0 _ _ _ h, cell_of_row _ _ 1 _ _ _ h, cell_of_row _ _ 2 _ _ _ h, cell_of_row _ _ 3 _ _ _ h⟩
theorem frozen_of {W : World} {g : Nat} {x : Edg} (h : W.heap[g]? = some (.cells x.cells 30 (0, 0))) :
    W.frozen? ⟨g, 0, none⟩ = false ∧ W.frozen? ⟨g, 1, none⟩ = false ∧ W.frozen? ⟨g, 2, none⟩ = false ∧ W.frozen? ⟨g, 3, none⟩ = false :=
  ⟨frozen_of_row _ _ 0 _ _ h, frozen_of_row _ _ 1 _ _ h, frozen_of_row _ _ 2 _ _ h, frozen_of_row _ _ 3 _ _ h⟩
theorem Two.new (w : World) (a b : Edg) : Two w ((w.alloc (.cells a.cells 30)).alloc (.cells b.cells 30)) a b := by
  have h2 := heap_alloc_new (w.alloc (.cells a.cells 30)) (.cells b.cells 30)
  rw [World.size_alloc] at h2
  exact ⟨(Below.heap_alloc _ _ _ (by simp)).trans (heap_alloc_new w _), h2, ((Below.refl _ _).alloc (Nat.le_refl _) _).alloc (by simp) _⟩

theorem set4 {W : World} {g : Nat} {x : Edg} (y : Edg) (h : W.heap[g]? = some (.cells x.cells 30 (0, 0))) :
    ((((W.setCell ⟨g, 0, none⟩ (.int .u32 (y.tail : Int))).setCell ⟨g, 1, none⟩ (.int .u32 (y.head : Int))).setCell ⟨g, 2, none⟩ (.int .u64 (y.weight : Int))).setCell ⟨g, 3, none⟩ (.int .u32 (y.mid : Int))).heap[g]? = some (.cells y.cells 30 (0, 0)) := by
  have h0 := heap_setCell_same W g 0 _ _ (.int .u32 (y.tail : Int)) h
  have h1 := heap_setCell_same _ g 1 _ _ (.int .u32 (y.head : Int)) h0
  have h2 := heap_setCell_same _ g 2 _ _ (.int .u64 (y.weight : Int)) h1
  have h3 := heap_setCell_same _ g 3 _ _ (.int .u32 (y.mid : Int)) h2
  exact h3
theorem keep4 {W : World} {g k : Nat} (hk : k ≠ g) (v0 v1 v2 v3 : Value) :
    ((((W.setCell ⟨g, 0, none⟩ v0).setCell ⟨g, 1, none⟩ v1).setCell ⟨g, 2, none⟩ v2).setCell ⟨g, 3, none⟩ v3).heap[k]? = W.heap[k]? := by
  rw [heap_setCell_other _ _ _ _ hk, heap_setCell_other _ _ _ _ hk, heap_setCell_other _ _ _ _ hk, heap_setCell_other _ _ _ _ hk]
theorem low4 {B : Nat} {w W : World} {g : Nat} (h : Below B w W) (hg : B ≤ g) (v0 v1 v2 v3 : Value) :
    Below B w ((((W.setCell ⟨g, 0, none⟩ v0).setCell ⟨g, 1, none⟩ v1).setCell ⟨g, 2, none⟩ v2).setCell ⟨g, 3, none⟩ v3) :=
  (((h.setCell (p := ⟨g, 0, none⟩) hg v0).setCell (p := ⟨g, 1, none⟩) hg v1).setCell (p := ⟨g, 2, none⟩) hg v2).setCell (p := ⟨g, 3, none⟩) hg v3
theorem Two.set0 {w W : World} {a b : Edg} (h : Two w W a b) (y : Edg) :
    Two w ((((W.setCell ⟨w.heap.size, 0, none⟩ (.int .u32 (y.tail : Int))).setCell ⟨w.heap.size, 1, none⟩ (.int .u32 (y.head : Int))).setCell ⟨w.heap.size, 2, none⟩ (.int .u64 (y.weight : Int))).setCell ⟨w.heap.size, 3, none⟩ (.int .u32 (y.mid : Int))) y b :=
  ⟨set4 y h.at0, (keep4 (by omega) _ _ _ _).trans h.at1, low4 h.low (Nat.le_refl _) _ _ _ _⟩
theorem Two.set1 {w W : World} {a b : Edg} (h : Two w W a b) (y : Edg) :
    Two w ((((W.setCell ⟨w.heap.size + 1, 0, none⟩ (.int .u32 (y.tail : Int))).setCell ⟨w.heap.size + 1, 1, none⟩ (.int .u32 (y.head : Int))).setCell ⟨w.heap.size + 1, 2, none⟩ (.int .u64 (y.weight : Int))).setCell ⟨w.heap.size + 1, 3, none⟩ (.int .u32 (y.mid : Int))) a y :=
  ⟨(keep4 (by omega) _ _ _ _).trans h.at0, set4 y h.at1, low4 h.low (by omega) _ _ _ _⟩

theorem held_first {w W : World} {p o : Nat} {l : List Edg} {a b : Edg} (hl : ELs w.heap.size w (some ⟨p, o, none⟩) l) (h : Two w W a b) (k : Nat) (hk : k < l.length) : ((fun (x : Edg) => (fun w' => w'.cell? ⟨p, o + k * 4, none⟩ = some (.int .u32 x.tail) ∧ w'.cell? ⟨p, o + k * 4 + 1, none⟩ = some (.int .u32 x.head) ∧ w'.cell? ⟨p, o + k * 4 + 2, none⟩ = some (.int .u64 x.weight) ∧ w'.cell? ⟨p, o + k * 4 + 3, none⟩ = some (.int .u32 x.mid) ∧ w'.cell? ⟨w.heap.size, 0, none⟩ = some (.int .u32 a.tail) ∧ w'.cell? ⟨w.heap.size, 1, none⟩ = some (.int .u32 a.head) ∧ w'.cell? ⟨w.heap.size, 2, none⟩ = some (.int .u64 a.weight) ∧ w'.cell? ⟨w.heap.size, 3, none⟩ = some (.int .u32 a.mid) ∧ p < w.heap.size ∧ Two w w' a b) W) l[k]) := by
  obtain ⟨r0, r1, r2, r3⟩ := ELs.row (hl.below h.low) k hk
  obtain ⟨b', o', hA, hp, _⟩ := ELs.at' hl k hk
  obtain ⟨rfl, rfl⟩ : p = b' ∧ o = o' := by simpa using hA
  obtain ⟨x0, x1, x2, x3⟩ := cells_of h.at0
  exact ⟨r0, r1, r2, r3, x0, x1, x2, x3, hp, h⟩
theorem held_next {w w1 w2 : World} {p o k : Nat} {x a b : Edg} (h : (fun w' => w'.cell? ⟨p, o + k * 4, none⟩ = some (.int .u32 x.tail) ∧ w'.cell? ⟨p, o + k * 4 + 1, none⟩ = some (.int .u32 x.head) ∧ w'.cell? ⟨p, o + k * 4 + 2, none⟩ = some (.int .u64 x.weight) ∧ w'.cell? ⟨p, o + k * 4 + 3, none⟩ = some (.int .u32 x.mid) ∧ w'.cell? ⟨w.heap.size, 0, none⟩ = some (.int .u32 a.tail) ∧ w'.cell? ⟨w.heap.size, 1, none⟩ = some (.int .u32 a.head) ∧ w'.cell? ⟨w.heap.size, 2, none⟩ = some (.int .u64 a.weight) ∧ w'.cell? ⟨w.heap.size, 3, none⟩ = some (.int .u32 a.mid) ∧ p < w.heap.size ∧ Two w w' a b) w1) (hb : Below w1.heap.size w1 w2) : (fun w' => w'.cell? ⟨p, o + k * 4, none⟩ = some (.int .u32 x.tail) ∧ w'.cell? ⟨p, o + k * 4 + 1, none⟩ = some (.int .u32 x.head) ∧ w'.cell? ⟨p, o + k * 4 + 2, none⟩ = some (.int .u64 x.weight) ∧ w'.cell? ⟨p, o + k * 4 + 3, none⟩ = some (.int .u32 x.mid) ∧ w'.cell? ⟨w.heap.size, 0, none⟩ = some (.int .u32 a.tail) ∧ w'.cell? ⟨w.heap.size, 1, none⟩ = some (.int .u32 a.head) ∧ w'.cell? ⟨w.heap.size, 2, none⟩ = some (.int .u64 a.weight) ∧ w'.cell? ⟨w.heap.size, 3, none⟩ = some (.int .u32 a.mid) ∧ p < w.heap.size ∧ Two w w' a b) w2 := by
  obtain ⟨r0, r1, r2, r3, _, _, _, _, hp, hT⟩ := h
  have hT2 := hT.next hb
  obtain ⟨x0, x1, x2, x3⟩ := cells_of hT2.at0
  have hs : p < w1.heap.size := Nat.lt_of_lt_of_le hp hT.low.size
  exact ⟨(hb.cell (p := ⟨p, _, none⟩) hs).trans r0, (hb.cell (p := ⟨p, _, none⟩) hs).trans r1, (hb.cell (p := ⟨p, _, none⟩) hs).trans r2, (hb.cell (p := ⟨p, _, none⟩) hs).trans r3, x0, x1, x2, x3, hp, hT2⟩
theorem held_drew {w w1 : World} {p o k : Nat} {x a b : Edg} (h : (fun w' => w'.cell? ⟨p, o + k * 4, none⟩ = some (.int .u32 x.tail) ∧ w'.cell? ⟨p, o + k * 4 + 1, none⟩ = some (.int .u32 x.head) ∧ w'.cell? ⟨p, o + k * 4 + 2, none⟩ = some (.int .u64 x.weight) ∧ w'.cell? ⟨p, o + k * 4 + 3, none⟩ = some (.int .u32 x.mid) ∧ w'.cell? ⟨w.heap.size, 0, none⟩ = some (.int .u32 a.tail) ∧ w'.cell? ⟨w.heap.size, 1, none⟩ = some (.int .u32 a.head) ∧ w'.cell? ⟨w.heap.size, 2, none⟩ = some (.int .u64 a.weight) ∧ w'.cell? ⟨w.heap.size, 3, none⟩ = some (.int .u32 a.mid) ∧ p < w.heap.size ∧ Two w w' a b) w1) : (fun w' => w'.cell? ⟨p, o + k * 4, none⟩ = some (.int .u32 x.tail) ∧ w'.cell? ⟨p, o + k * 4 + 1, none⟩ = some (.int .u32 x.head) ∧ w'.cell? ⟨p, o + k * 4 + 2, none⟩ = some (.int .u64 x.weight) ∧ w'.cell? ⟨p, o + k * 4 + 3, none⟩ = some (.int .u32 x.mid) ∧ w'.cell? ⟨w.heap.size, 0, none⟩ = some (.int .u32 a.tail) ∧ w'.cell? ⟨w.heap.size, 1, none⟩ = some (.int .u32 a.head) ∧ w'.cell? ⟨w.heap.size, 2, none⟩ = some (.int .u64 a.weight) ∧ w'.cell? ⟨w.heap.size, 3, none⟩ = some (.int .u32 a.mid) ∧ p < w.heap.size ∧ Two w w' a b) w1.drew := held_next h (below_drewN (Below.refl _ _) 1)
theorem held_two {w w1 : World} {p o k : Nat} {x a b : Edg} (h : (fun w' => w'.cell? ⟨p, o + k * 4, none⟩ = some (.int .u32 x.tail) ∧ w'.cell? ⟨p, o + k * 4 + 1, none⟩ = some (.int .u32 x.head) ∧ w'.cell? ⟨p, o + k * 4 + 2, none⟩ = some (.int .u64 x.weight) ∧ w'.cell? ⟨p, o + k * 4 + 3, none⟩ = some (.int .u32 x.mid) ∧ w'.cell? ⟨w.heap.size, 0, none⟩ = some (.int .u32 a.tail) ∧ w'.cell? ⟨w.heap.size, 1, none⟩ = some (.int .u32 a.head) ∧ w'.cell? ⟨w.heap.size, 2, none⟩ = some (.int .u64 a.weight) ∧ w'.cell? ⟨w.heap.size, 3, none⟩ = some (.int .u32 a.mid) ∧ p < w.heap.size ∧ Two w w' a b) w1) : Two w w1 a b := h.2.2.2.2.2.2.2.2.2

theorem far (A : Option Addr) (len c : Nat) (w : World) (h : len = 0 ∨ 4096 < len) (hn : len ≤ 9223372036854775807) :
    Calls Try.prog 10 #[.slice A len c] w (LawOk w) := by
  by_cases h1 : len = 0
  · subst h1
    go_enter Try.func10, Try.ntmps10
    go_wp2_with fail
    refine (works_any _).mono ?_
    rintro e w9 ⟨rfl, hb9⟩
    go_wp2_with fail
    go_ret
    exact ⟨rfl, hb9⟩
  · have h2 : ((len : Int) == 0) = false := by rw [beq_eq_false_iff_ne]; omega
    have h3 : (4096 : Int) < len := by omega
    clear h h1
    go_enter Try.func10, Try.ntmps10
    go_wp2_with fail
    refine (works_any _).mono ?_
    rintro e w9 ⟨rfl, hb9⟩
    go_wp2_with fail
    go_ret
    exact ⟨rfl, hb9⟩

set_option maxRecDepth 100000 in
set_option maxHeartbeats 8000000 in
theorem near (A : Option Addr) (l : List Edg) (c : Nat) (w : World) (hl : ELs w.heap.size w A l) (h0 : 0 < l.length) (h4 : l.length ≤ 4096) :
    Calls Try.prog 10 #[.slice A l.length c] w (LawOk w) := by
  have h2 : ((l.length : Int) == 0) = false := by rw [beq_eq_false_iff_ne]; omega
  have h3 : ¬ (4096 : Int) < l.length := by omega
  have HL := Lib.hid hl
  clear hl
  obtain ⟨z, hz⟩ : ∃ z, z + 1 = l.length := ⟨l.length - 1, by omega⟩
  have hzl : z < l.length := by omega
  obtain ⟨p, o, rfl, hp, f0, f1, f2, f3⟩ := ELs.at' HL.out 0 h0
  obtain ⟨p', o', hA, _, g0, g1, g2, g3⟩ := ELs.at' HL.out z hzl
  obtain ⟨rfl, rfl⟩ : p = p' ∧ o = o' := by simpa using hA
  clear hA
  have q0 := fun (o1 : Obj) => ((Below.refl w.heap.size w).alloc (Nat.le_refl _) o1).cell (p := ⟨p, o + z * 4, none⟩) hp |>.trans g0
  have q1 := fun (o1 : Obj) => ((Below.refl w.heap.size w).alloc (Nat.le_refl _) o1).cell (p := ⟨p, o + z * 4 + 1, none⟩) hp |>.trans g1
  have q2 := fun (o1 : Obj) => ((Below.refl w.heap.size w).alloc (Nat.le_refl _) o1).cell (p := ⟨p, o + z * 4 + 2, none⟩) hp |>.trans g2
  have q3 := fun (o1 : Obj) => ((Below.refl w.heap.size w).alloc (Nat.le_refl _) o1).cell (p := ⟨p, o + z * 4 + 3, none⟩) hp |>.trans g3
  have e1 : (l.length : Int) - 1 = z := by omega
  have e2 : (0:Int) ≤ (z:Int) := by omega
  have e3 : (z:Int) < l.length := by omega
  have e4 : (0:Int) < l.length := by omega
  rw [Nat.zero_mul, Nat.add_zero] at f0 f1 f2 f3
  have HN := Lib.hid (Two.new w l[0] l[z])
  have HF : Hid (Fwd l 0 l[0]) := ⟨List.getElem_mem h0, fun k _ hk => absurd hk (by omega)⟩
  have HBw : Hid (Bwd l 0 l[z]) := ⟨List.getElem_mem hzl, fun k hk hk' => absurd hk' (by omega)⟩
  dsimp only [Edg.cells] at HN
  generalize l[0] = a0 at *
  generalize l[z] = b0 at *
  clear g0 g1 g2 g3
  go_enter Try.func10, Try.ntmps10
  go_wp2_with fail
  clear q0 q1 q2 q3 f0 f1 f2 f3 e1 e2 e3 e4
  obtain ⟨W, hW⟩ : ∃ W, ((w.alloc (.cells #[.int .u32 (a0.tail : Int), .int .u32 (a0.head : Int), .int .u64 (a0.weight : Int), .int .u32 (a0.mid : Int)] 30)).alloc (.cells #[.int .u32 (b0.tail : Int), .int .u32 (b0.head : Int), .int .u64 (b0.weight : Int), .int .u32 (b0.mid : Int)] 30)) = W := ⟨_, rfl⟩
  rw [hW] at HN ⊢
  clear hW
  go_loopw [5] (fun vi wr => ∃ (i : Nat) (a b : Edg), i ≤ l.length ∧ vi = .int .i64 i ∧ Hid (Fwd l i a) ∧ Hid (Bwd l i b) ∧ Hid (Two w wr a b)) (fun vi _ => l.length - (intOf vi).toNat)
  case atStart => exact ⟨0, a0, b0, by omega, rfl, HF, HBw, HN⟩
  case round =>
    obtain ⟨i, a, b, hi, rfl, HFi, HBi, HT⟩ := hrel
    by_cases hlt : i < l.length
    · obtain ⟨r0, r1, r2, r3⟩ := ELs.row (HL.out.below HT.out.low) i hlt
      obtain ⟨a0', a1', a2', a3'⟩ := cells_of HT.out.at0
      have e1 : (0:Int) ≤ (i:Int) := by omega
      have e2 : (i:Int) < l.length := by omega
      go_wp2_with fail
      go_still_tail 5, (by kernel_rfl)
      change wpList _ _ _ _ _ wr.drew
      have HT := Lib.hid (Two.drew HT.out)
      clear r0 r1 r2 r3 a0' a1' a2' a3'
      generalize wr.drew = w2 at *
      have HK := Lib.hid fun W => better_any l[i] a W
      have HFn := Lib.hid (HFi.out.next hlt)
      dsimp only [Edg.agg] at HK
      go_wp2_with fail
      refine (HK.out _).mono ?_
      rintro e w3 ⟨rfl, hb3⟩
      have HT := Lib.hid (HT.out.next hb3)
      clear hb3 HK
      obtain ⟨r0, r1, r2, r3⟩ := ELs.row (HL.out.below HT.out.low) i hlt
      cases hk : betterB l[i] a with
      | true =>
        rw [hk, if_pos rfl] at HFn
        clear hk
        obtain ⟨x0, x1, x2, x3⟩ := cells_of HT.out.at0
        obtain ⟨y0, y1, y2, y3⟩ := frozen_of HT.out.at0
        generalize l[i] = x at *
        go_wp2_with fail
        have HT := Lib.hid (Two.set0 HT.out x)
        clear x0 x1 x2 x3 y0 y1 y2 y3 r0 r1 r2 r3
        generalize World.setCell _ _ _ = w3' at *
        -- the one from behind
        obtain ⟨j, hj⟩ : ∃ j, j + i + 1 = l.length := ⟨l.length - 1 - i, by omega⟩
        have hjl : j < l.length := by omega
        have HFb := Lib.hid (HBi.out.next hjl hj)
        have HK := Lib.hid fun W => better_any l[j] b W
        dsimp only [Edg.agg] at HK
        obtain ⟨s0, s1, s2, s3⟩ := ELs.row (HL.out.below HT.out.low) j hjl
        obtain ⟨b0', b1', b2', b3'⟩ := cells_of HT.out.at1
        have e3 : IntKind.i64.wrap ((l.length : Int) - 1) = (l.length : Int) - 1 := IntWalk.i64_in _ (by omega)
        have e4 : IntKind.i64.wrap ((l.length : Int) - 1 - i) = j := by rw [IntWalk.i64_in _ (by omega)]; omega
        have e5 : (0:Int) ≤ (j:Int) := by omega
        have e6 : (j:Int) < l.length := by omega
        go_still_tail 9, (by kernel_rfl)
        change wpList _ _ _ _ _ (World.drew _)
        have HT := Lib.hid (Two.drew HT.out)
        clear s0 s1 s2 s3 b0' b1' b2' b3' e3 e4
        generalize World.drew _ = w4 at *
        go_wp2_with fail
        refine (HK.out _).mono ?_
        rintro e w5 ⟨rfl, hb5⟩
        have HT := Lib.hid (HT.out.next hb5)
        clear hb5 HK
        obtain ⟨s0, s1, s2, s3⟩ := ELs.row (HL.out.below HT.out.low) j hjl
        cases hk : betterB l[j] b with
        | true =>
          rw [hk, if_pos rfl] at HFb
          clear hk
          obtain ⟨x0, x1, x2, x3⟩ := cells_of HT.out.at1
          obtain ⟨y0, y1, y2, y3⟩ := frozen_of HT.out.at1
          have e7 : (l.length : Int) - 1 - i = j := by omega
          generalize l[j] = x at *
          go_wp2_with fail
          have HT := Lib.hid (Two.set1 HT.out x)
          clear e7
          go_roundw
          case rel => exact ⟨i + 1, _, _, by omega, by go_num, HFn, HFb, HT⟩
          case measure => simp [intOf]; omega
        | false =>
          rw [hk, if_neg (by simp)] at HFb
          clear hk s0 s1 s2 s3
          go_wp2_with fail
          go_roundw
          case rel => exact ⟨i + 1, _, _, by omega, by go_num, HFn, HFb, HT⟩
          case measure => simp [intOf]; omega
      | false =>
        rw [hk, if_neg (by simp)] at HFn
        clear hk r0 r1 r2 r3
        go_wp2_with fail
        -- the one from behind
        obtain ⟨j, hj⟩ : ∃ j, j + i + 1 = l.length := ⟨l.length - 1 - i, by omega⟩
        have hjl : j < l.length := by omega
        have HFb := Lib.hid (HBi.out.next hjl hj)
        have HK := Lib.hid fun W => better_any l[j] b W
        dsimp only [Edg.agg] at HK
        obtain ⟨s0, s1, s2, s3⟩ := ELs.row (HL.out.below HT.out.low) j hjl
        obtain ⟨b0', b1', b2', b3'⟩ := cells_of HT.out.at1
        have e3 : IntKind.i64.wrap ((l.length : Int) - 1) = (l.length : Int) - 1 := IntWalk.i64_in _ (by omega)
        have e4 : IntKind.i64.wrap ((l.length : Int) - 1 - i) = j := by rw [IntWalk.i64_in _ (by omega)]; omega
        have e5 : (0:Int) ≤ (j:Int) := by omega
        have e6 : (j:Int) < l.length := by omega
        go_still_tail 9, (by kernel_rfl)
        change wpList _ _ _ _ _ (World.drew _)
        have HT := Lib.hid (Two.drew HT.out)
        clear s0 s1 s2 s3 b0' b1' b2' b3' e3 e4
        generalize World.drew _ = w4 at *
        go_wp2_with fail
        refine (HK.out _).mono ?_
        rintro e w5 ⟨rfl, hb5⟩
        have HT := Lib.hid (HT.out.next hb5)
        clear hb5 HK
        obtain ⟨s0, s1, s2, s3⟩ := ELs.row (HL.out.below HT.out.low) j hjl
        cases hk : betterB l[j] b with
        | true =>
          rw [hk, if_pos rfl] at HFb
          clear hk
          obtain ⟨x0, x1, x2, x3⟩ := cells_of HT.out.at1
          obtain ⟨y0, y1, y2, y3⟩ := frozen_of HT.out.at1
          have e7 : (l.length : Int) - 1 - i = j := by omega
          generalize l[j] = x at *
          go_wp2_with fail
          have HT := Lib.hid (Two.set1 HT.out x)
          clear e7
          go_roundw
          case rel => exact ⟨i + 1, _, _, by omega, by go_num, HFn, HFb, HT⟩
          case measure => simp [intOf]; omega
        | false =>
          rw [hk, if_neg (by simp)] at HFb
          clear hk s0 s1 s2 s3
          go_wp2_with fail
          go_roundw
          case rel => exact ⟨i + 1, _, _, by omega, by go_num, HFn, HFb, HT⟩
          case measure => simp [intOf]; omega
    · have hil : i = l.length := by omega
      have ha : ∀ x ∈ l, betterB x a = false := HFi.out.all fun k hk => by show k < i; omega
      have hb : ∀ x ∈ l, betterB x b = false := HBi.out.all fun k hk => by show l.length ≤ k + i; omega
      obtain ⟨hq1, hq2⟩ := both (ha b HBi.out.1) (hb a HFi.out.1)
      have hnl : ¬ (i : Int) < l.length := by omega
      have HA := Lib.hid ha
      have HQ := Lib.hid (And.intro hq1 hq2)
      clear ha hb hq1 hq2 HFi HBi HF HBw
      go_wp2_with fail
      clear hnl hil
      go_loopw [6] (fun vi wx => ∃ k : Nat, k ≤ l.length ∧ vi = .int .i64 k ∧ Hid (Two w wx a b)) (fun vi _ => l.length - (intOf vi).toNat)
      case atStart => exact ⟨0, by omega, rfl, HT⟩
      case round =>
        obtain ⟨k, hk, rfl, HT2⟩ := hrel
        by_cases hlt2 : k < l.length
        · have e1 : (0:Int) ≤ (k:Int) := by omega
          have e2 : (k:Int) < l.length := by omega
          have hx := HA.out l[k] (List.getElem_mem hlt2)
          have hw : decide (l[k].weight < a.weight) = false := by
            cases h : decide (l[k].weight < a.weight) with
            | false => rfl
            | true => rw [less_better (by simpa using h)] at hx; cases hx
          have HK := fun W => better_any l[k] a W
          rw [hx] at HK
          dsimp only [Edg.agg] at HK
          have hS := held_first HL.out HT2.out k hlt2
          clear hx
          generalize l[k] = x at *
          go_wp2_with fail
          go_region_held3 (fun w' => w'.cell? ⟨p, o + k * 4, none⟩ = some (.int .u32 x.tail) ∧ w'.cell? ⟨p, o + k * 4 + 1, none⟩ = some (.int .u32 x.head) ∧ w'.cell? ⟨p, o + k * 4 + 2, none⟩ = some (.int .u64 x.weight) ∧ w'.cell? ⟨p, o + k * 4 + 3, none⟩ = some (.int .u32 x.mid) ∧ w'.cell? ⟨w.heap.size, 0, none⟩ = some (.int .u32 a.tail) ∧ w'.cell? ⟨w.heap.size, 1, none⟩ = some (.int .u32 a.head) ∧ w'.cell? ⟨w.heap.size, 2, none⟩ = some (.int .u64 a.weight) ∧ w'.cell? ⟨w.heap.size, 3, none⟩ = some (.int .u32 a.mid) ∧ p < w.heap.size ∧ Two w w' a b) (first | exact held_drew hS | exact held_next (by assumption) (by assumption))
            (first
             | (go_at_call 16; with_reducible refine (HK _).mono ?_; rintro e w' ⟨rfl, hb⟩))
          have HT3 := Lib.hid (held_two (by assumption))
          clear hS
          go_wp2_with fail
          go_roundw
          case rel => exact ⟨k + 1, by omega, by go_num, HT3⟩
          case measure => simp [intOf]; omega
        · obtain ⟨x0, x1, x2, x3⟩ := cells_of HT2.out.at0
          obtain ⟨y0, y1, y2, y3⟩ := cells_of HT2.out.at1
          have hq1 := HQ.out.1
          have hq2 := HQ.out.2
          have q1 : ((a.weight : Int) == (b.weight : Int)) = true := by rw [beq_iff_eq]; omega
          have q2 : ((a.mid : Int) == (b.mid : Int)) = true := by rw [beq_iff_eq]; omega
          have hnl : ¬ (k : Int) < l.length := by omega
          clear hq1 hq2
          go_wp2_with fail
          refine (works_any _).mono ?_
          rintro e w9 ⟨rfl, hb9⟩
          go_wp2_with fail
          go_ret
          exact ⟨rfl, HT2.out.low.trans (hb9.mono HT2.out.low.size)⟩

theorem open_edges {H : Type} {encT : TypeId × Value → H} {W : World} {v : Value} {d : DataW H} {p : List MemPlace} (hv : ∃ a len cap, v = .slice a len cap)
    (h : DataW.Trod encT Try.prog W 0 (fun _ => true) true 40 v d p) (hlt : ∀ x ∈ p, x.block < W.heap.size) :
    ∃ A len c, v = .slice A len c ∧ len ≤ maxLen ∧ (len ≤ 4611686018427387904 → ∃ l : List Edg, l.length = len ∧ ELs W.heap.size W A l) :=
  open_list Try.underlying40 edge_cells (by omega) (fun _ => rfl) (fun fuel cs' y h => edge_dec fuel cs' y h) hv h hlt

theorem walk (A : Option Addr) (len c : Nat) (w : World) (hlen : len ≤ maxLen) (hl : len ≤ 4611686018427387904 → ∃ l : List Edg, l.length = len ∧ ELs w.heap.size w A l) :
    Calls Try.prog 10 #[.slice A len c] w (LawOk w) := by
  unfold maxLen at hlen
  by_cases h : len = 0 ∨ 4096 < len
  · exact far A len c w h hlen
  · obtain ⟨l, rfl, hl'⟩ := hl (by omega)
    exact near A l c w hl' (by omega) (by omega)


set_option maxRecDepth 100000 in
theorem lifted (os : Os) (started : os.Started) (H : Type) (enc : TypeId × Value → H) :
    ReturnsInHanded {} Try.checked os 10 .any (Rows.weightLeastSpec.pre6 enc Try.prog Try.f10 Rows.weightLeastRow.domain false) (Rows.weightLeastSpec.post enc Try.prog Try.f10 false true false false) := by
  refine returnsInHanded_of_change (C := Try.checked) own_knob started (by kernel_rfl) Try.func10
    (ChangeSpec.witness6 (enc := enc) (C := Try.checked) false ⟨#[], #[.slice none 0 0], []⟩ 8 (by kernel_rfl) (by kernel_rfl) (by kernel_rfl) (by kernel_rfl)) ?_
  intro W base args ds gs before hval0 hW _ _
  have hval : ∀ (j : Nat) t v, Try.f10.params[j]? = some t → args[j]? = some v → Value.okWide Try.prog W .any base t v := hval0
  have hW' := hW
  obtain ⟨p, q, hA0, hV, rfl, _, _⟩ := hW
  have hA : DataW.TrodAll enc Try.prog W 0 (fun _ => true) true Try.f10.params.toList args.toList ds p := hA0
  rw [Try.params10] at hA hval
  obtain ⟨v0, vs0, d0, ds0, p0, q0, hargs, rfl, rfl, h0, r0⟩ := trodAll_cons hA
  obtain ⟨rfl, rfl, rfl⟩ := trodAll_nil r0
  obtain rfl : args = #[v0] := by cases args; simp_all
  obtain ⟨rfl, rfl⟩ := trodVars_none hV
  have hlt : ∀ x ∈ p0, x.block < W.heap.size := fun x hx => hW'.lt x (by simpa using hx)
  obtain ⟨A0, n0, c0, rfl, hn0, hl0⟩ := open_edges (okWide_slice Try.underlying40 (hval 0 40 v0 rfl rfl)) h0 (fun x hx => hlt x (by simp [hx]))
  refine (walk A0 n0 c0 W hn0 hl0).mono fun e W' ⟨he, hg⟩ => ?_
  subst he
  exact ⟨_, rfl, law_post hW' rfl (by kernel_rfl) rfl (by kernel_rfl) hg⟩

theorem proved : Rows.WeightLeastSaid :=
  OpenClaim.holds_of_wide 10 Try.f10 rfl rfl rfl rfl rfl rfl rfl ⟨rfl, rfl, rfl, rfl, rfl⟩ rfl rfl rfl rfl rfl (by kernel_rfl) Try.func10 (by kernel_rfl)
    (of_decide_eq_true (by kernel_rfl)) (by unfold Func.isWrapper; first | (rw [if_pos (by decide +kernel)]; kernel_rfl) | (rw [if_neg (by decide +kernel)]; exact ⟨rfl, rfl⟩))
    (fun os started H enc _ => lifted os started H enc)

end Go.Proofs.Ytbmcdgpldghddaa.weightLeast
