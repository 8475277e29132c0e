/- The contract of the document's Pop of a heap with items. -/
import Derived.Test.YthppjkjaaekikaaHg
import Derived.Test.YthppjkjaaekikaaHq
import Derived.Deep.RegionHeld3
import Derived.BigRegion
import Derived.Laws.ResultCell
namespace Go.Proofs.Ythppjkjaaekikaa
open Go.RowKit
/-- the list without an item, in whose place the last one has come -/
def rcut (l : List Itm) (a : Nat) : List Itm := (l.set a (gt l (l.length - 1))).take (l.length - 1)
theorem rcut_perm {l : List Itm} {a : Nat} (h : a < l.length) : (rcut l a ++ [gt l a]).Perm l := by
  have hs := swq_perm l (i := a) (j := l.length - 1) h (by omega)
  have e : swq l a (l.length - 1) = rcut l a ++ [gt l a] := by
    unfold swq rcut
    apply List.ext_getElem
    · simp; omega
    · intro k h1 h2
      rw [List.getElem_set]
      by_cases hk : l.length - 1 = k
      · rw [if_pos hk, List.getElem_append_right (by simp; omega)]; simp
      · simp at h1
        rw [if_neg hk, List.getElem_append_left (by simp; omega), List.getElem_take]
  rw [← e]
  exact hs
/-- the least of the first i -/
def LeastTo (l : List Itm) (i a : Nat) : Prop := ∀ j, j < i → vv l a ≤ vv l j
theorem LeastTo.least {l : List Itm} {a : Nat} (h : LeastTo l l.length a) (ha : a < l.length) : Least l (gt l a) := by
  refine ⟨by rw [gt_eq ha]; exact List.getElem_mem ha, fun y hy => ?_⟩
  obtain ⟨j, hj, rfl⟩ := List.getElem_of_mem hy
  have := h j hj
  unfold vv at this
  rwa [gt_eq hj] at this
theorem LeastTo.go {l : List Itm} {i a : Nat} (h : LeastTo l i a) (hb : ltB (gt l i) (gt l a) = true) : LeastTo l (i + 1) i := fun j hj => by
  rw [ltB_eq, decide_eq_true_iff] at hb
  have h1 : vv l i < vv l a := hb
  by_cases e : j = i
  · rw [e]; exact Nat.le_refl _
  · have := h j (by omega); omega
theorem LeastTo.stay {l : List Itm} {i a : Nat} (h : LeastTo l i a) (hb : ltB (gt l i) (gt l a) = false) : LeastTo l (i + 1) a := fun j hj => by
  rw [ltB_eq, decide_eq_false_iff_not] at hb
  have h1 : ¬ vv l i < vv l a := hb
  by_cases e : j = i
  · rw [e]; omega
  · exact h j (by omega)
theorem Keeps.setR {W R : Nat} {v : Value} {w w1 : World} (h : Keeps W v w w1) (hR : w.heap.size ≤ R) (i : Nat) (u : Value) : Keeps W v w (w1.setCell ⟨R, i, none⟩ u) :=
  ⟨h.os, h.tape, h.output, by rw [World.size_setCell]; exact h.size, fun b h1 h2 h3 => (heap_setCell_other _ _ _ _ (by show b ≠ R; omega)).trans (h.block b h1 h2 h3)⟩
theorem Keeps.setH {W : Nat} {v : Value} {w w1 : World} (h : Keeps W v w w1) (i : Nat) (u : Value) : Keeps W v w (w1.setCell ⟨W, i, none⟩ u) :=
  ⟨h.os, h.tape, h.output, by rw [World.size_setCell]; exact h.size, fun b h1 h2 h3 => (heap_setCell_other _ _ _ _ h2).trans (h.block b h1 h2 h3)⟩
theorem rheld_next {H g c i a o : Nat} {l : List Itm} {x y : Itm} {wr w2 w3 : World} (h : (fun w' => w'.cell? ⟨H, 0, none⟩ = some (.slice (some ⟨g, o, none⟩) l.length c) ∧ w'.cell? ⟨g, o + i * 2, none⟩ = some (.int .u64 (x.key : Int)) ∧ w'.cell? ⟨g, o + i * 2 + 1, none⟩ = some (.int .u32 (x.id : Int)) ∧ w'.cell? ⟨g, o + a * 2, none⟩ = some (.int .u64 (y.key : Int)) ∧ w'.cell? ⟨g, o + a * 2 + 1, none⟩ = some (.int .u32 (y.id : Int)) ∧ Below wr.heap.size wr w') w2) (hb : Below w2.heap.size w2 w3) : (fun w' => w'.cell? ⟨H, 0, none⟩ = some (.slice (some ⟨g, o, none⟩) l.length c) ∧ w'.cell? ⟨g, o + i * 2, none⟩ = some (.int .u64 (x.key : Int)) ∧ w'.cell? ⟨g, o + i * 2 + 1, none⟩ = some (.int .u32 (x.id : Int)) ∧ w'.cell? ⟨g, o + a * 2, none⟩ = some (.int .u64 (y.key : Int)) ∧ w'.cell? ⟨g, o + a * 2 + 1, none⟩ = some (.int .u32 (y.id : Int)) ∧ Below wr.heap.size wr w') w3 := by
  obtain ⟨a0, b0, b1, c0, c1, hB⟩ := h
  have hH := World.block_lt_of_cell? w2 _ a0
  have hg := World.block_lt_of_cell? w2 _ b0
  have e1 := fun k => hb.cell (p := ⟨H, k, none⟩) hH
  have e2 := fun k => hb.cell (p := ⟨g, k, none⟩) hg
  exact ⟨(e1 _).trans a0, (e2 _).trans b0, (e2 _).trans b1, (e2 _).trans c0, (e2 _).trans c1, hB.trans (hb.mono hB.size)⟩
theorem rheld_drew {H g c i a o : Nat} {l : List Itm} {x y : Itm} {wr w2 : World} (h : (fun w' => w'.cell? ⟨H, 0, none⟩ = some (.slice (some ⟨g, o, none⟩) l.length c) ∧ w'.cell? ⟨g, o + i * 2, none⟩ = some (.int .u64 (x.key : Int)) ∧ w'.cell? ⟨g, o + i * 2 + 1, none⟩ = some (.int .u32 (x.id : Int)) ∧ w'.cell? ⟨g, o + a * 2, none⟩ = some (.int .u64 (y.key : Int)) ∧ w'.cell? ⟨g, o + a * 2 + 1, none⟩ = some (.int .u32 (y.id : Int)) ∧ Below wr.heap.size wr w') w2) : (fun w' => w'.cell? ⟨H, 0, none⟩ = some (.slice (some ⟨g, o, none⟩) l.length c) ∧ w'.cell? ⟨g, o + i * 2, none⟩ = some (.int .u64 (x.key : Int)) ∧ w'.cell? ⟨g, o + i * 2 + 1, none⟩ = some (.int .u32 (x.id : Int)) ∧ w'.cell? ⟨g, o + a * 2, none⟩ = some (.int .u64 (y.key : Int)) ∧ w'.cell? ⟨g, o + a * 2 + 1, none⟩ = some (.int .u32 (y.id : Int)) ∧ Below wr.heap.size wr w') w2.drew := rheld_next h (below_drewN (Below.refl _ _) 1)
theorem rheld_below {H g c i a o : Nat} {l : List Itm} {x y : Itm} {wr w2 : World} (h : (fun w' => w'.cell? ⟨H, 0, none⟩ = some (.slice (some ⟨g, o, none⟩) l.length c) ∧ w'.cell? ⟨g, o + i * 2, none⟩ = some (.int .u64 (x.key : Int)) ∧ w'.cell? ⟨g, o + i * 2 + 1, none⟩ = some (.int .u32 (x.id : Int)) ∧ w'.cell? ⟨g, o + a * 2, none⟩ = some (.int .u64 (y.key : Int)) ∧ w'.cell? ⟨g, o + a * 2 + 1, none⟩ = some (.int .u32 (y.id : Int)) ∧ Below wr.heap.size wr w') w2) : Below wr.heap.size wr w2 := h.2.2.2.2.2
set_option maxRecDepth 100000 in
set_option maxHeartbeats 4000000 in
theorem rpop_some (H g c : Nat) (l : List Itm) (w : World) (h : RO H w (.slice (some ⟨g, 0, none⟩) l.length c) l) (h0 : 0 < l.length) (hl : l.length ≤ 65536) (hc : l.length ≤ c) (hlt : H < g ∧ g < w.heap.size) :
    Calls Try.prog 12 #[.pointer (some ⟨H, 0, none⟩)] w fun e w' => ∃ a, a < l.length ∧ LeastTo l l.length a ∧ e = .returned (.tuple #[(gt l a).agg, .bool true]) ∧ Keeps H (.slice (some ⟨g, 0, none⟩) l.length c) w w' ∧ RO H w' (.slice (some ⟨g, 0, none⟩) (l.length - 1) c) (rcut l a) := by
  obtain ⟨W1, hW1⟩ : ∃ W1, w.alloc (.cells #[.int .u64 0, .int .u32 0] 32) = W1 := ⟨_, rfl⟩
  have hb1 : Below w.heap.size w W1 := by rw [← hW1]; exact (Below.refl _ _).alloc (Nat.le_refl _) _
  have hR : W1.heap[w.heap.size]? = some (.cells #[.int .u64 0, .int .u32 0] 32 (0, 0)) := by rw [← hW1]; exact heap_alloc_new w _
  have h1 := h.below hb1
  obtain ⟨o, ho⟩ : ∃ o : Nat, o = 0 := ⟨_, rfl⟩
  have a0 : W1.cell? ⟨H, 0, none⟩ = some (.slice (some ⟨g, o, none⟩) l.length c) := by rw [ho]; exact cell_of_row _ _ 0 _ _ _ h1.row
  have n4 : (0 : Int) < (l.length : Int) := by omega
  have g1 : ((l.length : Int) == 0) = false := by rw [beq_eq_false_iff_ne]; omega
  have g2 : decide (l.length = 0) = false := by rw [decide_eq_false_iff_not]; omega
  have lr : w.heap.size < W1.heap.size := (Array.getElem?_eq_some_iff.1 hR).1
  have lg : g < W1.heap.size := by omega
  have HO' := Lib.hid ho
  have HR := Lib.hid hR
  have HA := Lib.hid h1
  have HB := Lib.hid hb1
  have H0 := Lib.hid h
  have HLT := Lib.hid hlt
  have HLL := Lib.hid h0
  have HLM := Lib.hid hl
  have HC := Lib.hid hc
  clear ho hR h1 hb1 h hlt h0 hl hc
  go_enter Try.func12, Try.ntmps12
  go_wp2_with fail
  try rw [hW1]
  clear hW1 g1 g2 a0
  go_loopw [4, 5] (fun va vi wr => ∃ a i : Nat, va = .int .i64 a ∧ vi = .int .i64 i ∧ a < i ∧ i ≤ l.length ∧ Hid (LeastTo l i a) ∧ Hid (Below W1.heap.size W1 wr)) (fun _ vi _ => l.length - (intOf vi).toNat)
  case atStart => exact ⟨0, 1, rfl, rfl, by omega, HLL.out, (fun j hj => by have : j = 0 := by omega
                                                                            rw [this]; exact Nat.le_refl _), Below.refl _ _⟩
  case round =>
    obtain ⟨a, i, rfl, rfl, hai, hi, HM, HBr⟩ := hrel
    have hlb : l.length ≤ 65536 := HLM.out
    have hib : i ≤ 65536 := by omega
    have a0 : wr.cell? ⟨H, 0, none⟩ = some (.slice (some ⟨g, o, none⟩) l.length c) := by rw [HO'.out]; exact cell_of_row _ _ 0 _ _ _ (HA.out.below HBr.out).row
    have n1 : (0 : Int) ≤ (i : Int) := by omega
    have n3 : (0 : Int) ≤ (a : Int) := by omega
    have n4 : (a : Int) < (l.length : Int) := by have := HLL.out; omega
    have ha : a < l.length := by have := HLL.out; omega
    obtain ⟨d0, d1, y0, y1⟩ := its_at HO'.out (HA.out.below HBr.out).own a ha
    by_cases hlt : i < l.length
    · have n2 : (i : Int) < (l.length : Int) := by omega
      obtain ⟨c0, c1, _, _⟩ := its_at HO'.out (HA.out.below HBr.out).own i hlt
      have HGo := Lib.hid (fun h : ltB (gt l i) (gt l a) = true => HM.out.go h)
      have HSt := Lib.hid (fun h : ltB (gt l i) (gt l a) = false => HM.out.stay h)
      have HLs := Lib.hid (fun W => rless_any (gt l i) (gt l a) W)
      clear y0 y1
      generalize hx : gt l i = x at *
      generalize hy : gt l a = y at *
      clear hx hy
      dsimp only [Itm.agg] at HLs
      cases hb : ltB x y with
      | true =>
        rw [hb] at HLs
        have HN := Lib.hid (HGo.out hb)
        clear hb HGo HSt
        go_wp2_with fail
        have hS : (fun w' => w'.cell? ⟨H, 0, none⟩ = some (.slice (some ⟨g, o, none⟩) l.length c) ∧ w'.cell? ⟨g, o + i * 2, none⟩ = some (.int .u64 (x.key : Int)) ∧ w'.cell? ⟨g, o + i * 2 + 1, none⟩ = some (.int .u32 (x.id : Int)) ∧ w'.cell? ⟨g, o + a * 2, none⟩ = some (.int .u64 (y.key : Int)) ∧ w'.cell? ⟨g, o + a * 2 + 1, none⟩ = some (.int .u32 (y.id : Int)) ∧ Below wr.heap.size wr w') wr := ⟨a0, c0, c1, d0, d1, Below.refl _ _⟩
        go_region_held3 (fun w' => w'.cell? ⟨H, 0, none⟩ = some (.slice (some ⟨g, o, none⟩) l.length c) ∧ w'.cell? ⟨g, o + i * 2, none⟩ = some (.int .u64 (x.key : Int)) ∧ w'.cell? ⟨g, o + i * 2 + 1, none⟩ = some (.int .u32 (x.id : Int)) ∧ w'.cell? ⟨g, o + a * 2, none⟩ = some (.int .u64 (y.key : Int)) ∧ w'.cell? ⟨g, o + a * 2 + 1, none⟩ = some (.int .u32 (y.id : Int)) ∧ Below wr.heap.size wr w') (first | exact rheld_drew hS | exact rheld_next (by assumption) (by assumption))
          (first | (go_at_call 23; (with_reducible refine (HLs.out _).mono ?_); rintro e w' ⟨rfl, hb⟩))
        have HB2 := Lib.hid (rheld_below (by assumption : (fun w' => w'.cell? ⟨H, 0, none⟩ = some (.slice (some ⟨g, o, none⟩) l.length c) ∧ w'.cell? ⟨g, o + i * 2, none⟩ = some (.int .u64 (x.key : Int)) ∧ w'.cell? ⟨g, o + i * 2 + 1, none⟩ = some (.int .u32 (x.id : Int)) ∧ w'.cell? ⟨g, o + a * 2, none⟩ = some (.int .u64 (y.key : Int)) ∧ w'.cell? ⟨g, o + a * 2 + 1, none⟩ = some (.int .u32 (y.id : Int)) ∧ Below wr.heap.size wr w') w'))
        clear hS hb a0 c0 c1 d0 d1
        go_wp2_with fail
        go_roundw
        case rel => exact ⟨i, i + 1, rfl, by go_num, by omega, by omega, HN, Lib.hid (HBr.out.trans (HB2.out.mono HBr.out.size))⟩
        case measure => simp [intOf]; omega
      | false =>
        rw [hb] at HLs
        have HN := Lib.hid (HSt.out hb)
        clear hb HGo HSt
        go_wp2_with fail
        have hS : (fun w' => w'.cell? ⟨H, 0, none⟩ = some (.slice (some ⟨g, o, none⟩) l.length c) ∧ w'.cell? ⟨g, o + i * 2, none⟩ = some (.int .u64 (x.key : Int)) ∧ w'.cell? ⟨g, o + i * 2 + 1, none⟩ = some (.int .u32 (x.id : Int)) ∧ w'.cell? ⟨g, o + a * 2, none⟩ = some (.int .u64 (y.key : Int)) ∧ w'.cell? ⟨g, o + a * 2 + 1, none⟩ = some (.int .u32 (y.id : Int)) ∧ Below wr.heap.size wr w') wr := ⟨a0, c0, c1, d0, d1, Below.refl _ _⟩
        go_region_held3 (fun w' => w'.cell? ⟨H, 0, none⟩ = some (.slice (some ⟨g, o, none⟩) l.length c) ∧ w'.cell? ⟨g, o + i * 2, none⟩ = some (.int .u64 (x.key : Int)) ∧ w'.cell? ⟨g, o + i * 2 + 1, none⟩ = some (.int .u32 (x.id : Int)) ∧ w'.cell? ⟨g, o + a * 2, none⟩ = some (.int .u64 (y.key : Int)) ∧ w'.cell? ⟨g, o + a * 2 + 1, none⟩ = some (.int .u32 (y.id : Int)) ∧ Below wr.heap.size wr w') (first | exact rheld_drew hS | exact rheld_next (by assumption) (by assumption))
          (first | (go_at_call 23; (with_reducible refine (HLs.out _).mono ?_); rintro e w' ⟨rfl, hb⟩))
        have HB2 := Lib.hid (rheld_below (by assumption : (fun w' => w'.cell? ⟨H, 0, none⟩ = some (.slice (some ⟨g, o, none⟩) l.length c) ∧ w'.cell? ⟨g, o + i * 2, none⟩ = some (.int .u64 (x.key : Int)) ∧ w'.cell? ⟨g, o + i * 2 + 1, none⟩ = some (.int .u32 (x.id : Int)) ∧ w'.cell? ⟨g, o + a * 2, none⟩ = some (.int .u64 (y.key : Int)) ∧ w'.cell? ⟨g, o + a * 2 + 1, none⟩ = some (.int .u32 (y.id : Int)) ∧ Below wr.heap.size wr w') w'))
        clear hS hb a0 c0 c1 d0 d1
        go_wp2_with fail
        go_roundw
        case rel => exact ⟨a, i + 1, rfl, by go_num, by omega, by omega, HN, Lib.hid (HBr.out.trans (HB2.out.mono HBr.out.size))⟩
        case measure => simp [intOf]; omega
    · have n2 : ¬ (i : Int) < (l.length : Int) := by omega
      have hie : i = l.length := by omega
      subst hie
      clear hi hlt hai n1 hib
      obtain ⟨k, hk⟩ : ∃ k : Nat, k = l.length - 1 := ⟨_, rfl⟩
      have e1 : (l.length : Int) - 1 = (k : Int) := by have := HLL.out; omega
      have n5 : (0 : Int) ≤ (k : Int) := by omega
      have n6 : (k : Int) < (l.length : Int) := by have := HLL.out; omega
      have n7 : (k : Int) ≤ (c : Int) := by have := HC.out; omega
      have hkl : k < l.length := by have := HLL.out; omega
      have HK := Lib.hid hk
      clear hk
      have HAr := Lib.hid (HA.out.below HBr.out)
      have HRr := Lib.hid ((HBr.out.block _ lr).trans HR.out)
      have HBw := Lib.hid (HB.out.trans (HBr.out.mono HB.out.size))
      have HLg := Lib.hid (Nat.lt_of_lt_of_le lg HBr.out.size)
      have HLr := Lib.hid (Nat.lt_of_lt_of_le lr HBr.out.size)
      obtain ⟨W3, hW3⟩ : ∃ W3, wr.alloc (.cells #[.int .u64 ((gt l a).key : Int), .int .u32 ((gt l a).id : Int)] 32) = W3 := ⟨_, rfl⟩
      have HB3 : Hid (Below wr.heap.size wr W3) := Lib.hid (by rw [← hW3]; exact (Below.refl _ _).alloc (Nat.le_refl _) _)
      have HX3 : Hid (W3.heap[wr.heap.size]? = some (.cells (gt l a).cells 32 (0, 0))) := Lib.hid (by rw [← hW3]; exact heap_alloc_new _ _)
      clear HBr HR HB lr lg hlb
      have hkb : k ≤ 65536 := by have := HLM.out; omega
      have HA3 := Lib.hid (HAr.out.below HB3.out)
      have a3 : W3.cell? ⟨H, 0, none⟩ = some (.slice (some ⟨g, o, none⟩) l.length c) := by rw [HO'.out]; exact cell_of_row _ _ 0 _ _ _ HA3.out.row
      go_wp2_with fail
      try rw [hW3]
      clear hW3 a0 d0 d1 y0 y1 a3
      have a0 : W3.cell? ⟨H, 0, none⟩ = some (.slice (some ⟨g, o, none⟩) l.length c) := by rw [HO'.out]; exact cell_of_row _ _ 0 _ _ _ HA3.out.row
      obtain ⟨d0, d1, y0, y1⟩ := its_at HO'.out HA3.out.own a ha
      obtain ⟨c0, c1, z0, z1⟩ := its_at HO'.out HA3.out.own k hkl
      go_region
      obtain ⟨W4, hW4⟩ : ∃ W4, ((W3.setCell ⟨g, o + a * 2, none⟩ (.int .u64 ((gt l k).key : Int))).setCell ⟨g, o + a * 2 + 1, none⟩ (.int .u32 ((gt l k).id : Int))).drew = W4 := ⟨_, rfl⟩
      have hHg : H ≠ g := by have := HLT.out; omega
      have HK4 : Hid (Keeps H (.slice (some ⟨g, 0, none⟩) l.length c) W3 W4) := Lib.hid (by
        rw [← hW4]
        refine ⟨rfl, rfl, rfl, by simp, fun b h1 h2 h3 => ?_⟩
        have hg : b ≠ g := fun e => h3 (by rw [e]; rfl)
        show ((W3.setCell _ _).setCell _ _).heap[b]? = _
        rw [heap_setCell_other _ _ _ _ hg, heap_setCell_other _ _ _ _ hg])
      have HO4 : Hid (W4.heap[H]? = some (.cells #[.slice (some ⟨g, o, none⟩) l.length c] 28 (0, 0))) := Lib.hid (by
        rw [← hW4, HO'.out]
        show ((W3.setCell _ _).setCell _ _).heap[H]? = _
        rw [heap_setCell_other _ _ _ _ hHg, heap_setCell_other _ _ _ _ hHg]
        exact HA3.out.row)
      have HI4 : Hid (Its W4 (H + 1) (.slice (some ⟨g, 0, none⟩) l.length c) (l.set a (gt l k))) := Lib.hid (by
        rw [← hW4, HO'.out, Nat.zero_add]
        exact its_set rfl HA3.out.own a ha (gt l k))
      rw [hW4]
      clear hW4 a0 d0 d1 y0 y1 c0 c1 z0 z1
      generalize hx : gt l a = x at *
      have HX0 := Lib.hid hx
      clear hx
      have HX4 := Lib.hid ((HK4.out.block wr.heap.size (Array.getElem?_eq_some_iff.1 HX3.out).1 (by have := HAr.out.lt; omega) (fun e => by
        have e' : wr.heap.size = g := by simpa [Value.ownBlock] using e
        have := HLg.out; omega)).trans HX3.out)
      have HR4 := Lib.hid ((HK4.out.block w.heap.size (by have := HB3.out.size; have := HLr.out; omega) (by have := H0.out.lt; omega) (fun e => by
        have e' : w.heap.size = g := by simpa [Value.ownBlock] using e
        have := HLT.out; omega)).trans ((HB3.out.block _ HLr.out).trans HRr.out))
      have hXH : wr.heap.size ≠ H := by have := HAr.out.lt; omega
      have hRH : w.heap.size ≠ H := by have := H0.out.lt; omega
      have hXR : wr.heap.size ≠ w.heap.size := by have := HLr.out; omega
      have a0 : W4.cell? ⟨H, 0, none⟩ = some (.slice (some ⟨g, o, none⟩) l.length c) := cell_of_row _ _ 0 _ _ _ HO4.out
      have a2 : W4.frozen? ⟨H, 0, none⟩ = false := frozen_of_row _ _ _ _ _ HO4.out
      have x0 : W4.cell? ⟨wr.heap.size, 0, none⟩ = some (.int .u64 (x.key : Int)) := cell_of_row _ _ 0 _ _ _ HX4.out
      have x1 : W4.cell? ⟨wr.heap.size, 1, none⟩ = some (.int .u32 (x.id : Int)) := cell_of_row _ _ 1 _ _ _ HX4.out
      have r0 : W4.cell? ⟨w.heap.size, 0, none⟩ = some (.int .u64 0) := cell_of_row _ _ 0 _ _ _ HR4.out
      have r1 : W4.cell? ⟨w.heap.size, 1, none⟩ = some (.int .u32 0) := cell_of_row _ _ 1 _ _ _ HR4.out
      have s0 : W4.frozen? ⟨w.heap.size, 0, none⟩ = false := frozen_of_row _ _ _ _ _ HR4.out
      have s1 : W4.frozen? ⟨w.heap.size, 1, none⟩ = false := frozen_of_row _ _ _ _ _ HR4.out
      have hRH' := hRH.symm
      have hXH' := hXH.symm
      have hXR' := hXR.symm
      have lr4 : w.heap.size < W4.heap.size := (Array.getElem?_eq_some_iff.1 HR4.out).1
      generalize hXe : wr.heap.size = X at *
      have HXE := Lib.hid hXe
      clear hXe
      generalize hRe : w.heap.size = R at *
      have HRE := Lib.hid hRe
      clear hRe
      go_wp2_with fail
      refine bodyPost_ret (v := .tuple #[x.agg, .bool true]) ?_ rfl ?_
      · rw [results_cell_tmp rfl]
        go_simp
        rfl
      · refine ⟨a, ha, HM.out, by rw [HX0.out], ?_, ?_⟩
        · have hBw : Below w.heap.size w wr := by rw [HRE.out]; exact HBw.out
          have hB3 : Below wr.heap.size wr W3 := by rw [HXE.out]; exact HB3.out
          have k1 := (((Keeps.refl H (.slice (some ⟨g, 0, none⟩) l.length c) w).below hBw).below hB3).trans HK4.out fun j hj => .inl hj
          exact ((k1.setH 0 _).setR (Nat.le_of_eq HRE.out) 0 _).setR (Nat.le_of_eq HRE.out) 1 _
        · rw [← HK.out]
          have h2 := heap_setCell_same _ H 0 _ _ (.slice (some ⟨g, o, none⟩) k c) HO4.out
          have hRg : g ≠ R := by have := HLT.out; omega
          refine ⟨?_, ?_⟩
          · rw [heap_setCell_other _ _ _ _ hRH', heap_setCell_other _ _ _ _ hRH', h2, HO'.out]
            rfl
          · have h3 := its_take (k := k) (by rw [List.length_set]) HI4.out (by rw [List.length_set]; omega)
            unfold rcut
            rw [← HK.out]
            refine OwnS.same h3 fun j hj => ?_
            have : j = g := by simpa [Value.ownBlock] using hj.symm
            subst this
            rw [heap_setCell_other _ _ _ _ hRg, heap_setCell_other _ _ _ _ hRg, heap_setCell_other _ _ _ _ (Ne.symm hHg)]
theorem rpop_ro (H : Nat) (v : Value) (l : List Itm) (w : World) (h : RO H w v l) (h0 : 0 < l.length) (hl : l.length ≤ 65536) :
    Calls Try.prog 12 #[.pointer (some ⟨H, 0, none⟩)] w fun e w' => ∃ v' l' x, e = .returned (.tuple #[x.agg, .bool true]) ∧ RO H w' v' l' ∧ (l' ++ [x]).Perm l ∧ Least l x ∧ Step H v v' w w' := by
  obtain ⟨g, c, rfl, h1, h2, hc⟩ := h.at h0
  refine (rpop_some H g c l w h h0 hl hc ⟨h1, h2⟩).mono ?_
  rintro e w' ⟨a, ha, hm, rfl, hk, hr⟩
  exact ⟨_, _, _, rfl, hr, rcut_perm ha, hm.least ha, hk, fun j hj => .inl hj⟩
end Go.Proofs.Ythppjkjaaekikaa
