/- The contract of come, where the heap is full; a front that may be. -/
import Derived.Test.YtpnmfhcmodoeiaaSk
import Derived.Test.YtpnmfhcmodoeiaaHk
namespace Go.Proofs.Ytpnmfhcmodoeiaa
open Go.RowKit
theorem full_hp (H : Nat) (v : Value) (l : List Itm) (x : Itm) (w : World) (h : HO H w v l) (hl : l.length = 65536) :
    Calls Try.prog 40 #[.pointer (some ⟨H, 0, none⟩), x.agg] w fun e w' => e = .returned (.int .i64 9) ∧ Below w.heap.size w w' := by
  obtain ⟨A, c, rfl, hc⟩ := oi_cell h rfl
  exact push_full H l.length c x A w hc (by rw [hl]; exact Nat.le_refl _)
set_option maxRecDepth 100000 in
set_option maxHeartbeats 4000000 in
theorem come_full (F H M n : Nat) (v : Value) (l : List Itm) (f : Nat → Option Nat) (a d : Nat) (w : World) (h : FrAt F H M n w v l f) (ha : a < 4294967296) (hd : d < 18446744073709551616) (hf : f a = none ∨ ∃ old, f a = some old ∧ d < old)
    (hl : l.length = 65536) (hn : n < 3000000000000000000) :
    Calls Try.prog 30 #[.pointer (some ⟨F, 0, none⟩), .int .u32 (a : Int), .int .u64 (d : Int)] w fun e w' => e = .returned (.tuple #[]) ∧ ∃ H' v' l' T n', FrAt F H' M n' w' v' l' (upd f a d) ∧ Kept (upd f a d) l T ∧ T.length ≤ 17 ∧ l'.Perm (T ++ [⟨d, a, hd, ha⟩]) ∧ n' ≤ n + 18 ∧ Moves (frO F H M v) (frO F H' M v') w w' := by
  obtain ⟨w1, hst, hm1, hg1⟩ := h.map.store (by omega) ha hd
  obtain ⟨h1, hm⟩ := h.mapped hm1 hg1
  have c0 : w.cell? ⟨F, 0, none⟩ = some (.pointer (some ⟨H, 0, none⟩)) := cell_of_row _ _ 0 _ _ _ h.row
  have c1 : w.cell? ⟨F, 1, none⟩ = some (.map (some M)) := cell_of_row _ _ 1 _ _ _ h.row
  have HF1 := Lib.hid h1
  have HM1 := Lib.hid hm
  have HL := Lib.hid hl
  have hlook := h.map.look ha
  have hlk0 := Lib.hid hlook
  clear h1 hm hm1 hg1 h hlook hl
  rcases hf with hf | ⟨old, hf, hlt⟩
  · have hlk : (Instr.lookup 71 (.map (some M)) (.int .u32 (a : Int)) true).run Try.prog w = .ok (.tuple #[.int .u64 0, .bool false]) w := by
      have := hlk0.out; rw [hf] at this; exact this
    clear hf hlk0
    go_enter Try.func30, Try.ntmps30
    go_wp2_with fail
    obtain ⟨W2, hW2⟩ : ∃ W2, w1.alloc (.cells #[.int .u64 (d : Int), .int .u32 (a : Int)] 88) = W2 := ⟨_, rfl⟩
    have hb2 : Below w1.heap.size w1 W2 := by rw [← hW2]; exact (Below.refl _ _).alloc (Nat.le_refl _) _
    have hX2 : W2.heap[w1.heap.size]? = some (.cells #[.int .u64 (d : Int), .int .u32 (a : Int)] 88 (0, 0)) := by rw [← hW2]; exact heap_alloc_new _ _
    rw [hW2]
    have h2 := HF1.out.below hb2
    have c2 : W2.cell? ⟨F, 0, none⟩ = some (.pointer (some ⟨H, 0, none⟩)) := cell_of_row _ _ 0 _ _ _ h2.row
    have x0 : W2.cell? ⟨w1.heap.size, 0, none⟩ = some (.int .u64 (d : Int)) := cell_of_row _ _ 0 _ _ _ hX2
    have x1 : W2.cell? ⟨w1.heap.size, 1, none⟩ = some (.int .u32 (a : Int)) := cell_of_row _ _ 1 _ _ _ hX2
    have HF2 := Lib.hid h2
    have HM2 := Lib.hid (HM1.out.below hb2)
    have HX2 := Lib.hid hX2
    have HXo : Hid (¬ frO F H M v w1.heap.size) := Lib.hid (fun e => by have := HF1.out.lt _ e; omega)
    clear hW2 hb2 hX2 h2
    refine wp_region_still_tail 5 (by kernel_rfl) (by kernel_rfl) ?_
    simp only [List.take_succ_cons, List.take_zero, List.drop_succ_cons, List.drop_zero]
    repeat still_step
    try refine wpStill_nil ?_
    change wpList _ _ _ _ _ W2.drew
    have HF3 : Hid (FrAt F H M (n + 1) W2.drew v l (upd f a d)) := Lib.hid (HF2.out.below (below_drewN (Below.refl _ _) 1))
    have HM3 : Hid (Moves (frO F H M v) (frO F H M v) w W2.drew) := Lib.hid (HM2.out.below (below_drewN (Below.refl _ _) 1))
    have HX3 : Hid (W2.drew.heap[w1.heap.size]? = some (.cells #[.int .u64 (d : Int), .int .u32 (a : Int)] 88 (0, 0))) := HX2
    have HPu := Lib.hid (full_hp H v l ⟨d, a, hd, ha⟩ W2.drew HF3.out.hp.oi HL.out)
    dsimp only [Itm.agg] at HPu
    clear c2 x0 x1 HF2 HM2 HX2
    generalize w1.heap.size = X at *
    generalize W2.drew = W3 at *
    go_wp2_with fail
    refine HPu.out.mono ?_
    rintro e w4 ⟨rfl, hb4⟩
    have HF4 := Lib.hid (HF3.out.below hb4)
    have HM4 := Lib.hid (HM3.out.below hb4)
    have HX4 := Lib.hid ((hb4.block X (Array.getElem?_eq_some_iff.1 HX3.out).1).trans HX3.out)
    clear hb4 HPu HF3 HM3 HX3
    have HSk := Lib.hid (shrink_any F H M (n + 1) v l (upd f a d) w4 HF4.out (by rw [HL.out]; exact Nat.le_refl _) (by omega))
    go_wp2_with fail
    refine HSk.out.mono ?_
    rintro e w5 ⟨rfl, H', v5, l5, n5, f5, k5, t5, b5, m5⟩
    have HF5 := Lib.hid f5
    have HK5 := Lib.hid k5
    have HB5 := Lib.hid b5
    have HM5 := Lib.hid (HM4.out.trans m5)
    have r5 := (m5.block X (Array.getElem?_eq_some_iff.1 HX4.out).1 HXo.out).trans HX4.out
    have HXn : Hid (¬ frO F H' M v5 X) := Lib.hid (fun e => by
      rcases m5.own X e with h1 | h1
      · exact HXo.out h1
      · have := (Array.getElem?_eq_some_iff.1 HX4.out).1; omega)
    have c5 : w5.cell? ⟨F, 0, none⟩ = some (.pointer (some ⟨H', 0, none⟩)) := cell_of_row _ _ 0 _ _ _ f5.row
    have x0 : w5.cell? ⟨X, 0, none⟩ = some (.int .u64 (d : Int)) := cell_of_row _ _ 0 _ _ _ r5
    have x1 : w5.cell? ⟨X, 1, none⟩ = some (.int .u32 (a : Int)) := cell_of_row _ _ 1 _ _ _ r5
    clear f5 k5 b5 m5 r5 HSk HF4 HM4 HX4 HXo
    go_wp2_with fail
    refine wp_region_still_tail 5 (by kernel_rfl) (by kernel_rfl) ?_
    simp only [List.take_succ_cons, List.take_zero, List.drop_succ_cons, List.drop_zero]
    repeat still_step
    try refine wpStill_nil ?_
    change wpList _ _ _ _ _ w5.drew
    have HF6 : Hid (FrAt F H' M n5 w5.drew v5 l5 (upd f a d)) := Lib.hid (HF5.out.below (below_drewN (Below.refl _ _) 1))
    have HM6 : Hid (Moves (frO F H M v) (frO F H' M v5) w w5.drew) := Lib.hid (HM5.out.below (below_drewN (Below.refl _ _) 1))
    have HPu := Lib.hid (push_hp H' v5 l5 ⟨d, a, hd, ha⟩ w5.drew HF6.out.hp (by omega))
    dsimp only [Itm.agg] at HPu
    clear c5 x0 x1 HF5 HM5
    generalize w5.drew = w6 at *
    go_wp2_with fail
    refine HPu.out.mono ?_
    rintro e w7 ⟨rfl, v7, l7, k7, p7, s7⟩
    obtain ⟨q1, q2⟩ := HF6.out.heap k7 s7
    have Q1 := Lib.hid q1
    have Q2 := Lib.hid (HM6.out.trans q2)
    have Q3 := Lib.hid p7
    clear q1 q2 k7 p7 s7
    go_wp2_with fail
    go_end0
    exact ⟨rfl, H', v7, l7, l5, n5, Q1.out, HK5.out, t5, Q3.out, by have := HB5.out; omega, Q2.out⟩
  · have hlk : (Instr.lookup 71 (.map (some M)) (.int .u32 (a : Int)) true).run Try.prog w = .ok (.tuple #[.int .u64 (old : Int), .bool true]) w := by
      have := hlk0.out; rw [hf] at this; exact this
    have g1 : decide ((old : Int) ≤ (d : Int)) = false := by rw [decide_eq_false_iff_not]; omega
    clear hf hlk0
    go_enter Try.func30, Try.ntmps30
    go_wp2_with fail
    obtain ⟨W2, hW2⟩ : ∃ W2, w1.alloc (.cells #[.int .u64 (d : Int), .int .u32 (a : Int)] 88) = W2 := ⟨_, rfl⟩
    have hb2 : Below w1.heap.size w1 W2 := by rw [← hW2]; exact (Below.refl _ _).alloc (Nat.le_refl _) _
    have hX2 : W2.heap[w1.heap.size]? = some (.cells #[.int .u64 (d : Int), .int .u32 (a : Int)] 88 (0, 0)) := by rw [← hW2]; exact heap_alloc_new _ _
    rw [hW2]
    have h2 := HF1.out.below hb2
    have c2 : W2.cell? ⟨F, 0, none⟩ = some (.pointer (some ⟨H, 0, none⟩)) := cell_of_row _ _ 0 _ _ _ h2.row
    have x0 : W2.cell? ⟨w1.heap.size, 0, none⟩ = some (.int .u64 (d : Int)) := cell_of_row _ _ 0 _ _ _ hX2
    have x1 : W2.cell? ⟨w1.heap.size, 1, none⟩ = some (.int .u32 (a : Int)) := cell_of_row _ _ 1 _ _ _ hX2
    have HF2 := Lib.hid h2
    have HM2 := Lib.hid (HM1.out.below hb2)
    have HX2 := Lib.hid hX2
    have HXo : Hid (¬ frO F H M v w1.heap.size) := Lib.hid (fun e => by have := HF1.out.lt _ e; omega)
    clear hW2 hb2 hX2 h2
    refine wp_region_still_tail 5 (by kernel_rfl) (by kernel_rfl) ?_
    simp only [List.take_succ_cons, List.take_zero, List.drop_succ_cons, List.drop_zero]
    repeat still_step
    try refine wpStill_nil ?_
    change wpList _ _ _ _ _ W2.drew
    have HF3 : Hid (FrAt F H M (n + 1) W2.drew v l (upd f a d)) := Lib.hid (HF2.out.below (below_drewN (Below.refl _ _) 1))
    have HM3 : Hid (Moves (frO F H M v) (frO F H M v) w W2.drew) := Lib.hid (HM2.out.below (below_drewN (Below.refl _ _) 1))
    have HX3 : Hid (W2.drew.heap[w1.heap.size]? = some (.cells #[.int .u64 (d : Int), .int .u32 (a : Int)] 88 (0, 0))) := HX2
    have HPu := Lib.hid (full_hp H v l ⟨d, a, hd, ha⟩ W2.drew HF3.out.hp.oi HL.out)
    dsimp only [Itm.agg] at HPu
    clear c2 x0 x1 HF2 HM2 HX2
    generalize w1.heap.size = X at *
    generalize W2.drew = W3 at *
    go_wp2_with fail
    refine HPu.out.mono ?_
    rintro e w4 ⟨rfl, hb4⟩
    have HF4 := Lib.hid (HF3.out.below hb4)
    have HM4 := Lib.hid (HM3.out.below hb4)
    have HX4 := Lib.hid ((hb4.block X (Array.getElem?_eq_some_iff.1 HX3.out).1).trans HX3.out)
    clear hb4 HPu HF3 HM3 HX3
    have HSk := Lib.hid (shrink_any F H M (n + 1) v l (upd f a d) w4 HF4.out (by rw [HL.out]; exact Nat.le_refl _) (by omega))
    go_wp2_with fail
    refine HSk.out.mono ?_
    rintro e w5 ⟨rfl, H', v5, l5, n5, f5, k5, t5, b5, m5⟩
    have HF5 := Lib.hid f5
    have HK5 := Lib.hid k5
    have HB5 := Lib.hid b5
    have HM5 := Lib.hid (HM4.out.trans m5)
    have r5 := (m5.block X (Array.getElem?_eq_some_iff.1 HX4.out).1 HXo.out).trans HX4.out
    have HXn : Hid (¬ frO F H' M v5 X) := Lib.hid (fun e => by
      rcases m5.own X e with h1 | h1
      · exact HXo.out h1
      · have := (Array.getElem?_eq_some_iff.1 HX4.out).1; omega)
    have c5 : w5.cell? ⟨F, 0, none⟩ = some (.pointer (some ⟨H', 0, none⟩)) := cell_of_row _ _ 0 _ _ _ f5.row
    have x0 : w5.cell? ⟨X, 0, none⟩ = some (.int .u64 (d : Int)) := cell_of_row _ _ 0 _ _ _ r5
    have x1 : w5.cell? ⟨X, 1, none⟩ = some (.int .u32 (a : Int)) := cell_of_row _ _ 1 _ _ _ r5
    clear f5 k5 b5 m5 r5 HSk HF4 HM4 HX4 HXo
    go_wp2_with fail
    refine wp_region_still_tail 5 (by kernel_rfl) (by kernel_rfl) ?_
    simp only [List.take_succ_cons, List.take_zero, List.drop_succ_cons, List.drop_zero]
    repeat still_step
    try refine wpStill_nil ?_
    change wpList _ _ _ _ _ w5.drew
    have HF6 : Hid (FrAt F H' M n5 w5.drew v5 l5 (upd f a d)) := Lib.hid (HF5.out.below (below_drewN (Below.refl _ _) 1))
    have HM6 : Hid (Moves (frO F H M v) (frO F H' M v5) w w5.drew) := Lib.hid (HM5.out.below (below_drewN (Below.refl _ _) 1))
    have HPu := Lib.hid (push_hp H' v5 l5 ⟨d, a, hd, ha⟩ w5.drew HF6.out.hp (by omega))
    dsimp only [Itm.agg] at HPu
    clear c5 x0 x1 HF5 HM5
    generalize w5.drew = w6 at *
    go_wp2_with fail
    refine HPu.out.mono ?_
    rintro e w7 ⟨rfl, v7, l7, k7, p7, s7⟩
    obtain ⟨q1, q2⟩ := HF6.out.heap k7 s7
    have Q1 := Lib.hid q1
    have Q2 := Lib.hid (HM6.out.trans q2)
    have Q3 := Lib.hid p7
    clear q1 q2 k7 p7 s7
    go_wp2_with fail
    go_end0
    exact ⟨rfl, H', v7, l7, l5, n5, Q1.out, HK5.out, t5, Q3.out, by have := HB5.out; omega, Q2.out⟩
end Go.Proofs.Ytpnmfhcmodoeiaa
