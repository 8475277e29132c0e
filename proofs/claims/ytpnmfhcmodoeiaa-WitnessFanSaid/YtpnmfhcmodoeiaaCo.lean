/- The contract of come, where the heap is not full. -/
import Derived.Test.YtpnmfhcmodoeiaaFr
import Derived.StillTailTactics
namespace Go.Proofs.Ytpnmfhcmodoeiaa
open Go.RowKit
set_option maxRecDepth 100000 in
set_option maxHeartbeats 2000000 in
theorem come_old (F H M n : Nat) (v : Value) (l : List Itm) (f : Nat → Option Nat) (a d old : Nat) (w : World) (h : FrAt F H M n w v l f) (ha : a < 4294967296) (hf : f a = some old) (hle : old ≤ d) :
    Calls Try.prog 30 #[.pointer (some ⟨F, 0, none⟩), .int .u32 (a : Int), .int .u64 (d : Int)] w fun e w' => e = .returned (.tuple #[]) ∧ w = w' := by
  have hlk : (Instr.lookup 71 (.map (some M)) (.int .u32 (a : Int)) true).run Try.prog w = .ok (.tuple #[.int .u64 (old : Int), .bool true]) w := by
    have := h.map.look ha; rw [hf] at this; exact this
  have c0 : w.cell? ⟨F, 0, none⟩ = some (.pointer (some ⟨H, 0, none⟩)) := cell_of_row _ _ 0 _ _ _ h.row
  have c1 : w.cell? ⟨F, 1, none⟩ = some (.map (some M)) := cell_of_row _ _ 1 _ _ _ h.row
  have g1 : decide ((old : Int) ≤ (d : Int)) = true := by rw [decide_eq_true_iff]; omega
  clear h hf ha
  go_enter Try.func30, Try.ntmps30
  go_wp2_with fail
  refine bodyPost_ret (results_none rfl _ _ _) rfl ?_
  exact ⟨rfl, rfl⟩
set_option maxRecDepth 100000 in
set_option maxHeartbeats 4000000 in
theorem come_new (F H M n : Nat) (v : Value) (l : List Itm) (f : Nat → Option Nat) (a d : Nat) (w : World) (h : FrAt F H M n w v l f) (ha : a < 4294967296) (hd : d < 18446744073709551616) (hf : f a = none ∨ ∃ old, f a = some old ∧ d < old)
    (hl : l.length < 65536) (hn : n < 4611686018427387904) :
    Calls Try.prog 30 #[.pointer (some ⟨F, 0, none⟩), .int .u32 (a : Int), .int .u64 (d : Int)] w fun e w' => e = .returned (.tuple #[]) ∧ ∃ v' l', FrAt F H M (n + 1) w' v' l' (upd f a d) ∧ l'.Perm (l ++ [⟨d, a, hd, ha⟩]) ∧ Moves (frO F H M v) (frO F H M v') w w' := by
  obtain ⟨w1, hst, hm1, hg1⟩ := h.map.store hn ha hd
  obtain ⟨h1, hm⟩ := h.mapped hm1 hg1
  have c0 : w.cell? ⟨F, 0, none⟩ = some (.pointer (some ⟨H, 0, none⟩)) := cell_of_row _ _ 0 _ _ _ h.row
  have c1 : w.cell? ⟨F, 1, none⟩ = some (.map (some M)) := cell_of_row _ _ 1 _ _ _ h.row
  have HF1 := Lib.hid h1
  have HM1 := Lib.hid hm
  have hlook := h.map.look ha
  have hlk0 := Lib.hid hlook
  clear h1 hm hm1 hg1 h hlook hn
  rcases hf with hf | ⟨old, hf, hlt⟩
  · have hlk : (Instr.lookup 71 (.map (some M)) (.int .u32 (a : Int)) true).run Try.prog w = .ok (.tuple #[.int .u64 0, .bool false]) w := by
      have := hlk0.out; rw [hf] at this; exact this
    clear hf hlk0
    go_enter Try.func30, Try.ntmps30
    go_wp2_with fail
    obtain ⟨W2, hW2⟩ : ∃ W2, w1.alloc (.cells #[.int .u64 (d : Int), .int .u32 (a : Int)] 88) = W2 := ⟨_, rfl⟩
    have hb2 : Below w1.heap.size w1 W2 := by rw [← hW2]; exact (Below.refl _ _).alloc (Nat.le_refl _) _
    have hX2 : W2.heap[w1.heap.size]? = some (.cells #[.int .u64 (d : Int), .int .u32 (a : Int)] 88 (0, 0)) := by rw [← hW2]; exact heap_alloc_new _ _
    rw [hW2]
    have h2 := HF1.out.below hb2
    have c2 : W2.cell? ⟨F, 0, none⟩ = some (.pointer (some ⟨H, 0, none⟩)) := cell_of_row _ _ 0 _ _ _ h2.row
    have x0 : W2.cell? ⟨w1.heap.size, 0, none⟩ = some (.int .u64 (d : Int)) := cell_of_row _ _ 0 _ _ _ hX2
    have x1 : W2.cell? ⟨w1.heap.size, 1, none⟩ = some (.int .u32 (a : Int)) := cell_of_row _ _ 1 _ _ _ hX2
    have HF2 := Lib.hid h2
    have HM2 := Lib.hid (HM1.out.below hb2)
    clear hW2 hb2 hX2 h2
    refine wp_region_still_tail 5 (by kernel_rfl) (by kernel_rfl) ?_
    simp only [List.take_succ_cons, List.take_zero, List.drop_succ_cons, List.drop_zero]
    repeat still_step
    try refine wpStill_nil ?_
    change wpList _ _ _ _ _ W2.drew
    have HF3 : Hid (FrAt F H M (n + 1) W2.drew v l (upd f a d)) := Lib.hid (HF2.out.below (below_drewN (Below.refl _ _) 1))
    have HM3 : Hid (Moves (frO F H M v) (frO F H M v) w W2.drew) := Lib.hid (HM2.out.below (below_drewN (Below.refl _ _) 1))
    have HPu := Lib.hid (push_hp H v l ⟨d, a, hd, ha⟩ W2.drew HF3.out.hp hl)
    dsimp only [Itm.agg] at HPu
    clear c2 x0 x1 HF2 HM2 hl
    go_wp2_with fail
    refine HPu.out.mono ?_
    rintro e w4 ⟨rfl, v4, l4, k4, p4, s4⟩
    obtain ⟨q1, q2⟩ := HF3.out.heap k4 s4
    have Q1 := Lib.hid q1
    have Q2 := Lib.hid (HM3.out.trans q2)
    have Q3 := Lib.hid p4
    clear q1 q2 k4 p4 s4
    go_wp2_with fail

    go_end0
    exact ⟨rfl, v4, l4, Q1.out, Q3.out, Q2.out⟩
  · have hlk : (Instr.lookup 71 (.map (some M)) (.int .u32 (a : Int)) true).run Try.prog w = .ok (.tuple #[.int .u64 (old : Int), .bool true]) w := by
      have := hlk0.out; rw [hf] at this; exact this
    have g1 : decide ((old : Int) ≤ (d : Int)) = false := by rw [decide_eq_false_iff_not]; omega
    clear hf hlk0
    go_enter Try.func30, Try.ntmps30
    go_wp2_with fail
    obtain ⟨W2, hW2⟩ : ∃ W2, w1.alloc (.cells #[.int .u64 (d : Int), .int .u32 (a : Int)] 88) = W2 := ⟨_, rfl⟩
    have hb2 : Below w1.heap.size w1 W2 := by rw [← hW2]; exact (Below.refl _ _).alloc (Nat.le_refl _) _
    have hX2 : W2.heap[w1.heap.size]? = some (.cells #[.int .u64 (d : Int), .int .u32 (a : Int)] 88 (0, 0)) := by rw [← hW2]; exact heap_alloc_new _ _
    rw [hW2]
    have h2 := HF1.out.below hb2
    have c2 : W2.cell? ⟨F, 0, none⟩ = some (.pointer (some ⟨H, 0, none⟩)) := cell_of_row _ _ 0 _ _ _ h2.row
    have x0 : W2.cell? ⟨w1.heap.size, 0, none⟩ = some (.int .u64 (d : Int)) := cell_of_row _ _ 0 _ _ _ hX2
    have x1 : W2.cell? ⟨w1.heap.size, 1, none⟩ = some (.int .u32 (a : Int)) := cell_of_row _ _ 1 _ _ _ hX2
    have HF2 := Lib.hid h2
    have HM2 := Lib.hid (HM1.out.below hb2)
    clear hW2 hb2 hX2 h2
    refine wp_region_still_tail 5 (by kernel_rfl) (by kernel_rfl) ?_
    simp only [List.take_succ_cons, List.take_zero, List.drop_succ_cons, List.drop_zero]
    repeat still_step
    try refine wpStill_nil ?_
    change wpList _ _ _ _ _ W2.drew
    have HF3 : Hid (FrAt F H M (n + 1) W2.drew v l (upd f a d)) := Lib.hid (HF2.out.below (below_drewN (Below.refl _ _) 1))
    have HM3 : Hid (Moves (frO F H M v) (frO F H M v) w W2.drew) := Lib.hid (HM2.out.below (below_drewN (Below.refl _ _) 1))
    have HPu := Lib.hid (push_hp H v l ⟨d, a, hd, ha⟩ W2.drew HF3.out.hp hl)
    dsimp only [Itm.agg] at HPu
    clear c2 x0 x1 HF2 HM2 hl
    go_wp2_with fail
    refine HPu.out.mono ?_
    rintro e w4 ⟨rfl, v4, l4, k4, p4, s4⟩
    obtain ⟨q1, q2⟩ := HF3.out.heap k4 s4
    have Q1 := Lib.hid q1
    have Q2 := Lib.hid (HM3.out.trans q2)
    have Q3 := Lib.hid p4
    clear q1 q2 k4 p4 s4
    go_wp2_with fail

    go_end0
    exact ⟨rfl, v4, l4, Q1.out, Q3.out, Q2.out⟩
end Go.Proofs.Ytpnmfhcmodoeiaa
