/- The reference's Push and Pop at their ends. -/
import Derived.Test.YthppjkjaaekikaaHc
import Derived.Laws.ResultCell
namespace Go.Proofs.Ythppjkjaaekikaa
open Go.RowKit
set_option maxHeartbeats 2000000 in
theorem rpush_nil (x : Itm) (w : World) :
    Calls Try.prog 14 #[.pointer none, x.agg] w fun e w' => e = .returned (.int .i64 2) ∧ Below w.heap.size w w' := by
  dsimp only [Itm.agg]
  go_enter Try.func14, Try.ntmps14
  go_wp2_with fail
  go_ret
  exact ⟨rfl, (Below.refl _ w).alloc (Nat.le_refl _) _⟩
set_option maxHeartbeats 2000000 in
theorem rpush_full (H n c : Nat) (x : Itm) (A) (w : World) (h : w.cell? ⟨H, 0, none⟩ = some (.slice A n c)) (hn : 65536 ≤ n) :
    Calls Try.prog 14 #[.pointer (some ⟨H, 0, none⟩), x.agg] w fun e w' => e = .returned (.int .i64 9) ∧ Below w.heap.size w w' := by
  have hb : ∀ o, (w.alloc o).cell? ⟨H, 0, none⟩ = some (.slice A n c) := fun o =>
    (((Below.refl _ w).alloc (Nat.le_refl _) o).cell (World.block_lt_of_cell? w _ h)).trans h
  have hn2 : (65536 : Int) ≤ (n : Int) := by omega
  have h1 := hb (.cells #[.int .u64 (x.key : Int), .int .u32 (x.id : Int)] 32)
  clear hb
  dsimp only [Itm.agg]
  go_enter Try.func14, Try.ntmps14
  go_wp2_with fail
  go_ret
  exact ⟨rfl, (Below.refl _ w).alloc (Nat.le_refl _) _⟩
set_option maxHeartbeats 2000000 in
theorem rpop_nil (w : World) :
    Calls Try.prog 12 #[.pointer none] w fun e w' => e = .returned (.tuple #[Itm.nil.agg, .bool false]) ∧ Below w.heap.size w w' := by
  go_enter Try.func12, Try.ntmps12
  go_wp2_with fail
  refine bodyPost_ret (v := .tuple #[Itm.nil.agg, .bool false]) ?_ rfl ⟨rfl, (Below.refl _ w).alloc (Nat.le_refl _) _⟩
  rw [results_cell_tmp rfl]
  go_simp
  rfl
set_option maxHeartbeats 2000000 in
theorem rpop_empty (H c : Nat) (A) (w : World) (h : w.cell? ⟨H, 0, none⟩ = some (.slice A 0 c)) :
    Calls Try.prog 12 #[.pointer (some ⟨H, 0, none⟩)] w fun e w' => e = .returned (.tuple #[Itm.nil.agg, .bool false]) ∧ Below w.heap.size w w' := by
  have h1 : (w.alloc (.cells #[.int .u64 0, .int .u32 0] 32)).cell? ⟨H, 0, none⟩ = some (.slice A 0 c) :=
    (((Below.refl _ w).alloc (Nat.le_refl _) _).cell (World.block_lt_of_cell? w _ h)).trans h
  go_enter Try.func12, Try.ntmps12
  go_wp2_with fail
  refine bodyPost_ret (v := .tuple #[Itm.nil.agg, .bool false]) ?_ rfl ⟨rfl, (Below.refl _ w).alloc (Nat.le_refl _) _⟩
  rw [results_cell_tmp rfl]
  go_simp
  rfl
end Go.Proofs.Ythppjkjaaekikaa
