/- Pop of no heap. -/
import Derived.Test.YtpnmfhcmodoeiaaHc
import Derived.Test.YtpnmfhcmodoeiaaHl
import Derived.Laws.ResultCell
namespace Go.Proofs.Ytpnmfhcmodoeiaa
open Go.RowKit
set_option maxHeartbeats 2000000 in
theorem pop_nil (w : World) :
    Calls Try.prog 42 #[.pointer none] w fun e w' => e = .returned (.tuple #[Itm.nil.agg, .bool false]) ∧ Below w.heap.size w w' := by
  go_enter Try.func42, Try.ntmps42
  go_wp2_with (go_at_call 46; refine (len_nil _).mono ?_; rintro e w1 ⟨rfl, rfl⟩)
  refine bodyPost_ret (v := .tuple #[Itm.nil.agg, .bool false]) ?_ rfl ⟨rfl, (Below.refl _ w).alloc (Nat.le_refl _) _⟩
  rw [results_cell_tmp rfl]
  go_simp
  rfl
set_option maxHeartbeats 2000000 in
theorem pop_empty (H c : Nat) (A) (w : World) (h : w.cell? ⟨H, 0, none⟩ = some (.slice A 0 c)) :
    Calls Try.prog 42 #[.pointer (some ⟨H, 0, none⟩)] w fun e w' => e = .returned (.tuple #[Itm.nil.agg, .bool false]) ∧ Below w.heap.size w w' := by
  have hb : ∀ o, (w.alloc o).cell? ⟨H, 0, none⟩ = some (.slice A 0 c) := fun o =>
    (((Below.refl _ w).alloc (Nat.le_refl _) o).cell (World.block_lt_of_cell? w _ h)).trans h
  have HB := Lib.hid hb
  clear hb h
  go_enter Try.func42, Try.ntmps42
  go_wp2_with (go_at_call 46; refine (len_any _ _ _ _ _ (HB.out _)).mono ?_; rintro e w1 ⟨rfl, rfl⟩)
  refine bodyPost_ret (v := .tuple #[Itm.nil.agg, .bool false]) ?_ rfl ⟨rfl, (Below.refl _ w).alloc (Nat.le_refl _) _⟩
  rw [results_cell_tmp rfl]
  go_simp
  rfl
end Go.Proofs.Ytpnmfhcmodoeiaa
