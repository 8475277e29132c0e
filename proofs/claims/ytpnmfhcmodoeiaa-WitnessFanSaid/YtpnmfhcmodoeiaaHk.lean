/- Push at no heap and at a full heap. -/
import Derived.Test.YtpnmfhcmodoeiaaHc
import Derived.Test.YtpnmfhcmodoeiaaHl
namespace Go.Proofs.Ytpnmfhcmodoeiaa
open Go.RowKit
set_option maxHeartbeats 2000000 in
theorem push_nil (x : Itm) (w : World) :
    Calls Try.prog 40 #[.pointer none, x.agg] w fun e w' => e = .returned (.int .i64 2) ∧ Below w.heap.size w w' := by
  dsimp only [Itm.agg]
  go_enter Try.func40, Try.ntmps40
  go_wp2_with fail
  go_ret
  exact ⟨rfl, (Below.refl _ w).alloc (Nat.le_refl _) _⟩
set_option maxHeartbeats 2000000 in
theorem push_full (H n c : Nat) (x : Itm) (A) (w : World) (h : w.cell? ⟨H, 0, none⟩ = some (.slice A n c)) (hn : 65536 ≤ n) :
    Calls Try.prog 40 #[.pointer (some ⟨H, 0, none⟩), x.agg] w fun e w' => e = .returned (.int .i64 9) ∧ Below w.heap.size w w' := by
  have hb : ∀ o, (w.alloc o).cell? ⟨H, 0, none⟩ = some (.slice A n c) := fun o =>
    (((Below.refl _ w).alloc (Nat.le_refl _) o).cell (World.block_lt_of_cell? w _ h)).trans h
  have HB := Lib.hid hb
  clear hb h
  have hn2 : (65536 : Int) ≤ (n : Int) := by omega
  dsimp only [Itm.agg]
  go_enter Try.func40, Try.ntmps40
  go_wp2_with (go_at_call 46; refine (len_any _ _ _ _ _ (HB.out _)).mono ?_; rintro e w1 ⟨rfl, rfl⟩)
  go_ret
  exact ⟨rfl, (Below.refl _ w).alloc (Nat.le_refl _) _⟩
end Go.Proofs.Ytpnmfhcmodoeiaa
