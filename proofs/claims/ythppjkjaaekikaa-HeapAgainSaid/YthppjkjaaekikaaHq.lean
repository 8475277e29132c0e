/- The reference's order. -/
import Derived.Test.YthppjkjaaekikaaHc
namespace Go.Proofs.Ythppjkjaaekikaa
open Go.RowKit
set_option maxHeartbeats 2000000 in
theorem rless_any (a b : Itm) (w : World) :
    Calls Try.prog 23 #[a.agg, b.agg] w fun e w' => e = .returned (.bool (ltB a b)) ∧ Below w.heap.size w w' := by
  have hB : ∀ o p, Below w.heap.size w ((w.alloc o).alloc p) := fun o p =>
    ((Below.refl _ w).alloc (Nat.le_refl _) o).alloc (by simp) p
  have HB := Lib.hid hB
  clear hB
  have HV := Lib.hid (show ltB a b = decide (a.key < b.key ∨ a.key = b.key ∧ a.id < b.id) from rfl)
  dsimp only [Itm.agg]
  by_cases h1 : (a.key : Int) < (b.key : Int)
  · go_enter Try.func23, Try.ntmps23
    go_wp2_with fail
    go_ret
    exact ⟨ret_bool (by rw [HV.out]; simp; omega), HB.out _ _⟩
  · by_cases h2 : (a.key : Int) = (b.key : Int)
    · by_cases h3 : (a.id : Int) < (b.id : Int)
      · go_enter Try.func23, Try.ntmps23
        go_wp2_with fail
        go_ret
        exact ⟨ret_bool (by rw [HV.out]; simp; omega), HB.out _ _⟩
      · go_enter Try.func23, Try.ntmps23
        go_wp2_with fail
        go_ret
        exact ⟨ret_bool (by rw [HV.out]; simp; omega), HB.out _ _⟩
    · go_enter Try.func23, Try.ntmps23
      go_wp2_with fail
      go_ret
      exact ⟨ret_bool (by rw [HV.out]; simp; omega), HB.out _ _⟩
end Go.Proofs.Ythppjkjaaekikaa
