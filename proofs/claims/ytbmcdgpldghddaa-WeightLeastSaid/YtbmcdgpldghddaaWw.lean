/- The anchor of stage 3: milepostlaw03.works returns true. -/
import Derived.Test.YtbmcdgpldghddaaFt
import Derived.Test.YtbmcdgpldghddaaBt
namespace Go.Proofs.Ytbmcdgpldghddaa
open Go.RowKit

def ed (wt m : Nat) (hw : wt < 18446744073709551616 := by omega) (hm : m < 4294967296 := by omega) : Edg := ⟨0, 0, wt, m, by omega, by omega, hw, hm⟩

theorem works_any (w : World) : Calls Try.prog 15 #[] w fun e w' => e = .returned (.bool true) ∧ Below w.heap.size w w' := by
  have H1 := Lib.hid fun W => wAdd_any 1 2 (by omega) (by omega) W
  have H2 := Lib.hid fun W => wAdd_any 9223372036854775807 1 (by omega) (by omega) W
  have H3 := Lib.hid fun W => wFits_any 2 4611686018427387904 (by omega) (by omega) W
  have H4 := Lib.hid fun W => better_any (ed 3 4294967295) (ed 3 0) W
  have r1 : sumV 1 2 = 3 := by decide
  have r2 : fitsB 1 2 = true := by decide
  have r3 : fitsB 9223372036854775807 1 = false := by decide
  have r4 : fitsN 2 4611686018427387904 = false := by decide
  have r5 : betterB (ed 3 4294967295) (ed 3 0) = true := by decide
  rw [r1, r2] at H1
  rw [r3] at H2
  rw [r4] at H3
  rw [r5] at H4
  clear r1 r2 r3 r4 r5
  generalize sumV 9223372036854775807 1 = s at *
  go_enter Try.func15, Try.ntmps15
  go_wp2_with fail
  refine (H1.out w).mono ?_
  rintro e w1 ⟨rfl, rfl⟩
  go_wp2_with fail
  refine (H2.out w).mono ?_
  rintro e w1 ⟨rfl, rfl⟩
  go_wp2_with fail
  refine (H3.out w).mono ?_
  rintro e w1 ⟨rfl, rfl⟩
  go_wp2_with fail
  refine (H4.out w).mono ?_
  rintro e w1 ⟨rfl, hb⟩
  go_wp2_with fail
  go_ret
  exact ⟨rfl, hb⟩
end Go.Proofs.Ytbmcdgpldghddaa
