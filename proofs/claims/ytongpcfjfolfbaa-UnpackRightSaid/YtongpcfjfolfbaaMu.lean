/- Contracts of unpack.must: it gives up, unless something holds. -/
import Derived.Test.YtongpcfjfolfbaaEd
import Derived.WalkLawsBesides
namespace Go.Proofs.Ytongpcfjfolfbaa
open Go.RowKit

/-- what is given up with -/
def wrongV (e : Int) : List PanicEntry := [{ v := .iface 62 (.int .i64 e), recovered := false }]

theorem must_ok (e : Int) (w : World) : Calls Try.prog 31 #[.bool true, .int .i64 e] w fun r w' => r = .returned (.tuple #[]) ∧ w = w' := by
  go_enter Try.func31, Try.ntmps31
  go_wp2
  go_end0
  exact ⟨rfl, rfl⟩
theorem must_no (e : Int) (w : World) : Calls Try.prog 31 #[.bool false, .int .i64 e] w fun r w' => r = .panicked (wrongV e) ∧ w = w' := by
  go_enter Try.func31, Try.ntmps31
  go_wp2
  exact ⟨rfl, rfl, rfl⟩
end Go.Proofs.Ytongpcfjfolfbaa
