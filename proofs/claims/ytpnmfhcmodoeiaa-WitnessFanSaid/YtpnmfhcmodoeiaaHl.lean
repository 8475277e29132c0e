/- The contract of Len: nil, and a heap by its first cell. -/
import Derived.Test.YtpnmfhcmodoeiaaHs
namespace Go.Proofs.Ytpnmfhcmodoeiaa
open Go.RowKit
set_option maxHeartbeats 2000000 in
theorem len_any (H n c : Nat) (A) (w : World) (h : w.cell? ⟨H, 0, none⟩ = some (.slice A n c)) :
    Calls Try.prog 46 #[.pointer (some ⟨H, 0, none⟩)] w fun e w' => e = .returned (.int .i64 (n : Int)) ∧ w = w' := by
  go_enter Try.func46, Try.ntmps46
  go_wp2_with fail
  go_ret
  exact ⟨rfl, rfl⟩
set_option maxHeartbeats 2000000 in
theorem len_nil (w : World) :
    Calls Try.prog 46 #[.pointer none] w fun e w' => e = .returned (.int .i64 0) ∧ w = w' := by
  go_enter Try.func46, Try.ntmps46
  go_wp2_with fail
  go_ret
  exact ⟨rfl, rfl⟩
end Go.Proofs.Ytpnmfhcmodoeiaa
