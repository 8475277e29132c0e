/- New, and down over an empty heap. -/
import Derived.Test.YtpnmfhcmodoeiaaHs
namespace Go.Proofs.Ytpnmfhcmodoeiaa
open Go.RowKit
set_option maxHeartbeats 2000000 in
theorem new_any (w : World) :
    Calls Try.prog 29 #[] w fun e w' => e = .returned (.pointer (some ⟨w.heap.size, 0, none⟩)) ∧ w'.heap[w.heap.size]? = some (.cells #[.slice none 0 0, .func (.func 36) #[] #[]] 97 (0, 0)) ∧ Below w.heap.size w w' := by
  go_enter Try.func29, Try.ntmps29
  go_wp2_with fail
  go_ret
  exact ⟨rfl, by (first | exact Array.getElem?_push_size | (show (w.heap.push _)[w.heap.size]? = _; exact Array.getElem?_push_size) | (rw [World.alloc_eq]; exact Array.getElem?_push_size)), (Below.refl _ w).alloc (Nat.le_refl _) _⟩
set_option maxRecDepth 100000 in
set_option maxHeartbeats 2000000 in
theorem down_empty (H c : Nat) (A) (w : World) (h : w.cell? ⟨H, 0, none⟩ = some (.slice A 0 c)) :
    Calls Try.prog 48 #[.pointer (some ⟨H, 0, none⟩), .int .i64 0] w fun e w' => e = .returned (.tuple #[]) ∧ w' = w := by
  go_enter Try.func48, Try.ntmps48
  go_wp2_with fail
  go_loopw [1] (fun vi wr => vi = .int .i64 0 ∧ wr = w) (fun vi _ => 0)
  case atStart => exact ⟨rfl, rfl⟩
  case round =>
    obtain ⟨rfl, rfl⟩ := hrel
    go_wp2_with fail
    refine bodyPost_ret (results_none rfl _ _ _) rfl ?_
    exact ⟨rfl, rfl⟩
end Go.Proofs.Ytpnmfhcmodoeiaa
