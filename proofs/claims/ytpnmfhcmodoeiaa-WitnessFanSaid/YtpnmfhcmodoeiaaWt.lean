/- Contracts of the small functions of weights: milepostref03.Add and weight.Add tell the sum below 2^63, or 0 and false. -/
import Derived.Test.YtpnmfhcmodoeiaaRows
import Derived.WalkKit
import Derived.Lib.Hide
namespace Go.Proofs.Ytpnmfhcmodoeiaa
open Go.RowKit

/-- do two weights come to a sum? -/
def fitsB (a b : Nat) : Bool := decide (a + b < 9223372036854775808)
/-- the sum that is told -/
def sumV (a b : Nat) : Nat := if a + b < 9223372036854775808 then a + b else 0

theorem fitsB_yes {a b : Nat} (h : fitsB a b = true) : a + b < 9223372036854775808 := by simpa [fitsB] using h
theorem fitsB_no {a b : Nat} (h : fitsB a b = false) : 9223372036854775808 ≤ a + b := by simpa [fitsB] using h
theorem fitsB_mk {a b : Nat} (h : a + b < 9223372036854775808) : fitsB a b = true := by simpa [fitsB] using h
theorem fitsB_mk' {a b : Nat} (h : 9223372036854775808 ≤ a + b) : fitsB a b = false := by simpa [fitsB] using h
theorem sumV_yes {a b : Nat} (h : fitsB a b = true) : sumV a b = a + b := if_pos (fitsB_yes h)
theorem sumV_no {a b : Nat} (h : fitsB a b = false) : sumV a b = 0 := if_neg (Nat.not_lt.2 (fitsB_no h))

theorem refAdd_far (a b : Nat) (h : 9223372036854775808 ≤ (a : Int)) (w : World) :
    Calls Try.prog 28 #[.int .u64 a, .int .u64 b] w fun e w' => e = .returned (.tuple #[.int .u64 0, .bool false]) ∧ w = w' := by
  go_enter Try.func28, Try.ntmps28
  go_wp2
  go_ret2
  exact ⟨rfl, rfl⟩
theorem refAdd_over (a b : Nat) (h : (a : Int) < 9223372036854775808) (h2 : 9223372036854775808 - (a : Int) ≤ b) (w : World) :
    Calls Try.prog 28 #[.int .u64 a, .int .u64 b] w fun e w' => e = .returned (.tuple #[.int .u64 0, .bool false]) ∧ w = w' := by
  go_enter Try.func28, Try.ntmps28
  go_wp2
  go_ret2
  exact ⟨rfl, rfl⟩
theorem refAdd_ok (a b : Nat) (h : (a : Int) < 9223372036854775808) (h1 : ¬ (9223372036854775808 : Int) ≤ a) (h2 : ¬ (9223372036854775808 - (a : Int) ≤ b)) (w : World) :
    Calls Try.prog 28 #[.int .u64 a, .int .u64 b] w fun e w' => e = .returned (.tuple #[.int .u64 (a + b : Nat), .bool true]) ∧ w = w' := by
  go_enter Try.func28, Try.ntmps28
  go_wp2
  go_ret2
  exact ⟨rfl, rfl⟩

theorem refAdd_any (a b : Nat) (w : World) :
    Calls Try.prog 28 #[.int .u64 a, .int .u64 b] w fun e w' => e = .returned (.tuple #[.int .u64 (sumV a b : Nat), .bool (fitsB a b)]) ∧ w = w' := by
  cases hf : fitsB a b with
  | true =>
    have h := fitsB_yes hf
    rw [sumV_yes hf]
    exact refAdd_ok a b (by omega) (by omega) (by omega) w
  | false =>
    have h := fitsB_no hf
    rw [sumV_no hf]
    by_cases hb : 9223372036854775808 ≤ (a : Int)
    · exact refAdd_far a b hb w
    · exact refAdd_over a b (by omega) (by omega) w

theorem add64_run (x y : Nat) (s c : Int) (hs : ((x : Int) + y + 0) % 18446744073709551616 = s) (hc : ((x : Int) + y + 0) / 18446744073709551616 = c) (w : World) :
    (callFunc 43 #[.int .u64 x, .int .u64 y, .int .u64 0]).run Try.prog w = .ok (.value (.tuple #[.int .u64 s, .int .u64 c])) w := by
  rw [run_callFunc_extern Try.func43 (by kernel_rfl) (by kernel_rfl) (by kernel_rfl) (e := add64Entry) (by kernel_rfl)]
  rw [run_add64 (P := Try.prog) (w := w) x y 0 (by omega) (by omega) (by omega) (by omega), hs, hc]
  rfl

theorem wAdd_yes (a b : Nat) (h : a + b < 9223372036854775808) (w : World) :
    Calls Try.prog 32 #[.int .u64 a, .int .u64 b] w fun e w' => e = .returned (.tuple #[.int .u64 (a + b : Nat), .bool true]) ∧ w = w' := by
  have hr := fun W => add64_run a b ((a + b : Nat) : Int) 0 (by omega) (by omega) W
  have h1 : ¬ (9223372036854775808 : Int) ≤ ((a + b : Nat) : Int) := by omega
  generalize a + b = s at hr h1 h ⊢
  clear h
  go_enter Try.func32, Try.ntmps32
  go_wp2_with (simp only [hr])
  go_ret2
  exact ⟨rfl, rfl⟩
theorem wAdd_high (a b : Nat) (h : 9223372036854775808 ≤ a + b) (h' : a + b < 18446744073709551616) (w : World) :
    Calls Try.prog 32 #[.int .u64 a, .int .u64 b] w fun e w' => e = .returned (.tuple #[.int .u64 0, .bool false]) ∧ w = w' := by
  have hr := fun W => add64_run a b ((a + b : Nat) : Int) 0 (by omega) (by omega) W
  have h1 : (9223372036854775808 : Int) ≤ ((a + b : Nat) : Int) := by omega
  generalize a + b = s at hr h1 h
  clear h h'
  go_enter Try.func32, Try.ntmps32
  go_wp2_with (simp only [hr])
  go_ret2
  exact ⟨rfl, rfl⟩
theorem wAdd_over (a b : Nat) (ha : a < 18446744073709551616) (hb : b < 18446744073709551616) (h : 18446744073709551616 ≤ a + b) (w : World) :
    Calls Try.prog 32 #[.int .u64 a, .int .u64 b] w fun e w' => e = .returned (.tuple #[.int .u64 0, .bool false]) ∧ w = w' := by
  have hr := fun W => add64_run a b ((a + b - 18446744073709551616 : Nat) : Int) 1 (by omega) (by omega) W
  generalize a + b - 18446744073709551616 = s at hr
  clear h ha hb
  go_enter Try.func32, Try.ntmps32
  go_wp2_with (simp only [hr])
  go_ret2
  exact ⟨rfl, rfl⟩

theorem wAdd_any (a b : Nat) (ha : a < 18446744073709551616) (hb : b < 18446744073709551616) (w : World) :
    Calls Try.prog 32 #[.int .u64 a, .int .u64 b] w fun e w' => e = .returned (.tuple #[.int .u64 (sumV a b : Nat), .bool (fitsB a b)]) ∧ w = w' := by
  cases hf : fitsB a b with
  | true =>
    have h := fitsB_yes hf
    rw [sumV_yes hf]
    exact wAdd_yes a b h w
  | false =>
    have h := fitsB_no hf
    rw [sumV_no hf]
    by_cases hc : a + b < 18446744073709551616
    · exact wAdd_high a b h hc w
    · exact wAdd_over a b ha hb (by omega) w
end Go.Proofs.Ytpnmfhcmodoeiaa
