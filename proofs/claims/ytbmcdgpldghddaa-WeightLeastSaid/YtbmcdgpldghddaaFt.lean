/- Contracts of weight.Fits and milepostref03.Fits: whether so many times a weight stay below 2^63. -/
import Derived.Test.YtbmcdgpldghddaaSh
import Derived.Test.YtbmcdgpldghddaaWt
import Derived.Test.YtbmcdgpldghddaaG
namespace Go.Proofs.Ytbmcdgpldghddaa
open Go.RowKit

/-- do n times a weight a stay below 2^63? -/
def fitsN (n a : Nat) : Bool := decide (n * a < 9223372036854775808)
theorem fitsN_yes {n a : Nat} (h : fitsN n a = true) : n * a < 9223372036854775808 := by simpa [fitsN] using h
theorem fitsN_no {n a : Nat} (h : fitsN n a = false) : 9223372036854775808 ≤ n * a := by simpa [fitsN] using h

set_option maxHeartbeats 1000000 in
theorem wFits_any (n a : Nat) (hn : n < 4294967296) (ha : a < 18446744073709551616) (w : World) :
    Calls Try.prog 13 #[.int .u32 n, .int .u64 a] w fun e w' => e = .returned (.bool (fitsN n a)) ∧ w = w' := by
  have hm := mul64_any n a (by omega) ha w
  have hv : fitsN n a = (decide (((n * a / 18446744073709551616 : Nat) : Int) = 0) && decide (((n * a % 18446744073709551616 : Nat) : Int) < 9223372036854775808)) := by
    unfold fitsN
    rw [Bool.eq_iff_iff]
    simp only [Bool.and_eq_true, decide_eq_true_eq]
    generalize n * a = p
    omega
  rw [hv]
  generalize n * a / 18446744073709551616 = hi at *
  generalize n * a % 18446744073709551616 = lo at *
  clear hv
  have e1 : IntKind.u64.wrap (n : Int) = n := IntWalk.u64_in _ (by omega)
  go_enter Try.func13, Try.ntmps13
  go_wp2_with (go_at_call 19; refine hm.mono ?_; rintro e w1 ⟨rfl, rfl⟩)
  all_goals go_ret
  all_goals refine ⟨ret_bool ?_, rfl⟩
  all_goals simp_all

theorem refFits_zero (a : Nat) (w : World) :
    Calls Try.prog 14 #[.int .u32 0, .int .u64 a] w fun e w' => e = .returned (.bool (fitsN 0 a)) ∧ w = w' := by
  have hv : fitsN 0 a = true := by simp [fitsN]
  rw [hv]
  go_enter Try.func14, Try.ntmps14
  go_wp2
  go_ret
  exact ⟨rfl, rfl⟩
theorem refFits_pos (n a : Nat) (hn : n < 4294967296) (h0 : 0 < n) (w : World) :
    Calls Try.prog 14 #[.int .u32 n, .int .u64 a] w fun e w' => e = .returned (.bool (fitsN n a)) ∧ w = w' := by
  have hv : fitsN n a = decide (a ≤ 9223372036854775807 / n) := by
    unfold fitsN
    rw [Bool.eq_iff_iff]
    simp only [decide_eq_true_eq]
    rw [Nat.le_div_iff_mul_le h0, Nat.mul_comm]
    omega
  have e1 : IntKind.u64.wrap (n : Int) = n := IntWalk.u64_in _ (by omega)
  have e2 : ((n : Int) == 0) = false := by rw [beq_eq_false_iff_ne]; omega
  have e3 : ¬ (n : Int) = 0 := by omega
  have e4 : (9223372036854775807 : Int).tdiv n = ((9223372036854775807 / n : Nat) : Int) := by
    rw [Int.tdiv_eq_ediv_of_nonneg (by omega)]; exact (Int.natCast_ediv 9223372036854775807 n).symm
  have hq := Nat.div_le_self 9223372036854775807 n
  rw [hv]
  generalize 9223372036854775807 / n = q at *
  have e5 : IntKind.u64.wrap (q : Int) = q := IntWalk.u64_in _ (by omega)
  clear hv
  go_enter Try.func14, Try.ntmps14
  go_wp2
  go_ret
  refine ⟨ret_bool ?_, rfl⟩
  simp
theorem refFits_any (n a : Nat) (hn : n < 4294967296) (w : World) :
    Calls Try.prog 14 #[.int .u32 n, .int .u64 a] w fun e w' => e = .returned (.bool (fitsN n a)) ∧ w = w' := by
  rcases Nat.eq_zero_or_pos n with rfl | h
  · exact refFits_zero a w
  · exact refFits_pos n a hn h w
end Go.Proofs.Ytbmcdgpldghddaa
