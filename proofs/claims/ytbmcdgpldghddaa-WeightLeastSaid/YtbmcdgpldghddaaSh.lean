/- math/bits.Mul64's contract out of the shelf, laid by the kit's own tool at this program (lay-shelf, lay-plain). -/
import Derived.Shelf.Bits.Mul64
import Derived.Test.YtbmcdgpldghddaaRows
namespace Go.Proofs.Ytbmcdgpldghddaa
open Go.Shelf Go.RowKit Go.Lib
def lays264_ren : Go.Shelf.Ren := ⟨fun | 264 => 19 | n => n, fun | 53 => 22 | 46 => 48 | n => n, fun | n => n⟩
theorem lays264 : Go.Proofs.Lays.n264 Try.prog lays264_ren := {
  mixed := by kernel_rfl
  f264 := Try.func19.trans (congrArg some (by kernel_rfl))
  t46 := Try.underlying48
  a46 := Try.isAgg48
  z46 := Try.sizeOf48
  v46 := Try.zeroValue48
  t53 := Try.underlying22
  a53 := Try.isAgg22
  z53 := Try.sizeOf22
  v53 := Try.zeroValue22 }
theorem mul64_any (x y : Nat) (hx : x < 18446744073709551616) (hy : y < 18446744073709551616) (w : World) :
    Calls Try.prog 19 #[.int .u64 x, .int .u64 y] w fun e w' => e = .returned (.tuple #[.int .u64 ((x * y / 18446744073709551616 : Nat) : Int), .int .u64 ((x * y % 18446744073709551616 : Nat) : Int)]) ∧ w' = w := Any.bits_Mul64 lays264 x y hx hy w
end Go.Proofs.Ytbmcdgpldghddaa
