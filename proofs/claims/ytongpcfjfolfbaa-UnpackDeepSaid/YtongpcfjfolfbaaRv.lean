/- The contract of along: a row's edges are just those. -/
import Derived.Test.YtongpcfjfolfbaaRw
namespace Go.Proofs.Ytongpcfjfolfbaa
open Go.RowKit

set_option maxHeartbeats 1000000 in
theorem along_any (B : Nat) (A : Option Addr) (a n c : Nat) (w : World) (hs : ELs B w A (rowL a n)) (hn : a + n + 1 < 4294967296) :
    Calls Try.prog 21 #[.slice A n c, .int .u32 (a : Int), .int .i64 (n : Int)] w fun e w' => e = .returned (.bool true) ∧ w = w' := by
  have hlen := rowL_length a n
  have HLn := Lib.hid hlen
  clear hlen
  go_enter Try.func21, Try.ntmps21
  go_wp2_with fail
  go_loop [7] (fun vi => ∃ i : Nat, i ≤ n ∧ vi = .int .i64 i) (fun vi => n - (intOf vi).toNat)
  case atStart => exact ⟨0, by omega, rfl⟩
  case round =>
    obtain ⟨i, hi, rfl⟩ := hrel
    by_cases hlt : i < n
    · obtain ⟨p, o, rfl, _, c0, c1, c2, c3⟩ := ELs.at' hs i (by rw [HLn.out]; exact hlt)
      rw [rowL_get a n i hlt, mkE_tail (by omega)] at c0
      rw [rowL_get a n i hlt, mkE_head (by omega)] at c1
      rw [rowL_get a n i hlt, mkE_weight (by omega)] at c2
      rw [rowL_get a n i hlt, mkE_mid (by omega)] at c3
      have k0 : w.cell? ⟨p, o + i * 4, none⟩ = some (.int .u32 ((a : Int) + (i : Int))) := by rw [c0]; rfl
      have k1 : w.cell? ⟨p, o + i * 4 + 1, none⟩ = some (.int .u32 ((a : Int) + (i : Int) + 1)) := by rw [c1]; rfl
      have k2 : w.cell? ⟨p, o + i * 4 + 2, none⟩ = some (.int .u64 1) := c2
      have k3 : w.cell? ⟨p, o + i * 4 + 3, none⟩ = some (.int .u32 4294967295) := c3
      have e1 : (0:Int) ≤ (i:Int) := by omega
      have e2 : (i:Int) < (n:Int) := by omega
      have e3 : (a:Int) + (i:Int) + 1 < 4294967296 := by omega
      have e4 : (i:Int) < 4294967296 := by omega
      have e5 : (a:Int) + (i:Int) < 4294967296 := by omega
      clear c0 c1 c2 c3 hs
      go_wp2_with fail
      go_round
      case rel => exact ⟨i + 1, by omega, by go_num⟩
      case measure => simp [intOf]; omega
    · go_wp2_with fail
      go_ret
      exact ⟨rfl, rfl⟩
/-- Way by a row -/
theorem way_row (S : Nat) (left : Bool) (a b : Nat) (ha : a < 4294967296) (hb : b < 4294967296) (w : World) (hS : S < w.heap.size) (h : RowAt S left false w) :
    Calls Try.prog 13 #[.func (.func 20) #[.pointer (some ⟨S, 0, none⟩)] #[], .int .u32 (a : Int), .int .u32 (b : Int)] w (WayTold w (openV (rowG left false) 65536 [] a b)) :=
  way_any _ (.pointer (some ⟨S, 0, none⟩)) (rowG left false) _ (row_tells S left) a b ha hb w h (row_stays hS)
theorem way_round (S : Nat) (a b : Nat) (ha : a < 4294967295) (hb : b < 4294967296) (w : World) (hS : S < w.heap.size) (h : RowAt S false true w) :
    Calls Try.prog 13 #[.func (.func 20) #[.pointer (some ⟨S, 0, none⟩)] #[], .int .u32 (a : Int), .int .u32 (b : Int)] w fun e w' => e = .returned (.tuple #[.slice none 0 0, .int .i64 9]) ∧ Below w.heap.size w w' :=
  way_bad _ (.pointer (some ⟨S, 0, none⟩)) (rowG false true) _ (round_tells S) a b (by omega) hb w h (row_stays hS) 9 (row_round false 65536 [] a b ha hb)
theorem rowAt_below {S : Nat} {left round : Bool} {w w' : World} (h : RowAt S left round w) (hb : Below w.heap.size w w') : RowAt S left round w' := by
  have hS := World.block_lt_of_cell? w _ h.1
  exact ⟨(hb.cell (p := ⟨S, 0, none⟩) hS).trans h.1, (hb.cell (p := ⟨S, 1, none⟩) hS).trans h.2⟩
end Go.Proofs.Ytongpcfjfolfbaa
