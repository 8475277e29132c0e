/- The contracts of cmp's functions and of the heap's order. -/
import Derived.Test.YtpnmfhcmodoeiaaHv
import Derived.Test.YtpnmfhcmodoeiaaG
import Derived.Test.YtpnmfhcmodoeiaaAp
import Derived.StillTailTactics
import Derived.Deep.QuietTactic
import Derived.BigQuiet
namespace Go.Proofs.Ytpnmfhcmodoeiaa
open Go.RowKit

/-- what cmp.Compare tells -/
def cmpV (a b : Nat) : Int := if a < b then -1 else if b < a then 1 else 0

theorem nan64_any (a : Nat) (w : World) : Calls Try.prog 44 #[.int .u64 a] w fun e w' => e = .returned (.bool false) ∧ w = w' := by
  go_enter Try.func44, Try.ntmps44
  go_wp2
  go_ret
  exact ⟨by simp, rfl⟩
theorem nan32_any (a : Nat) (w : World) : Calls Try.prog 45 #[.int .u32 a] w fun e w' => e = .returned (.bool false) ∧ w = w' := by
  go_enter Try.func45, Try.ntmps45
  go_wp2
  go_ret
  exact ⟨by simp, rfl⟩
theorem cmp64_any (a b : Nat) (w : World) : Calls Try.prog 38 #[.int .u64 a, .int .u64 b] w fun e w' => e = .returned (.int .i64 (cmpV a b)) ∧ w = w' := by
  have hN := Lib.hid nan64_any
  by_cases h : a < b
  · have hv : cmpV a b = -1 := if_pos h
    rw [hv]
    go_enter Try.func38, Try.ntmps38
    go_wp2_with (go_at_call 44; refine (hN.out _ _).mono ?_; rintro e w1 ⟨rfl, rfl⟩)
    go_ret
    exact ⟨rfl, rfl⟩
  · by_cases h2 : b < a
    · have hv : cmpV a b = 1 := by unfold cmpV; rw [if_neg h, if_pos h2]
      rw [hv]
      go_enter Try.func38, Try.ntmps38
      go_wp2_with (go_at_call 44; refine (hN.out _ _).mono ?_; rintro e w1 ⟨rfl, rfl⟩)
      go_ret
      exact ⟨rfl, rfl⟩
    · have hv : cmpV a b = 0 := by unfold cmpV; rw [if_neg h, if_neg h2]
      rw [hv]
      go_enter Try.func38, Try.ntmps38
      go_wp2_with (go_at_call 44; refine (hN.out _ _).mono ?_; rintro e w1 ⟨rfl, rfl⟩)
      go_ret
      exact ⟨rfl, rfl⟩
theorem cmp32_any (a b : Nat) (w : World) : Calls Try.prog 39 #[.int .u32 a, .int .u32 b] w fun e w' => e = .returned (.int .i64 (cmpV a b)) ∧ w = w' := by
  have hN := Lib.hid nan32_any
  by_cases h : a < b
  · have hv : cmpV a b = -1 := if_pos h
    rw [hv]
    go_enter Try.func39, Try.ntmps39
    go_wp2_with (go_at_call 45; refine (hN.out _ _).mono ?_; rintro e w1 ⟨rfl, rfl⟩)
    go_ret
    exact ⟨rfl, rfl⟩
  · by_cases h2 : b < a
    · have hv : cmpV a b = 1 := by unfold cmpV; rw [if_neg h, if_pos h2]
      rw [hv]
      go_enter Try.func39, Try.ntmps39
      go_wp2_with (go_at_call 45; refine (hN.out _ _).mono ?_; rintro e w1 ⟨rfl, rfl⟩)
      go_ret
      exact ⟨rfl, rfl⟩
    · have hv : cmpV a b = 0 := by unfold cmpV; rw [if_neg h, if_neg h2]
      rw [hv]
      go_enter Try.func39, Try.ntmps39
      go_wp2_with (go_at_call 45; refine (hN.out _ _).mono ?_; rintro e w1 ⟨rfl, rfl⟩)
      go_ret
      exact ⟨rfl, rfl⟩

/-- the first of two answers that is none -/
def firstV (x y : Int) : Int := if x = 0 then y else x
theorem or_any (x y : Int) (b : Nat) (w : World) (h0 : w.cell? ⟨b, 0, none⟩ = some (.int .i64 x)) (h1 : w.cell? ⟨b, 1, none⟩ = some (.int .i64 y)) :
    Calls Try.prog 37 #[.slice (some ⟨b, 0, none⟩) 2 2] w fun e w' => e = .returned (.int .i64 (firstV x y)) ∧ w = w' := by
  go_enter Try.func37, Try.ntmps37
  go_wp2
  go_loop [8] (fun vi => ∃ i : Nat, i ≤ 2 ∧ vi = .int .i64 i ∧ Hid ((1 ≤ i → x = 0) ∧ (2 ≤ i → y = 0))) (fun vi => 2 - (intOf vi).toNat)
  case atStart => exact ⟨0, by omega, rfl, (fun h => absurd h (by omega)), fun h => absurd h (by omega)⟩
  case round =>
    obtain ⟨i, hi, rfl, HX⟩ := hrel
    have h3 : i = 0 ∨ i = 1 ∨ i = 2 := by omega
    rcases h3 with rfl | rfl | rfl
    · by_cases h : x = 0
      · go_wp2
        go_round
        case rel => exact ⟨1, by omega, by go_num, (fun _ => h), fun h => absurd h (by omega)⟩
        case measure => simp [intOf]
      · have HV : Hid (firstV x y = x) := if_neg h
        go_wp2
        go_ret
        exact ⟨ret_int HV.out.symm, rfl⟩
    · by_cases h : y = 0
      · go_wp2
        go_round
        case rel => exact ⟨2, by omega, by go_num, (fun _ => HX.out.1 (by omega)), fun _ => h⟩
        case measure => simp [intOf]
      · have HV : Hid (firstV x y = y) := if_pos (HX.out.1 (by omega))
        go_wp2
        go_ret
        exact ⟨ret_int HV.out.symm, rfl⟩
    · have HV : Hid (firstV x y = 0) := by show firstV x y = 0; rw [firstV, if_pos (HX.out.1 (by omega))]; exact HX.out.2 (by omega)
      go_wp2
      go_ret
      exact ⟨ret_int HV.out.symm, rfl⟩

theorem still_eq {P : Program} {f : FuncId} {args : Array Value} {w : World} {v : Value} (h : Calls P f args w fun e w' => e = .returned v ∧ w = w') : Calls P f args w fun e w' => e = .returned v ∧ w' = w := h.mono fun _ _ h => ⟨h.1, h.2.symm⟩
def Itm.cells (x : Itm) : Array Value := #[.int .u64 (x.key : Int), .int .u32 (x.id : Int)]
def Itm.enc (x : Itm) : List Value := [.int .u64 (x.key : Int), .int .u32 (x.id : Int)]
def Itm.agg (x : Itm) : Value := .agg #[.int .u64 (x.key : Int), .int .u32 (x.id : Int)]
theorem cell_new (w : World) (cs : Array Value) (t : TypeId) (k : Nat) : (w.alloc (.cells cs t)).cell? ⟨w.heap.size, k, none⟩ = cs[k]? :=
  cell_of_row _ _ k cs t (0, 0) (heap_alloc_new w _)
/-- two items in boxes of their own -/
theorem boxes2 (a b : Itm) (w : World) : ∃ W, (w.alloc (.cells a.cells 88)).alloc (.cells b.cells 88) = W ∧ Below w.heap.size w W ∧ W.heap.size = w.heap.size + 2 ∧
    (W.cell? ⟨w.heap.size, 0, none⟩ = some (.int .u64 a.key) ∧ W.cell? ⟨w.heap.size, 1, none⟩ = some (.int .u32 a.id)) ∧
    (W.cell? ⟨w.heap.size + 1, 0, none⟩ = some (.int .u64 b.key) ∧ W.cell? ⟨w.heap.size + 1, 1, none⟩ = some (.int .u32 b.id)) := by
  refine ⟨_, rfl, ((Below.refl _ _).alloc (Nat.le_refl _) _).alloc (by simp) _, by simp, ?_, ?_⟩
  · have hb : Below (w.alloc (.cells a.cells 88)).heap.size (w.alloc (.cells a.cells 88)) ((w.alloc (.cells a.cells 88)).alloc (.cells b.cells 88)) := (Below.refl _ _).alloc (Nat.le_refl _) _
    exact ⟨(hb.cell (p := ⟨w.heap.size, 0, none⟩) (by simp)).trans (cell_new w _ _ 0), (hb.cell (p := ⟨w.heap.size, 1, none⟩) (by simp)).trans (cell_new w _ _ 1)⟩
  · have := fun k => cell_new (w.alloc (.cells a.cells 88)) b.cells 88 k
    rw [World.size_alloc] at this
    exact ⟨this 0, this 1⟩
theorem lt_first (a b : Itm) : ltB a b = decide (firstV (cmpV a.key b.key) (cmpV a.id b.id) < 0) := by
  unfold ltB firstV
  have h1 : cmpV a.key b.key = 0 ↔ a.key = b.key := by unfold cmpV; split <;> (try split) <;> omega
  have h2 : cmpV a.key b.key < 0 ↔ a.key < b.key := by unfold cmpV; split <;> (try split) <;> omega
  have h3 : cmpV a.id b.id < 0 ↔ a.id < b.id := by unfold cmpV; split <;> (try split) <;> omega
  rw [Bool.eq_iff_iff]
  simp only [decide_eq_true_eq]
  by_cases h : a.key = b.key
  · rw [if_pos (h1.2 h), h3]; omega
  · rw [if_neg (fun e => h (h1.1 e)), h2]; omega
set_option maxRecDepth 100000 in
theorem less_any (a b : Itm) (w : World) : Calls Try.prog 36 #[a.agg, b.agg] w fun e w' => e = .returned (.bool (ltB a b)) ∧ Below w.heap.size w w' := by
  obtain ⟨W, hW, hb, hs, ⟨c1, c2⟩, c3, c4⟩ := boxes2 a b w
  unfold Itm.cells at hW
  unfold Itm.agg
  go_enter Try.func36, Try.ntmps36
  go_wp2_with fail
  try rw [hW]
  clear hW
  refine wp_region_still_tail 10 (by kernel_rfl) (by kernel_rfl) ?_
  simp only [List.take_succ_cons, List.take_zero, List.drop_succ_cons, List.drop_zero]
  repeat still_step
  still_call (still_eq (cmp64_any _ _ _))
  repeat still_step
  still_call (still_eq (cmp32_any _ _ _))
  try refine wpStill_nil ?_
  change wpList _ _ _ _ _ W.drew
  have hb' : Below w.heap.size w W.drew := below_drewN hb 1
  clear c1 c2 c3 c4 hb
  generalize W.drew = V at *
  go_wp2_with fail
  refine (or_any (cmpV a.key b.key) (cmpV a.id b.id) V.heap.size _ (cell_new V _ _ 0) (cell_new V _ _ 1)).mono ?_
  rintro e w1 ⟨rfl, rfl⟩
  have hv := lt_first a b
  generalize firstV (cmpV a.key b.key) (cmpV a.id b.id) = q at *
  generalize cmpV a.key b.key = q1 at *
  generalize cmpV a.id b.id = q2 at *
  have HV := Lib.hid hv
  have HB := Lib.hid hb'
  clear hv hb'
  go_wp2_with fail
  go_ret
  exact ⟨ret_bool HV.out.symm, HB.out.alloc HB.out.size _⟩
end Go.Proofs.Ytpnmfhcmodoeiaa
