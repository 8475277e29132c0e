/- Contracts of weight.Better and milepostref03.Better: of two edges the less weight, then the less middle plus one. -/
import Derived.Test.YtbmcdgpldghddaaRows
import Derived.Test.YtbmcdgpldghddaaG
import Derived.StillTailTactics
import Derived.Deep.QuietTactic
import Derived.BigQuiet
namespace Go.Proofs.Ytbmcdgpldghddaa
open Go.RowKit

/-- an edge -/
structure Edg where
  tail : Nat
  head : Nat
  weight : Nat
  mid : Nat
  htail : tail < 4294967296
  hhead : head < 4294967296
  hweight : weight < 18446744073709551616
  hmid : mid < 4294967296
def Edg.cells (x : Edg) : Array Value := #[.int .u32 (x.tail : Int), .int .u32 (x.head : Int), .int .u64 (x.weight : Int), .int .u32 (x.mid : Int)]
def Edg.enc (x : Edg) : List Value := [.int .u32 (x.tail : Int), .int .u32 (x.head : Int), .int .u64 (x.weight : Int), .int .u32 (x.mid : Int)]
def Edg.agg (x : Edg) : Value := .agg #[.int .u32 (x.tail : Int), .int .u32 (x.head : Int), .int .u64 (x.weight : Int), .int .u32 (x.mid : Int)]
theorem Edg.ext_ {a b : Edg} (h1 : a.tail = b.tail) (h2 : a.head = b.head) (h3 : a.weight = b.weight) (h4 : a.mid = b.mid) : a = b := by
  cases a; cases b; simp only at h1 h2 h3 h4; subst h1 h2 h3 h4; rfl

/-- a middle as it is compared: none of all first -/
def nx (m : Nat) : Nat := (m + 1) % 4294967296
def betterB (a b : Edg) : Bool := decide (a.weight < b.weight ∨ a.weight = b.weight ∧ nx a.mid < nx b.mid)
/-- what cmp.Compare tells -/
def cmpV (a b : Nat) : Int := if a < b then -1 else if b < a then 1 else 0

theorem nan64_any (a : Nat) (w : World) : Calls Try.prog 23 #[.int .u64 a] w fun e w' => e = .returned (.bool false) ∧ w = w' := by
  go_enter Try.func23, Try.ntmps23
  go_wp2
  go_ret
  exact ⟨by simp, rfl⟩
theorem nan32_any (a : Nat) (w : World) : Calls Try.prog 24 #[.int .u32 a] w fun e w' => e = .returned (.bool false) ∧ w = w' := by
  go_enter Try.func24, Try.ntmps24
  go_wp2
  go_ret
  exact ⟨by simp, rfl⟩
theorem cmp64_any (a b : Nat) (w : World) : Calls Try.prog 21 #[.int .u64 a, .int .u64 b] w fun e w' => e = .returned (.int .i64 (cmpV a b)) ∧ w = w' := by
  have hN := Lib.hid nan64_any
  by_cases h : a < b
  · have hv : cmpV a b = -1 := if_pos h
    rw [hv]
    go_enter Try.func21, Try.ntmps21
    go_wp2_with (go_at_call 23; refine (hN.out _ _).mono ?_; rintro e w1 ⟨rfl, rfl⟩)
    go_ret
    exact ⟨rfl, rfl⟩
  · by_cases h2 : b < a
    · have hv : cmpV a b = 1 := by unfold cmpV; rw [if_neg h, if_pos h2]
      rw [hv]
      go_enter Try.func21, Try.ntmps21
      go_wp2_with (go_at_call 23; refine (hN.out _ _).mono ?_; rintro e w1 ⟨rfl, rfl⟩)
      go_ret
      exact ⟨rfl, rfl⟩
    · have hv : cmpV a b = 0 := by unfold cmpV; rw [if_neg h, if_neg h2]
      rw [hv]
      go_enter Try.func21, Try.ntmps21
      go_wp2_with (go_at_call 23; refine (hN.out _ _).mono ?_; rintro e w1 ⟨rfl, rfl⟩)
      go_ret
      exact ⟨rfl, rfl⟩
theorem cmp32_any (a b : Nat) (w : World) : Calls Try.prog 22 #[.int .u32 a, .int .u32 b] w fun e w' => e = .returned (.int .i64 (cmpV a b)) ∧ w = w' := by
  have hN := Lib.hid nan32_any
  by_cases h : a < b
  · have hv : cmpV a b = -1 := if_pos h
    rw [hv]
    go_enter Try.func22, Try.ntmps22
    go_wp2_with (go_at_call 24; refine (hN.out _ _).mono ?_; rintro e w1 ⟨rfl, rfl⟩)
    go_ret
    exact ⟨rfl, rfl⟩
  · by_cases h2 : b < a
    · have hv : cmpV a b = 1 := by unfold cmpV; rw [if_neg h, if_pos h2]
      rw [hv]
      go_enter Try.func22, Try.ntmps22
      go_wp2_with (go_at_call 24; refine (hN.out _ _).mono ?_; rintro e w1 ⟨rfl, rfl⟩)
      go_ret
      exact ⟨rfl, rfl⟩
    · have hv : cmpV a b = 0 := by unfold cmpV; rw [if_neg h, if_neg h2]
      rw [hv]
      go_enter Try.func22, Try.ntmps22
      go_wp2_with (go_at_call 24; refine (hN.out _ _).mono ?_; rintro e w1 ⟨rfl, rfl⟩)
      go_ret
      exact ⟨rfl, rfl⟩

/-- the first of two answers that is none -/
def firstV (x y : Int) : Int := if x = 0 then y else x
theorem first_any (x y : Int) (b : Nat) (w : World) (h0 : w.cell? ⟨b, 0, none⟩ = some (.int .i64 x)) (h1 : w.cell? ⟨b, 1, none⟩ = some (.int .i64 y)) :
    Calls Try.prog 20 #[.slice (some ⟨b, 0, none⟩) 2 2] w fun e w' => e = .returned (.int .i64 (firstV x y)) ∧ w = w' := by
  go_enter Try.func20, Try.ntmps20
  go_wp2
  go_loop [7] (fun vi => ∃ i : Nat, i ≤ 2 ∧ vi = .int .i64 i ∧ Hid ((1 ≤ i → x = 0) ∧ (2 ≤ i → y = 0))) (fun vi => 2 - (intOf vi).toNat)
  case atStart => exact ⟨0, by omega, rfl, (fun h => absurd h (by omega)), fun h => absurd h (by omega)⟩
  case round =>
    obtain ⟨i, hi, rfl, HX⟩ := hrel
    have h3 : i = 0 ∨ i = 1 ∨ i = 2 := by omega
    rcases h3 with rfl | rfl | rfl
    · by_cases h : x = 0
      · go_wp2
        go_round
        case rel => exact ⟨1, by omega, by go_num, (fun _ => h), fun h => absurd h (by omega)⟩
        case measure => simp [intOf]
      · have HV : Hid (firstV x y = x) := if_neg h
        go_wp2
        go_ret
        exact ⟨ret_int HV.out.symm, rfl⟩
    · by_cases h : y = 0
      · go_wp2
        go_round
        case rel => exact ⟨2, by omega, by go_num, (fun _ => HX.out.1 (by omega)), fun _ => h⟩
        case measure => simp [intOf]
      · have HV : Hid (firstV x y = y) := if_pos (HX.out.1 (by omega))
        go_wp2
        go_ret
        exact ⟨ret_int HV.out.symm, rfl⟩
    · have HV : Hid (firstV x y = 0) := by show firstV x y = 0; rw [firstV, if_pos (HX.out.1 (by omega))]; exact HX.out.2 (by omega)
      go_wp2
      go_ret
      exact ⟨ret_int HV.out.symm, rfl⟩

theorem better_first (a b : Edg) : betterB a b = decide (firstV (cmpV a.weight b.weight) (cmpV (nx a.mid) (nx b.mid)) < 0) := by
  unfold betterB firstV
  have h1 : cmpV a.weight b.weight = 0 ↔ a.weight = b.weight := by unfold cmpV; split <;> (try split) <;> omega
  have h2 : cmpV a.weight b.weight < 0 ↔ a.weight < b.weight := by unfold cmpV; split <;> (try split) <;> omega
  have h3 : cmpV (nx a.mid) (nx b.mid) < 0 ↔ nx a.mid < nx b.mid := by unfold cmpV; split <;> (try split) <;> omega
  rw [Bool.eq_iff_iff]
  simp only [decide_eq_true_eq]
  by_cases h : a.weight = b.weight
  · rw [if_pos (h1.2 h), h3]; omega
  · rw [if_neg (fun e => h (h1.1 e)), h2]; omega
theorem still_eq {P : Program} {f : FuncId} {args : Array Value} {w : World} {v : Value} (h : Calls P f args w fun e w' => e = .returned v ∧ w = w') : Calls P f args w fun e w' => e = .returned v ∧ w' = w := h.mono fun _ _ h => ⟨h.1, h.2.symm⟩

theorem cell_new (w : World) (cs : Array Value) (t : TypeId) (k : Nat) : (w.alloc (.cells cs t)).cell? ⟨w.heap.size, k, none⟩ = cs[k]? :=
  cell_of_row _ _ k cs t (0, 0) (heap_alloc_new w _)
/-- two edges in boxes of their own -/
theorem boxes2 (a b : Edg) (w : World) : ∃ W, (w.alloc (.cells a.cells 30)).alloc (.cells b.cells 30) = W ∧ Below w.heap.size w W ∧ W.heap.size = w.heap.size + 2 ∧
    (W.cell? ⟨w.heap.size, 2, none⟩ = some (.int .u64 a.weight) ∧ W.cell? ⟨w.heap.size, 3, none⟩ = some (.int .u32 a.mid)) ∧
    (W.cell? ⟨w.heap.size + 1, 2, none⟩ = some (.int .u64 b.weight) ∧ W.cell? ⟨w.heap.size + 1, 3, none⟩ = some (.int .u32 b.mid)) := by
  refine ⟨_, rfl, ((Below.refl _ _).alloc (Nat.le_refl _) _).alloc (by simp) _, by simp, ?_, ?_⟩
  · have hb : Below (w.alloc (.cells a.cells 30)).heap.size (w.alloc (.cells a.cells 30)) ((w.alloc (.cells a.cells 30)).alloc (.cells b.cells 30)) := (Below.refl _ _).alloc (Nat.le_refl _) _
    exact ⟨(hb.cell (p := ⟨w.heap.size, 2, none⟩) (by simp)).trans (cell_new w _ _ 2), (hb.cell (p := ⟨w.heap.size, 3, none⟩) (by simp)).trans (cell_new w _ _ 3)⟩
  · have := fun k => cell_new (w.alloc (.cells a.cells 30)) b.cells 30 k
    rw [World.size_alloc] at this
    exact ⟨this 2, this 3⟩

theorem better_any (a b : Edg) (w : World) : Calls Try.prog 16 #[a.agg, b.agg] w fun e w' => e = .returned (.bool (betterB a b)) ∧ Below w.heap.size w w' := by
  obtain ⟨W, hW, hb, hs, ⟨c1, c2⟩, c3, c4⟩ := boxes2 a b w
  unfold Edg.cells at hW
  unfold Edg.agg
  have e1 : IntKind.u32.wrap ((a.mid : Int) + 1) = (nx a.mid : Nat) := by unfold nx; rw [IntKind.wrap_u32]; omega
  have e2 : IntKind.u32.wrap ((b.mid : Int) + 1) = (nx b.mid : Nat) := by unfold nx; rw [IntKind.wrap_u32]; omega
  go_enter Try.func16, Try.ntmps16
  go_wp2_with fail
  try rw [hW]
  clear hW
  refine wp_region_still_tail 12 (by kernel_rfl) (by kernel_rfl) ?_
  simp only [List.take_succ_cons, List.take_zero, List.drop_succ_cons, List.drop_zero]
  repeat still_step
  still_call (still_eq (cmp64_any _ _ _))
  repeat still_step
  still_call (still_eq (cmp32_any _ _ _))
  try refine wpStill_nil ?_
  change wpList _ _ _ _ _ W.drew
  have hb' : Below w.heap.size w W.drew := below_drewN hb 1
  clear e1 e2 c1 c2 c3 c4 hb
  generalize W.drew = V at *
  go_wp2_with fail
  refine (first_any (cmpV a.weight b.weight) (cmpV (nx a.mid) (nx b.mid)) V.heap.size _ (cell_new V _ _ 0) (cell_new V _ _ 1)).mono ?_
  rintro e w1 ⟨rfl, rfl⟩
  have hv := better_first a b
  generalize firstV (cmpV a.weight b.weight) (cmpV (nx a.mid) (nx b.mid)) = q at *
  generalize cmpV a.weight b.weight = q1 at *
  generalize cmpV (nx a.mid) (nx b.mid) = q2 at *
  have HV := Lib.hid hv
  have HB := Lib.hid hb'
  clear hv hb'
  go_wp2_with fail
  go_ret
  exact ⟨ret_bool HV.out.symm, HB.out.alloc HB.out.size _⟩

theorem refBetter_any (a b : Edg) (w : World) : Calls Try.prog 17 #[a.agg, b.agg] w fun e w' => e = .returned (.bool (betterB a b)) ∧ Below w.heap.size w w' := by
  obtain ⟨W, hW, hb, hs, ⟨c1, c2⟩, c3, c4⟩ := boxes2 a b w
  have HV : Hid (betterB a b = decide (a.weight < b.weight ∨ a.weight = b.weight ∧ nx a.mid < nx b.mid)) := rfl
  generalize hv : betterB a b = v at *
  clear hv
  unfold Edg.cells at hW
  unfold Edg.agg
  have e1 : IntKind.u32.wrap ((a.mid : Int) + 1) = (nx a.mid : Nat) := by unfold nx; rw [IntKind.wrap_u32]; omega
  have e2 : IntKind.u32.wrap ((b.mid : Int) + 1) = (nx b.mid : Nat) := by unfold nx; rw [IntKind.wrap_u32]; omega
  generalize nx a.mid = p at *
  generalize nx b.mid = q at *
  generalize a.weight = x at *
  generalize b.weight = y at *
  have HB := Lib.hid hb
  clear hb
  by_cases h1 : x < y
  · have HR : Hid (v = true) := by show v = true; rw [HV.out]; simp [h1]
    clear HV
    go_enter Try.func17, Try.ntmps17
    go_wp2
    go_ret
    exact ⟨ret_bool HR.out.symm, HB⟩
  · by_cases h2 : x = y
    · have HR : Hid (v = decide (p < q)) := by show v = _; rw [HV.out]; simp [h2]
      clear HV
      subst h2
      go_enter Try.func17, Try.ntmps17
      go_wp2
      go_ret
      refine ⟨ret_bool ?_, HB⟩
      rw [HR.out]
    · have HR : Hid (v = false) := by show v = false; rw [HV.out]; simp [h1, h2]
      clear HV
      have h3 : ((x : Int) == (y : Int)) = false := by rw [beq_eq_false_iff_ne]; omega
      go_enter Try.func17, Try.ntmps17
      go_wp2
      go_ret
      exact ⟨ret_bool HR.out.symm, HB⟩
end Go.Proofs.Ytbmcdgpldghddaa
