/- Roads: what they tell of a vertex. -/
import Derived.Test.YtpnmfhcmodoeiaaSn
namespace Go.Proofs.Ytpnmfhcmodoeiaa
open Go.RowKit
abbrev W64 := {n : Nat // n < 18446744073709551616}
abbrev XLs := SR 1 (fun v : W64 => [Value.int .u64 (v.1 : Int)])
theorem XLs.at' {B : Nat} {w : World} {A : Option Addr} {l : List W64} (h : XLs B w A l) (i : Nat) (hi : i < l.length) :
    ∃ b o : Nat, A = some ⟨b, o, none⟩ ∧ b < B ∧ w.cell? ⟨b, o + i, none⟩ = some (.int .u64 (l[i].1 : Int)) := by
  obtain ⟨b, o, hA, hb, hc⟩ := h.at_ i hi
  refine ⟨b, o, hA, hb, ?_⟩
  have := hc 0 _ rfl
  rwa [Nat.mul_one, Nat.add_zero] at this
/-- a road in block RB, its weights below block B -/
def RoadAt (B RB : Nat) (Ws : List W64) (bad avoid : Nat) (w : World) : Prop :=
  ∃ A c, w.heap[RB]? = some (.cells #[.slice A Ws.length c, .int .u32 (bad : Int), .int .u32 (avoid : Int)] 57 (0, 0)) ∧ XLs B w A Ws
def roadE (Ws : List W64) (v : Nat) (h : v < Ws.length ∧ v < 4294967295) : Edg := ⟨v, v + 1, (Ws[v]'h.1).1, 4294967295, by omega, by omega, (Ws[v]'h.1).2, by omega⟩
def roadOut (Ws : List W64) (bad v : Nat) : List Edg × Int :=
  if v = bad then ([], 7) else if h : v < Ws.length ∧ v < 4294967295 then ([roadE Ws v h], 0) else ([], 0)
theorem roadOut_bad {Ws : List W64} {bad v : Nat} (h : v = bad) : roadOut Ws bad v = ([], 7) := if_pos h
theorem roadOut_end {Ws : List W64} {bad v : Nat} (h : v ≠ bad) (h2 : Ws.length ≤ v) : roadOut Ws bad v = ([], 0) := by
  unfold roadOut; rw [if_neg h, dif_neg (by omega)]
theorem roadOut_on {Ws : List W64} {bad v : Nat} (h : v ≠ bad) (h2 : v < Ws.length ∧ v < 4294967295) : roadOut Ws bad v = ([roadE Ws v h2], 0) := by
  unfold roadOut; rw [if_neg h, dif_pos h2]
theorem roadOut_len (Ws : List W64) (bad v : Nat) : (roadOut Ws bad v).1.length ≤ 4000 := by
  unfold roadOut
  split
  · simp
  · split <;> simp
theorem road_out (B RB : Nat) (Ws : List W64) (bad avoid v : Nat) (w : World) (hI : RoadAt B RB Ws bad avoid w) (hv : v < 4294967296) (hl : Ws.length ≤ 1000) : Calls Try.prog 23 #[.pointer (some ⟨RB, 0, none⟩), .int .u32 (v : Int)] w fun e w' => ∃ A c, e = .returned (.tuple #[.slice A (roadOut Ws bad v).1.length c, .int .i64 (roadOut Ws bad v).2]) ∧ OwnS w' w.heap.size 67 4 Edg.enc (.slice A (roadOut Ws bad v).1.length c) (roadOut Ws bad v).1 ∧ Below w.heap.size w w' := by
  obtain ⟨A, c, h1, h2⟩ := hI
  have c0 : w.cell? ⟨RB, 0, none⟩ = some (.slice A Ws.length c) := cell_of_row _ _ 0 _ _ _ h1
  have c1 : w.cell? ⟨RB, 1, none⟩ = some (.int .u32 (bad : Int)) := cell_of_row _ _ 1 _ _ _ h1
  clear h1
  by_cases hb : v = bad
  · rw [roadOut_bad hb]
    have g1 : ((v : Int) == (bad : Int)) = true := by rw [hb]; exact beq_self_eq_true _
    clear hb h2
    go_enter Try.func23, Try.ntmps23
    go_wp2_with fail
    go_ret2
    exact ⟨none, 0, rfl, OwnS.nil _ _ _ _ _, Below.refl _ _⟩
  · have g1 : ((v : Int) == (bad : Int)) = false := by rw [beq_eq_false_iff_ne]; omega
    by_cases hlt : v < Ws.length
    · have hv2 : v < 1000 := by omega
      rw [roadOut_on hb ⟨hlt, by omega⟩]
      obtain ⟨b, o, hA, hbB, e0⟩ := XLs.at' h2 v hlt
      subst hA
      have i1 : ¬ (Ws.length : Int) ≤ (v : Int) := by omega
      have i2 : (0 : Int) ≤ (v : Int) := by omega
      have i3 : (v : Int) < (Ws.length : Int) := by omega
      have HE : Hid ((roadE Ws v ⟨hlt, by omega⟩).tail = v ∧ (roadE Ws v ⟨hlt, by omega⟩).head = v + 1 ∧ (roadE Ws v ⟨hlt, by omega⟩).weight = Ws[v].1 ∧ (roadE Ws v ⟨hlt, by omega⟩).mid = 4294967295) := Lib.hid ⟨rfl, rfl, rfl, rfl⟩
      generalize roadE Ws v ⟨hlt, by omega⟩ = x at *
      generalize Ws[v].1 = y at *
      have e1 : IntKind.u32.wrap ((v : Int) + 1) = ((v + 1 : Nat) : Int) := by rw [IntKind.wrap_u32]; omega
      clear hb h2 hlt
      go_enter Try.func23, Try.ntmps23
      go_wp2_with fail
      go_ret2
      obtain ⟨k1, k2, k3, k4⟩ := HE.out
      refine ⟨some ⟨w.heap.size, 0, none⟩, 1, rfl, OwnS.many [x] (fun _ => rfl) (heap_alloc_new _ _) ?_ (Nat.le_refl _) (by simp [maxLen]), (Below.refl _ _).alloc (Nat.le_refl _) _⟩
      simp [Edg.enc, k1, k2, k3, k4]
    · rw [roadOut_end hb (by omega)]
      have i1 : (Ws.length : Int) ≤ (v : Int) := by omega
      clear hb h2
      go_enter Try.func23, Try.ntmps23
      go_wp2_with fail
      go_ret2
      exact ⟨none, 0, rfl, OwnS.nil _ _ _ _ _, Below.refl _ _⟩
theorem road_shun (B RB : Nat) (Ws : List W64) (bad avoid v : Nat) (w : World) (hI : RoadAt B RB Ws bad avoid w) :
    Calls Try.prog 24 #[.pointer (some ⟨RB, 0, none⟩), .int .u32 (v : Int)] w fun e w' => e = .returned (.bool (v == avoid)) ∧ w = w' := by
  obtain ⟨A, c, h1, _⟩ := hI
  have c2 : w.cell? ⟨RB, 2, none⟩ = some (.int .u32 (avoid : Int)) := cell_of_row _ _ 2 _ _ _ h1
  have hE : ((v : Int) == (avoid : Int)) = (v == avoid) := by
    rw [Bool.eq_iff_iff, beq_iff_eq, beq_iff_eq]; omega
  clear h1
  generalize (v == avoid) = q at *
  go_enter Try.func24, Try.ntmps24
  go_wp2_with fail
  go_ret
  exact ⟨rfl, rfl⟩
theorem road_net (B RB : Nat) (Ws : List W64) (bad avoid : Nat) (hR : RB < B) (hl : Ws.length ≤ 1000) : StillC B 23 24 (.pointer (some ⟨RB, 0, none⟩)) (roadOut Ws bad) (fun v => v == avoid) (RoadAt B RB Ws bad avoid) where
  enterO := fun args w => run_enter Try.func23 (by kernel_rfl) (by rfl) args w
  enterA := fun args w => run_enter Try.func24 (by kernel_rfl) (by rfl) args w
  ask := fun v w hv hI _ => road_out B RB Ws bad avoid v w hI hv hl
  shun := fun v w _ hI => road_shun B RB Ws bad avoid v w hI
  stay := fun w w' hI hb => by
    obtain ⟨A, c, h1, h2⟩ := hI
    exact ⟨A, c, (hb RB hR).trans h1, h2.keep fun p hp => by unfold World.cell?; rw [hb p.block hp]⟩
end Go.Proofs.Ytpnmfhcmodoeiaa
