/- UnpackMany: for any vertex and any number the call returns true: shortcuts each of which is two of the one below it are opened. No condition. -/
import Derived.Test.YtongpcfjfolfbaaWk
import Derived.Test.YtongpcfjfolfbaaEp
import Derived.Test.YtongpcfjfolfbaaRg
namespace Go.Proofs.Ytongpcfjfolfbaa.unpackMany
open Go.ChangeShapes Go.WideShapes Go.ChangeAt Go.RowKit Go.Deep

theorem far (a : Nat) (z : Int) (w : World) (h : z < 0 ∨ 17 < z ∨ 18 < a) : Calls Try.prog 8 #[.int .u32 (a : Int), .int .i64 z] w (LawOk w) := by
  have HW := Lib.hid works_any
  by_cases h1 : z < 0
  · go_enter Try.func8, Try.ntmps8
    go_wp2_with (go_at_call 12; refine (HW.out _).mono ?_; rintro e w1 ⟨rfl, hb1⟩)
    go_ret
    exact ⟨rfl, hb1⟩
  · by_cases h2 : 17 < z
    · go_enter Try.func8, Try.ntmps8
      go_wp2_with (go_at_call 12; refine (HW.out _).mono ?_; rintro e w1 ⟨rfl, hb1⟩)
      go_ret
      exact ⟨rfl, hb1⟩
    · have h3 : (18 : Int) < (a : Int) := by omega
      clear h
      go_enter Try.func8, Try.ntmps8
      go_wp2_with (go_at_call 12; refine (HW.out _).mono ?_; rintro e w1 ⟨rfl, hb1⟩)
      go_ret
      exact ⟨rfl, hb1⟩
theorem ringL_at {B : Nat} {w : World} {A : Option Addr} {a n : Nat} (hs : ELs B w A (ringL a n)) (i : Nat) (hi : i < n) : ∃ p o : Nat, A = some ⟨p, o, none⟩ ∧
    w.cell? ⟨p, o + i * 4, none⟩ = some (.int .u32 (((a + i) % 19 : Nat) : Int)) ∧ w.cell? ⟨p, o + i * 4 + 1, none⟩ = some (.int .u32 (((a + i + 1) % 19 : Nat) : Int)) ∧ w.cell? ⟨p, o + i * 4 + 2, none⟩ = some (.int .u64 1) ∧ w.cell? ⟨p, o + i * 4 + 3, none⟩ = some (.int .u32 4294967295) := by
  obtain ⟨p, o, rfl, _, c0, c1, c2, c3⟩ := ELs.at' hs i (by rw [ringL_length]; exact hi)
  rw [ringL_get a n i hi, mkE_tail (by omega)] at c0
  rw [ringL_get a n i hi, mkE_head (by omega)] at c1
  rw [ringL_get a n i hi, mkE_weight (by omega)] at c2
  rw [ringL_get a n i hi, mkE_mid (by omega)] at c3
  exact ⟨p, o, rfl, c0, c1, c2, c3⟩
set_option maxHeartbeats 2000000 in
theorem near0 (a : Nat) (w : World) (ha : a ≤ 18) : Calls Try.prog 8 #[.int .u32 (a : Int), .int .i64 0] w (LawOk w) := by
  have hmf : ∀ (fn : Fn) (first cap : Array Value) (w : World), (Instr.makeFunc fn first cap).run Try.prog w = .ok (.func fn first cap) w := fun _ _ _ _ => rfl
  have HW := Lib.hid works_any
  have HB := Lib.hid (show Below w.heap.size w (w.alloc (.cells #[] 52)) from (Below.refl _ _).alloc (Nat.le_refl _) _)
  have g1 : ¬ (18 : Int) < (a : Int) := by omega
  go_enter Try.func8, Try.ntmps8
  go_wp2_with fail
  go_loop [6, 7] (fun vt vk => ∃ k : Nat, k ≤ 1 ∧ vt = .int .u32 (((a + k) % 19 : Nat) : Int) ∧ vk = .int .i64 k) (fun _ vk => 1 - (intOf vk).toNat)
  case atStart => exact ⟨0, by omega, by rw [Nat.add_zero, Nat.mod_eq_of_lt (by omega)], rfl⟩
  case round =>
    obtain ⟨k, hk, rfl, rfl⟩ := hrel
    by_cases hlt : k < 1
    · have HN := Lib.hid (show (((a + k) % 19 : Nat) : Int) + 1 = ((a + k) % 19 + 1 : Nat) from rfl)
      have HN2 := Lib.hid (show ((((a + k) % 19 + 1) % 19 : Nat) : Int) = (((a + (k + 1)) % 19 : Nat) : Int) by omega)
      obtain ⟨t, ht⟩ : ∃ t, t = (a + k) % 19 := ⟨_, rfl⟩
      have ht2 : t < 19 := by omega
      rw [← ht] at HN HN2 ⊢
      have e1 : (k : Int) < 1 := by omega
      clear ht
      go_wp2_with fail
      go_round
      case rel => exact ⟨k + 1, by omega, by rw [← HN2.out]; rfl, by go_num⟩
      case measure => simp [intOf]; omega
    · have e1 : ¬ (k : Int) < 1 := by omega
      obtain rfl : k = 1 := by omega
      have hp : (2 : Nat) ^ 0 = 1 := by decide
      have ho := ring_open 0 65536 [] a (by omega) (by omega) ha (by rw [hp]; simp)
      rw [hp, List.nil_append] at ho
      replace ho := Lib.hid ho
      clear hp
      have HLn := Lib.hid (ringL_length a 1)
      obtain ⟨b, hbe⟩ : ∃ b, b = (a + 1) % 19 := ⟨_, rfl⟩
      have hb19 : b < 19 := by omega
      rw [← hbe] at ho ⊢
      clear hbe hk hlt
      go_wp2_with fail
      refine (way_ring w.heap.size a b (by omega) (by omega) _).mono ?_
      unfold WayTold
      rw [ho.out]
      dsimp only [wayV]
      rintro e w1 ⟨A1, c1, rfl, hl1, hb1⟩
      rw [HLn.out]
      have HL1 := Lib.hid hl1
      have HB1 := Lib.hid (HB.out.trans (hb1.mono HB.out.size))
      clear hl1 hb1 ho HLn
      go_wp2_with fail
      go_loop [10] (fun vi => ∃ i : Nat, i ≤ 1 ∧ vi = .int .i64 i) (fun vi => 1 - (intOf vi).toNat)
      case atStart => exact ⟨0, by omega, rfl⟩
      case round =>
        obtain ⟨i, hi, rfl⟩ := hrel
        by_cases hlt : i < 1
        · obtain ⟨p, o, rfl, k0, k1, k2, k3⟩ := ringL_at HL1.out i hlt
          have e7 : ((a : Int) + (i : Int)) % 19 = (((a + i) % 19 : Nat) : Int) := by omega
          have e8 : ((((a + i) % 19 : Nat) : Int) + 1) % 19 = (((a + i + 1) % 19 : Nat) : Int) := by omega
          have ht : (a + i) % 19 < 19 := by omega
          generalize (a + i + 1) % 19 = u at *
          generalize (a + i) % 19 = t at *
          have e1 : (0:Int) ≤ (i:Int) := by omega
          have e2 : (i:Int) < 1 := by omega
          have e3 : (a : Int) + (i : Int) < 4294967296 := by omega
          have e4 : (i : Int) < 4294967296 := by omega
          clear HL1
          go_wp2_with fail
          go_round
          case rel => exact ⟨i + 1, by omega, by go_num⟩
          case measure => simp [intOf]; omega
        · have e2 : ¬ (i:Int) < 1 := by omega
          go_wp2_with fail
          refine (HW.out _).mono ?_
          rintro e w2 ⟨rfl, hb2⟩
          have HB2 := Lib.hid hb2
          clear hb2
          go_wp2_with fail
          go_ret
          exact ⟨rfl, HB1.out.trans (HB2.out.mono HB1.out.size)⟩
set_option maxHeartbeats 2000000 in
theorem near1 (a : Nat) (w : World) (ha : a ≤ 18) : Calls Try.prog 8 #[.int .u32 (a : Int), .int .i64 1] w (LawOk w) := by
  have hmf : ∀ (fn : Fn) (first cap : Array Value) (w : World), (Instr.makeFunc fn first cap).run Try.prog w = .ok (.func fn first cap) w := fun _ _ _ _ => rfl
  have HW := Lib.hid works_any
  have HB := Lib.hid (show Below w.heap.size w (w.alloc (.cells #[] 52)) from (Below.refl _ _).alloc (Nat.le_refl _) _)
  have g1 : ¬ (18 : Int) < (a : Int) := by omega
  go_enter Try.func8, Try.ntmps8
  go_wp2_with fail
  go_loop [6, 7] (fun vt vk => ∃ k : Nat, k ≤ 2 ∧ vt = .int .u32 (((a + k) % 19 : Nat) : Int) ∧ vk = .int .i64 k) (fun _ vk => 2 - (intOf vk).toNat)
  case atStart => exact ⟨0, by omega, by rw [Nat.add_zero, Nat.mod_eq_of_lt (by omega)], rfl⟩
  case round =>
    obtain ⟨k, hk, rfl, rfl⟩ := hrel
    by_cases hlt : k < 2
    · have HN := Lib.hid (show (((a + k) % 19 : Nat) : Int) + 1 = ((a + k) % 19 + 1 : Nat) from rfl)
      have HN2 := Lib.hid (show ((((a + k) % 19 + 1) % 19 : Nat) : Int) = (((a + (k + 1)) % 19 : Nat) : Int) by omega)
      obtain ⟨t, ht⟩ : ∃ t, t = (a + k) % 19 := ⟨_, rfl⟩
      have ht2 : t < 19 := by omega
      rw [← ht] at HN HN2 ⊢
      have e1 : (k : Int) < 2 := by omega
      clear ht
      go_wp2_with fail
      go_round
      case rel => exact ⟨k + 1, by omega, by rw [← HN2.out]; rfl, by go_num⟩
      case measure => simp [intOf]; omega
    · have e1 : ¬ (k : Int) < 2 := by omega
      obtain rfl : k = 2 := by omega
      have hp : (2 : Nat) ^ 1 = 2 := by decide
      have ho := ring_open 1 65536 [] a (by omega) (by omega) ha (by rw [hp]; simp)
      rw [hp, List.nil_append] at ho
      replace ho := Lib.hid ho
      clear hp
      have HLn := Lib.hid (ringL_length a 2)
      obtain ⟨b, hbe⟩ : ∃ b, b = (a + 2) % 19 := ⟨_, rfl⟩
      have hb19 : b < 19 := by omega
      rw [← hbe] at ho ⊢
      clear hbe hk hlt
      go_wp2_with fail
      refine (way_ring w.heap.size a b (by omega) (by omega) _).mono ?_
      unfold WayTold
      rw [ho.out]
      dsimp only [wayV]
      rintro e w1 ⟨A1, c1, rfl, hl1, hb1⟩
      rw [HLn.out]
      have HL1 := Lib.hid hl1
      have HB1 := Lib.hid (HB.out.trans (hb1.mono HB.out.size))
      clear hl1 hb1 ho HLn
      go_wp2_with fail
      go_loop [10] (fun vi => ∃ i : Nat, i ≤ 2 ∧ vi = .int .i64 i) (fun vi => 2 - (intOf vi).toNat)
      case atStart => exact ⟨0, by omega, rfl⟩
      case round =>
        obtain ⟨i, hi, rfl⟩ := hrel
        by_cases hlt : i < 2
        · obtain ⟨p, o, rfl, k0, k1, k2, k3⟩ := ringL_at HL1.out i hlt
          have e7 : ((a : Int) + (i : Int)) % 19 = (((a + i) % 19 : Nat) : Int) := by omega
          have e8 : ((((a + i) % 19 : Nat) : Int) + 1) % 19 = (((a + i + 1) % 19 : Nat) : Int) := by omega
          have ht : (a + i) % 19 < 19 := by omega
          generalize (a + i + 1) % 19 = u at *
          generalize (a + i) % 19 = t at *
          have e1 : (0:Int) ≤ (i:Int) := by omega
          have e2 : (i:Int) < 2 := by omega
          have e3 : (a : Int) + (i : Int) < 4294967296 := by omega
          have e4 : (i : Int) < 4294967296 := by omega
          clear HL1
          go_wp2_with fail
          go_round
          case rel => exact ⟨i + 1, by omega, by go_num⟩
          case measure => simp [intOf]; omega
        · have e2 : ¬ (i:Int) < 2 := by omega
          go_wp2_with fail
          refine (HW.out _).mono ?_
          rintro e w2 ⟨rfl, hb2⟩
          have HB2 := Lib.hid hb2
          clear hb2
          go_wp2_with fail
          go_ret
          exact ⟨rfl, HB1.out.trans (HB2.out.mono HB1.out.size)⟩
set_option maxHeartbeats 2000000 in
theorem near2 (a : Nat) (w : World) (ha : a ≤ 18) : Calls Try.prog 8 #[.int .u32 (a : Int), .int .i64 2] w (LawOk w) := by
  have hmf : ∀ (fn : Fn) (first cap : Array Value) (w : World), (Instr.makeFunc fn first cap).run Try.prog w = .ok (.func fn first cap) w := fun _ _ _ _ => rfl
  have HW := Lib.hid works_any
  have HB := Lib.hid (show Below w.heap.size w (w.alloc (.cells #[] 52)) from (Below.refl _ _).alloc (Nat.le_refl _) _)
  have g1 : ¬ (18 : Int) < (a : Int) := by omega
  go_enter Try.func8, Try.ntmps8
  go_wp2_with fail
  go_loop [6, 7] (fun vt vk => ∃ k : Nat, k ≤ 4 ∧ vt = .int .u32 (((a + k) % 19 : Nat) : Int) ∧ vk = .int .i64 k) (fun _ vk => 4 - (intOf vk).toNat)
  case atStart => exact ⟨0, by omega, by rw [Nat.add_zero, Nat.mod_eq_of_lt (by omega)], rfl⟩
  case round =>
    obtain ⟨k, hk, rfl, rfl⟩ := hrel
    by_cases hlt : k < 4
    · have HN := Lib.hid (show (((a + k) % 19 : Nat) : Int) + 1 = ((a + k) % 19 + 1 : Nat) from rfl)
      have HN2 := Lib.hid (show ((((a + k) % 19 + 1) % 19 : Nat) : Int) = (((a + (k + 1)) % 19 : Nat) : Int) by omega)
      obtain ⟨t, ht⟩ : ∃ t, t = (a + k) % 19 := ⟨_, rfl⟩
      have ht2 : t < 19 := by omega
      rw [← ht] at HN HN2 ⊢
      have e1 : (k : Int) < 4 := by omega
      clear ht
      go_wp2_with fail
      go_round
      case rel => exact ⟨k + 1, by omega, by rw [← HN2.out]; rfl, by go_num⟩
      case measure => simp [intOf]; omega
    · have e1 : ¬ (k : Int) < 4 := by omega
      obtain rfl : k = 4 := by omega
      have hp : (2 : Nat) ^ 2 = 4 := by decide
      have ho := ring_open 2 65536 [] a (by omega) (by omega) ha (by rw [hp]; simp)
      rw [hp, List.nil_append] at ho
      replace ho := Lib.hid ho
      clear hp
      have HLn := Lib.hid (ringL_length a 4)
      obtain ⟨b, hbe⟩ : ∃ b, b = (a + 4) % 19 := ⟨_, rfl⟩
      have hb19 : b < 19 := by omega
      rw [← hbe] at ho ⊢
      clear hbe hk hlt
      go_wp2_with fail
      refine (way_ring w.heap.size a b (by omega) (by omega) _).mono ?_
      unfold WayTold
      rw [ho.out]
      dsimp only [wayV]
      rintro e w1 ⟨A1, c1, rfl, hl1, hb1⟩
      rw [HLn.out]
      have HL1 := Lib.hid hl1
      have HB1 := Lib.hid (HB.out.trans (hb1.mono HB.out.size))
      clear hl1 hb1 ho HLn
      go_wp2_with fail
      go_loop [10] (fun vi => ∃ i : Nat, i ≤ 4 ∧ vi = .int .i64 i) (fun vi => 4 - (intOf vi).toNat)
      case atStart => exact ⟨0, by omega, rfl⟩
      case round =>
        obtain ⟨i, hi, rfl⟩ := hrel
        by_cases hlt : i < 4
        · obtain ⟨p, o, rfl, k0, k1, k2, k3⟩ := ringL_at HL1.out i hlt
          have e7 : ((a : Int) + (i : Int)) % 19 = (((a + i) % 19 : Nat) : Int) := by omega
          have e8 : ((((a + i) % 19 : Nat) : Int) + 1) % 19 = (((a + i + 1) % 19 : Nat) : Int) := by omega
          have ht : (a + i) % 19 < 19 := by omega
          generalize (a + i + 1) % 19 = u at *
          generalize (a + i) % 19 = t at *
          have e1 : (0:Int) ≤ (i:Int) := by omega
          have e2 : (i:Int) < 4 := by omega
          have e3 : (a : Int) + (i : Int) < 4294967296 := by omega
          have e4 : (i : Int) < 4294967296 := by omega
          clear HL1
          go_wp2_with fail
          go_round
          case rel => exact ⟨i + 1, by omega, by go_num⟩
          case measure => simp [intOf]; omega
        · have e2 : ¬ (i:Int) < 4 := by omega
          go_wp2_with fail
          refine (HW.out _).mono ?_
          rintro e w2 ⟨rfl, hb2⟩
          have HB2 := Lib.hid hb2
          clear hb2
          go_wp2_with fail
          go_ret
          exact ⟨rfl, HB1.out.trans (HB2.out.mono HB1.out.size)⟩
set_option maxHeartbeats 2000000 in
theorem near3 (a : Nat) (w : World) (ha : a ≤ 18) : Calls Try.prog 8 #[.int .u32 (a : Int), .int .i64 3] w (LawOk w) := by
  have hmf : ∀ (fn : Fn) (first cap : Array Value) (w : World), (Instr.makeFunc fn first cap).run Try.prog w = .ok (.func fn first cap) w := fun _ _ _ _ => rfl
  have HW := Lib.hid works_any
  have HB := Lib.hid (show Below w.heap.size w (w.alloc (.cells #[] 52)) from (Below.refl _ _).alloc (Nat.le_refl _) _)
  have g1 : ¬ (18 : Int) < (a : Int) := by omega
  go_enter Try.func8, Try.ntmps8
  go_wp2_with fail
  go_loop [6, 7] (fun vt vk => ∃ k : Nat, k ≤ 8 ∧ vt = .int .u32 (((a + k) % 19 : Nat) : Int) ∧ vk = .int .i64 k) (fun _ vk => 8 - (intOf vk).toNat)
  case atStart => exact ⟨0, by omega, by rw [Nat.add_zero, Nat.mod_eq_of_lt (by omega)], rfl⟩
  case round =>
    obtain ⟨k, hk, rfl, rfl⟩ := hrel
    by_cases hlt : k < 8
    · have HN := Lib.hid (show (((a + k) % 19 : Nat) : Int) + 1 = ((a + k) % 19 + 1 : Nat) from rfl)
      have HN2 := Lib.hid (show ((((a + k) % 19 + 1) % 19 : Nat) : Int) = (((a + (k + 1)) % 19 : Nat) : Int) by omega)
      obtain ⟨t, ht⟩ : ∃ t, t = (a + k) % 19 := ⟨_, rfl⟩
      have ht2 : t < 19 := by omega
      rw [← ht] at HN HN2 ⊢
      have e1 : (k : Int) < 8 := by omega
      clear ht
      go_wp2_with fail
      go_round
      case rel => exact ⟨k + 1, by omega, by rw [← HN2.out]; rfl, by go_num⟩
      case measure => simp [intOf]; omega
    · have e1 : ¬ (k : Int) < 8 := by omega
      obtain rfl : k = 8 := by omega
      have hp : (2 : Nat) ^ 3 = 8 := by decide
      have ho := ring_open 3 65536 [] a (by omega) (by omega) ha (by rw [hp]; simp)
      rw [hp, List.nil_append] at ho
      replace ho := Lib.hid ho
      clear hp
      have HLn := Lib.hid (ringL_length a 8)
      obtain ⟨b, hbe⟩ : ∃ b, b = (a + 8) % 19 := ⟨_, rfl⟩
      have hb19 : b < 19 := by omega
      rw [← hbe] at ho ⊢
      clear hbe hk hlt
      go_wp2_with fail
      refine (way_ring w.heap.size a b (by omega) (by omega) _).mono ?_
      unfold WayTold
      rw [ho.out]
      dsimp only [wayV]
      rintro e w1 ⟨A1, c1, rfl, hl1, hb1⟩
      rw [HLn.out]
      have HL1 := Lib.hid hl1
      have HB1 := Lib.hid (HB.out.trans (hb1.mono HB.out.size))
      clear hl1 hb1 ho HLn
      go_wp2_with fail
      go_loop [10] (fun vi => ∃ i : Nat, i ≤ 8 ∧ vi = .int .i64 i) (fun vi => 8 - (intOf vi).toNat)
      case atStart => exact ⟨0, by omega, rfl⟩
      case round =>
        obtain ⟨i, hi, rfl⟩ := hrel
        by_cases hlt : i < 8
        · obtain ⟨p, o, rfl, k0, k1, k2, k3⟩ := ringL_at HL1.out i hlt
          have e7 : ((a : Int) + (i : Int)) % 19 = (((a + i) % 19 : Nat) : Int) := by omega
          have e8 : ((((a + i) % 19 : Nat) : Int) + 1) % 19 = (((a + i + 1) % 19 : Nat) : Int) := by omega
          have ht : (a + i) % 19 < 19 := by omega
          generalize (a + i + 1) % 19 = u at *
          generalize (a + i) % 19 = t at *
          have e1 : (0:Int) ≤ (i:Int) := by omega
          have e2 : (i:Int) < 8 := by omega
          have e3 : (a : Int) + (i : Int) < 4294967296 := by omega
          have e4 : (i : Int) < 4294967296 := by omega
          clear HL1
          go_wp2_with fail
          go_round
          case rel => exact ⟨i + 1, by omega, by go_num⟩
          case measure => simp [intOf]; omega
        · have e2 : ¬ (i:Int) < 8 := by omega
          go_wp2_with fail
          refine (HW.out _).mono ?_
          rintro e w2 ⟨rfl, hb2⟩
          have HB2 := Lib.hid hb2
          clear hb2
          go_wp2_with fail
          go_ret
          exact ⟨rfl, HB1.out.trans (HB2.out.mono HB1.out.size)⟩
set_option maxHeartbeats 2000000 in
theorem near4 (a : Nat) (w : World) (ha : a ≤ 18) : Calls Try.prog 8 #[.int .u32 (a : Int), .int .i64 4] w (LawOk w) := by
  have hmf : ∀ (fn : Fn) (first cap : Array Value) (w : World), (Instr.makeFunc fn first cap).run Try.prog w = .ok (.func fn first cap) w := fun _ _ _ _ => rfl
  have HW := Lib.hid works_any
  have HB := Lib.hid (show Below w.heap.size w (w.alloc (.cells #[] 52)) from (Below.refl _ _).alloc (Nat.le_refl _) _)
  have g1 : ¬ (18 : Int) < (a : Int) := by omega
  go_enter Try.func8, Try.ntmps8
  go_wp2_with fail
  go_loop [6, 7] (fun vt vk => ∃ k : Nat, k ≤ 16 ∧ vt = .int .u32 (((a + k) % 19 : Nat) : Int) ∧ vk = .int .i64 k) (fun _ vk => 16 - (intOf vk).toNat)
  case atStart => exact ⟨0, by omega, by rw [Nat.add_zero, Nat.mod_eq_of_lt (by omega)], rfl⟩
  case round =>
    obtain ⟨k, hk, rfl, rfl⟩ := hrel
    by_cases hlt : k < 16
    · have HN := Lib.hid (show (((a + k) % 19 : Nat) : Int) + 1 = ((a + k) % 19 + 1 : Nat) from rfl)
      have HN2 := Lib.hid (show ((((a + k) % 19 + 1) % 19 : Nat) : Int) = (((a + (k + 1)) % 19 : Nat) : Int) by omega)
      obtain ⟨t, ht⟩ : ∃ t, t = (a + k) % 19 := ⟨_, rfl⟩
      have ht2 : t < 19 := by omega
      rw [← ht] at HN HN2 ⊢
      have e1 : (k : Int) < 16 := by omega
      clear ht
      go_wp2_with fail
      go_round
      case rel => exact ⟨k + 1, by omega, by rw [← HN2.out]; rfl, by go_num⟩
      case measure => simp [intOf]; omega
    · have e1 : ¬ (k : Int) < 16 := by omega
      obtain rfl : k = 16 := by omega
      have hp : (2 : Nat) ^ 4 = 16 := by decide
      have ho := ring_open 4 65536 [] a (by omega) (by omega) ha (by rw [hp]; simp)
      rw [hp, List.nil_append] at ho
      replace ho := Lib.hid ho
      clear hp
      have HLn := Lib.hid (ringL_length a 16)
      obtain ⟨b, hbe⟩ : ∃ b, b = (a + 16) % 19 := ⟨_, rfl⟩
      have hb19 : b < 19 := by omega
      rw [← hbe] at ho ⊢
      clear hbe hk hlt
      go_wp2_with fail
      refine (way_ring w.heap.size a b (by omega) (by omega) _).mono ?_
      unfold WayTold
      rw [ho.out]
      dsimp only [wayV]
      rintro e w1 ⟨A1, c1, rfl, hl1, hb1⟩
      rw [HLn.out]
      have HL1 := Lib.hid hl1
      have HB1 := Lib.hid (HB.out.trans (hb1.mono HB.out.size))
      clear hl1 hb1 ho HLn
      go_wp2_with fail
      go_loop [10] (fun vi => ∃ i : Nat, i ≤ 16 ∧ vi = .int .i64 i) (fun vi => 16 - (intOf vi).toNat)
      case atStart => exact ⟨0, by omega, rfl⟩
      case round =>
        obtain ⟨i, hi, rfl⟩ := hrel
        by_cases hlt : i < 16
        · obtain ⟨p, o, rfl, k0, k1, k2, k3⟩ := ringL_at HL1.out i hlt
          have e7 : ((a : Int) + (i : Int)) % 19 = (((a + i) % 19 : Nat) : Int) := by omega
          have e8 : ((((a + i) % 19 : Nat) : Int) + 1) % 19 = (((a + i + 1) % 19 : Nat) : Int) := by omega
          have ht : (a + i) % 19 < 19 := by omega
          generalize (a + i + 1) % 19 = u at *
          generalize (a + i) % 19 = t at *
          have e1 : (0:Int) ≤ (i:Int) := by omega
          have e2 : (i:Int) < 16 := by omega
          have e3 : (a : Int) + (i : Int) < 4294967296 := by omega
          have e4 : (i : Int) < 4294967296 := by omega
          clear HL1
          go_wp2_with fail
          go_round
          case rel => exact ⟨i + 1, by omega, by go_num⟩
          case measure => simp [intOf]; omega
        · have e2 : ¬ (i:Int) < 16 := by omega
          go_wp2_with fail
          refine (HW.out _).mono ?_
          rintro e w2 ⟨rfl, hb2⟩
          have HB2 := Lib.hid hb2
          clear hb2
          go_wp2_with fail
          go_ret
          exact ⟨rfl, HB1.out.trans (HB2.out.mono HB1.out.size)⟩
set_option maxHeartbeats 2000000 in
theorem near5 (a : Nat) (w : World) (ha : a ≤ 18) : Calls Try.prog 8 #[.int .u32 (a : Int), .int .i64 5] w (LawOk w) := by
  have hmf : ∀ (fn : Fn) (first cap : Array Value) (w : World), (Instr.makeFunc fn first cap).run Try.prog w = .ok (.func fn first cap) w := fun _ _ _ _ => rfl
  have HW := Lib.hid works_any
  have HB := Lib.hid (show Below w.heap.size w (w.alloc (.cells #[] 52)) from (Below.refl _ _).alloc (Nat.le_refl _) _)
  have g1 : ¬ (18 : Int) < (a : Int) := by omega
  go_enter Try.func8, Try.ntmps8
  go_wp2_with fail
  go_loop [6, 7] (fun vt vk => ∃ k : Nat, k ≤ 32 ∧ vt = .int .u32 (((a + k) % 19 : Nat) : Int) ∧ vk = .int .i64 k) (fun _ vk => 32 - (intOf vk).toNat)
  case atStart => exact ⟨0, by omega, by rw [Nat.add_zero, Nat.mod_eq_of_lt (by omega)], rfl⟩
  case round =>
    obtain ⟨k, hk, rfl, rfl⟩ := hrel
    by_cases hlt : k < 32
    · have HN := Lib.hid (show (((a + k) % 19 : Nat) : Int) + 1 = ((a + k) % 19 + 1 : Nat) from rfl)
      have HN2 := Lib.hid (show ((((a + k) % 19 + 1) % 19 : Nat) : Int) = (((a + (k + 1)) % 19 : Nat) : Int) by omega)
      obtain ⟨t, ht⟩ : ∃ t, t = (a + k) % 19 := ⟨_, rfl⟩
      have ht2 : t < 19 := by omega
      rw [← ht] at HN HN2 ⊢
      have e1 : (k : Int) < 32 := by omega
      clear ht
      go_wp2_with fail
      go_round
      case rel => exact ⟨k + 1, by omega, by rw [← HN2.out]; rfl, by go_num⟩
      case measure => simp [intOf]; omega
    · have e1 : ¬ (k : Int) < 32 := by omega
      obtain rfl : k = 32 := by omega
      have hp : (2 : Nat) ^ 5 = 32 := by decide
      have ho := ring_open 5 65536 [] a (by omega) (by omega) ha (by rw [hp]; simp)
      rw [hp, List.nil_append] at ho
      replace ho := Lib.hid ho
      clear hp
      have HLn := Lib.hid (ringL_length a 32)
      obtain ⟨b, hbe⟩ : ∃ b, b = (a + 32) % 19 := ⟨_, rfl⟩
      have hb19 : b < 19 := by omega
      rw [← hbe] at ho ⊢
      clear hbe hk hlt
      go_wp2_with fail
      refine (way_ring w.heap.size a b (by omega) (by omega) _).mono ?_
      unfold WayTold
      rw [ho.out]
      dsimp only [wayV]
      rintro e w1 ⟨A1, c1, rfl, hl1, hb1⟩
      rw [HLn.out]
      have HL1 := Lib.hid hl1
      have HB1 := Lib.hid (HB.out.trans (hb1.mono HB.out.size))
      clear hl1 hb1 ho HLn
      go_wp2_with fail
      go_loop [10] (fun vi => ∃ i : Nat, i ≤ 32 ∧ vi = .int .i64 i) (fun vi => 32 - (intOf vi).toNat)
      case atStart => exact ⟨0, by omega, rfl⟩
      case round =>
        obtain ⟨i, hi, rfl⟩ := hrel
        by_cases hlt : i < 32
        · obtain ⟨p, o, rfl, k0, k1, k2, k3⟩ := ringL_at HL1.out i hlt
          have e7 : ((a : Int) + (i : Int)) % 19 = (((a + i) % 19 : Nat) : Int) := by omega
          have e8 : ((((a + i) % 19 : Nat) : Int) + 1) % 19 = (((a + i + 1) % 19 : Nat) : Int) := by omega
          have ht : (a + i) % 19 < 19 := by omega
          generalize (a + i + 1) % 19 = u at *
          generalize (a + i) % 19 = t at *
          have e1 : (0:Int) ≤ (i:Int) := by omega
          have e2 : (i:Int) < 32 := by omega
          have e3 : (a : Int) + (i : Int) < 4294967296 := by omega
          have e4 : (i : Int) < 4294967296 := by omega
          clear HL1
          go_wp2_with fail
          go_round
          case rel => exact ⟨i + 1, by omega, by go_num⟩
          case measure => simp [intOf]; omega
        · have e2 : ¬ (i:Int) < 32 := by omega
          go_wp2_with fail
          refine (HW.out _).mono ?_
          rintro e w2 ⟨rfl, hb2⟩
          have HB2 := Lib.hid hb2
          clear hb2
          go_wp2_with fail
          go_ret
          exact ⟨rfl, HB1.out.trans (HB2.out.mono HB1.out.size)⟩
set_option maxHeartbeats 2000000 in
theorem near6 (a : Nat) (w : World) (ha : a ≤ 18) : Calls Try.prog 8 #[.int .u32 (a : Int), .int .i64 6] w (LawOk w) := by
  have hmf : ∀ (fn : Fn) (first cap : Array Value) (w : World), (Instr.makeFunc fn first cap).run Try.prog w = .ok (.func fn first cap) w := fun _ _ _ _ => rfl
  have HW := Lib.hid works_any
  have HB := Lib.hid (show Below w.heap.size w (w.alloc (.cells #[] 52)) from (Below.refl _ _).alloc (Nat.le_refl _) _)
  have g1 : ¬ (18 : Int) < (a : Int) := by omega
  go_enter Try.func8, Try.ntmps8
  go_wp2_with fail
  go_loop [6, 7] (fun vt vk => ∃ k : Nat, k ≤ 64 ∧ vt = .int .u32 (((a + k) % 19 : Nat) : Int) ∧ vk = .int .i64 k) (fun _ vk => 64 - (intOf vk).toNat)
  case atStart => exact ⟨0, by omega, by rw [Nat.add_zero, Nat.mod_eq_of_lt (by omega)], rfl⟩
  case round =>
    obtain ⟨k, hk, rfl, rfl⟩ := hrel
    by_cases hlt : k < 64
    · have HN := Lib.hid (show (((a + k) % 19 : Nat) : Int) + 1 = ((a + k) % 19 + 1 : Nat) from rfl)
      have HN2 := Lib.hid (show ((((a + k) % 19 + 1) % 19 : Nat) : Int) = (((a + (k + 1)) % 19 : Nat) : Int) by omega)
      obtain ⟨t, ht⟩ : ∃ t, t = (a + k) % 19 := ⟨_, rfl⟩
      have ht2 : t < 19 := by omega
      rw [← ht] at HN HN2 ⊢
      have e1 : (k : Int) < 64 := by omega
      clear ht
      go_wp2_with fail
      go_round
      case rel => exact ⟨k + 1, by omega, by rw [← HN2.out]; rfl, by go_num⟩
      case measure => simp [intOf]; omega
    · have e1 : ¬ (k : Int) < 64 := by omega
      obtain rfl : k = 64 := by omega
      have hp : (2 : Nat) ^ 6 = 64 := by decide
      have ho := ring_open 6 65536 [] a (by omega) (by omega) ha (by rw [hp]; simp)
      rw [hp, List.nil_append] at ho
      replace ho := Lib.hid ho
      clear hp
      have HLn := Lib.hid (ringL_length a 64)
      obtain ⟨b, hbe⟩ : ∃ b, b = (a + 64) % 19 := ⟨_, rfl⟩
      have hb19 : b < 19 := by omega
      rw [← hbe] at ho ⊢
      clear hbe hk hlt
      go_wp2_with fail
      refine (way_ring w.heap.size a b (by omega) (by omega) _).mono ?_
      unfold WayTold
      rw [ho.out]
      dsimp only [wayV]
      rintro e w1 ⟨A1, c1, rfl, hl1, hb1⟩
      rw [HLn.out]
      have HL1 := Lib.hid hl1
      have HB1 := Lib.hid (HB.out.trans (hb1.mono HB.out.size))
      clear hl1 hb1 ho HLn
      go_wp2_with fail
      go_loop [10] (fun vi => ∃ i : Nat, i ≤ 64 ∧ vi = .int .i64 i) (fun vi => 64 - (intOf vi).toNat)
      case atStart => exact ⟨0, by omega, rfl⟩
      case round =>
        obtain ⟨i, hi, rfl⟩ := hrel
        by_cases hlt : i < 64
        · obtain ⟨p, o, rfl, k0, k1, k2, k3⟩ := ringL_at HL1.out i hlt
          have e7 : ((a : Int) + (i : Int)) % 19 = (((a + i) % 19 : Nat) : Int) := by omega
          have e8 : ((((a + i) % 19 : Nat) : Int) + 1) % 19 = (((a + i + 1) % 19 : Nat) : Int) := by omega
          have ht : (a + i) % 19 < 19 := by omega
          generalize (a + i + 1) % 19 = u at *
          generalize (a + i) % 19 = t at *
          have e1 : (0:Int) ≤ (i:Int) := by omega
          have e2 : (i:Int) < 64 := by omega
          have e3 : (a : Int) + (i : Int) < 4294967296 := by omega
          have e4 : (i : Int) < 4294967296 := by omega
          clear HL1
          go_wp2_with fail
          go_round
          case rel => exact ⟨i + 1, by omega, by go_num⟩
          case measure => simp [intOf]; omega
        · have e2 : ¬ (i:Int) < 64 := by omega
          go_wp2_with fail
          refine (HW.out _).mono ?_
          rintro e w2 ⟨rfl, hb2⟩
          have HB2 := Lib.hid hb2
          clear hb2
          go_wp2_with fail
          go_ret
          exact ⟨rfl, HB1.out.trans (HB2.out.mono HB1.out.size)⟩
set_option maxHeartbeats 2000000 in
theorem near7 (a : Nat) (w : World) (ha : a ≤ 18) : Calls Try.prog 8 #[.int .u32 (a : Int), .int .i64 7] w (LawOk w) := by
  have hmf : ∀ (fn : Fn) (first cap : Array Value) (w : World), (Instr.makeFunc fn first cap).run Try.prog w = .ok (.func fn first cap) w := fun _ _ _ _ => rfl
  have HW := Lib.hid works_any
  have HB := Lib.hid (show Below w.heap.size w (w.alloc (.cells #[] 52)) from (Below.refl _ _).alloc (Nat.le_refl _) _)
  have g1 : ¬ (18 : Int) < (a : Int) := by omega
  go_enter Try.func8, Try.ntmps8
  go_wp2_with fail
  go_loop [6, 7] (fun vt vk => ∃ k : Nat, k ≤ 128 ∧ vt = .int .u32 (((a + k) % 19 : Nat) : Int) ∧ vk = .int .i64 k) (fun _ vk => 128 - (intOf vk).toNat)
  case atStart => exact ⟨0, by omega, by rw [Nat.add_zero, Nat.mod_eq_of_lt (by omega)], rfl⟩
  case round =>
    obtain ⟨k, hk, rfl, rfl⟩ := hrel
    by_cases hlt : k < 128
    · have HN := Lib.hid (show (((a + k) % 19 : Nat) : Int) + 1 = ((a + k) % 19 + 1 : Nat) from rfl)
      have HN2 := Lib.hid (show ((((a + k) % 19 + 1) % 19 : Nat) : Int) = (((a + (k + 1)) % 19 : Nat) : Int) by omega)
      obtain ⟨t, ht⟩ : ∃ t, t = (a + k) % 19 := ⟨_, rfl⟩
      have ht2 : t < 19 := by omega
      rw [← ht] at HN HN2 ⊢
      have e1 : (k : Int) < 128 := by omega
      clear ht
      go_wp2_with fail
      go_round
      case rel => exact ⟨k + 1, by omega, by rw [← HN2.out]; rfl, by go_num⟩
      case measure => simp [intOf]; omega
    · have e1 : ¬ (k : Int) < 128 := by omega
      obtain rfl : k = 128 := by omega
      have hp : (2 : Nat) ^ 7 = 128 := by decide
      have ho := ring_open 7 65536 [] a (by omega) (by omega) ha (by rw [hp]; simp)
      rw [hp, List.nil_append] at ho
      replace ho := Lib.hid ho
      clear hp
      have HLn := Lib.hid (ringL_length a 128)
      obtain ⟨b, hbe⟩ : ∃ b, b = (a + 128) % 19 := ⟨_, rfl⟩
      have hb19 : b < 19 := by omega
      rw [← hbe] at ho ⊢
      clear hbe hk hlt
      go_wp2_with fail
      refine (way_ring w.heap.size a b (by omega) (by omega) _).mono ?_
      unfold WayTold
      rw [ho.out]
      dsimp only [wayV]
      rintro e w1 ⟨A1, c1, rfl, hl1, hb1⟩
      rw [HLn.out]
      have HL1 := Lib.hid hl1
      have HB1 := Lib.hid (HB.out.trans (hb1.mono HB.out.size))
      clear hl1 hb1 ho HLn
      go_wp2_with fail
      go_loop [10] (fun vi => ∃ i : Nat, i ≤ 128 ∧ vi = .int .i64 i) (fun vi => 128 - (intOf vi).toNat)
      case atStart => exact ⟨0, by omega, rfl⟩
      case round =>
        obtain ⟨i, hi, rfl⟩ := hrel
        by_cases hlt : i < 128
        · obtain ⟨p, o, rfl, k0, k1, k2, k3⟩ := ringL_at HL1.out i hlt
          have e7 : ((a : Int) + (i : Int)) % 19 = (((a + i) % 19 : Nat) : Int) := by omega
          have e8 : ((((a + i) % 19 : Nat) : Int) + 1) % 19 = (((a + i + 1) % 19 : Nat) : Int) := by omega
          have ht : (a + i) % 19 < 19 := by omega
          generalize (a + i + 1) % 19 = u at *
          generalize (a + i) % 19 = t at *
          have e1 : (0:Int) ≤ (i:Int) := by omega
          have e2 : (i:Int) < 128 := by omega
          have e3 : (a : Int) + (i : Int) < 4294967296 := by omega
          have e4 : (i : Int) < 4294967296 := by omega
          clear HL1
          go_wp2_with fail
          go_round
          case rel => exact ⟨i + 1, by omega, by go_num⟩
          case measure => simp [intOf]; omega
        · have e2 : ¬ (i:Int) < 128 := by omega
          go_wp2_with fail
          refine (HW.out _).mono ?_
          rintro e w2 ⟨rfl, hb2⟩
          have HB2 := Lib.hid hb2
          clear hb2
          go_wp2_with fail
          go_ret
          exact ⟨rfl, HB1.out.trans (HB2.out.mono HB1.out.size)⟩
set_option maxHeartbeats 2000000 in
theorem near8 (a : Nat) (w : World) (ha : a ≤ 18) : Calls Try.prog 8 #[.int .u32 (a : Int), .int .i64 8] w (LawOk w) := by
  have hmf : ∀ (fn : Fn) (first cap : Array Value) (w : World), (Instr.makeFunc fn first cap).run Try.prog w = .ok (.func fn first cap) w := fun _ _ _ _ => rfl
  have HW := Lib.hid works_any
  have HB := Lib.hid (show Below w.heap.size w (w.alloc (.cells #[] 52)) from (Below.refl _ _).alloc (Nat.le_refl _) _)
  have g1 : ¬ (18 : Int) < (a : Int) := by omega
  go_enter Try.func8, Try.ntmps8
  go_wp2_with fail
  go_loop [6, 7] (fun vt vk => ∃ k : Nat, k ≤ 256 ∧ vt = .int .u32 (((a + k) % 19 : Nat) : Int) ∧ vk = .int .i64 k) (fun _ vk => 256 - (intOf vk).toNat)
  case atStart => exact ⟨0, by omega, by rw [Nat.add_zero, Nat.mod_eq_of_lt (by omega)], rfl⟩
  case round =>
    obtain ⟨k, hk, rfl, rfl⟩ := hrel
    by_cases hlt : k < 256
    · have HN := Lib.hid (show (((a + k) % 19 : Nat) : Int) + 1 = ((a + k) % 19 + 1 : Nat) from rfl)
      have HN2 := Lib.hid (show ((((a + k) % 19 + 1) % 19 : Nat) : Int) = (((a + (k + 1)) % 19 : Nat) : Int) by omega)
      obtain ⟨t, ht⟩ : ∃ t, t = (a + k) % 19 := ⟨_, rfl⟩
      have ht2 : t < 19 := by omega
      rw [← ht] at HN HN2 ⊢
      have e1 : (k : Int) < 256 := by omega
      clear ht
      go_wp2_with fail
      go_round
      case rel => exact ⟨k + 1, by omega, by rw [← HN2.out]; rfl, by go_num⟩
      case measure => simp [intOf]; omega
    · have e1 : ¬ (k : Int) < 256 := by omega
      obtain rfl : k = 256 := by omega
      have hp : (2 : Nat) ^ 8 = 256 := by decide
      have ho := ring_open 8 65536 [] a (by omega) (by omega) ha (by rw [hp]; simp)
      rw [hp, List.nil_append] at ho
      replace ho := Lib.hid ho
      clear hp
      have HLn := Lib.hid (ringL_length a 256)
      obtain ⟨b, hbe⟩ : ∃ b, b = (a + 256) % 19 := ⟨_, rfl⟩
      have hb19 : b < 19 := by omega
      rw [← hbe] at ho ⊢
      clear hbe hk hlt
      go_wp2_with fail
      refine (way_ring w.heap.size a b (by omega) (by omega) _).mono ?_
      unfold WayTold
      rw [ho.out]
      dsimp only [wayV]
      rintro e w1 ⟨A1, c1, rfl, hl1, hb1⟩
      rw [HLn.out]
      have HL1 := Lib.hid hl1
      have HB1 := Lib.hid (HB.out.trans (hb1.mono HB.out.size))
      clear hl1 hb1 ho HLn
      go_wp2_with fail
      go_loop [10] (fun vi => ∃ i : Nat, i ≤ 256 ∧ vi = .int .i64 i) (fun vi => 256 - (intOf vi).toNat)
      case atStart => exact ⟨0, by omega, rfl⟩
      case round =>
        obtain ⟨i, hi, rfl⟩ := hrel
        by_cases hlt : i < 256
        · obtain ⟨p, o, rfl, k0, k1, k2, k3⟩ := ringL_at HL1.out i hlt
          have e7 : ((a : Int) + (i : Int)) % 19 = (((a + i) % 19 : Nat) : Int) := by omega
          have e8 : ((((a + i) % 19 : Nat) : Int) + 1) % 19 = (((a + i + 1) % 19 : Nat) : Int) := by omega
          have ht : (a + i) % 19 < 19 := by omega
          generalize (a + i + 1) % 19 = u at *
          generalize (a + i) % 19 = t at *
          have e1 : (0:Int) ≤ (i:Int) := by omega
          have e2 : (i:Int) < 256 := by omega
          have e3 : (a : Int) + (i : Int) < 4294967296 := by omega
          have e4 : (i : Int) < 4294967296 := by omega
          clear HL1
          go_wp2_with fail
          go_round
          case rel => exact ⟨i + 1, by omega, by go_num⟩
          case measure => simp [intOf]; omega
        · have e2 : ¬ (i:Int) < 256 := by omega
          go_wp2_with fail
          refine (HW.out _).mono ?_
          rintro e w2 ⟨rfl, hb2⟩
          have HB2 := Lib.hid hb2
          clear hb2
          go_wp2_with fail
          go_ret
          exact ⟨rfl, HB1.out.trans (HB2.out.mono HB1.out.size)⟩
set_option maxHeartbeats 2000000 in
theorem near9 (a : Nat) (w : World) (ha : a ≤ 18) : Calls Try.prog 8 #[.int .u32 (a : Int), .int .i64 9] w (LawOk w) := by
  have hmf : ∀ (fn : Fn) (first cap : Array Value) (w : World), (Instr.makeFunc fn first cap).run Try.prog w = .ok (.func fn first cap) w := fun _ _ _ _ => rfl
  have HW := Lib.hid works_any
  have HB := Lib.hid (show Below w.heap.size w (w.alloc (.cells #[] 52)) from (Below.refl _ _).alloc (Nat.le_refl _) _)
  have g1 : ¬ (18 : Int) < (a : Int) := by omega
  go_enter Try.func8, Try.ntmps8
  go_wp2_with fail
  go_loop [6, 7] (fun vt vk => ∃ k : Nat, k ≤ 512 ∧ vt = .int .u32 (((a + k) % 19 : Nat) : Int) ∧ vk = .int .i64 k) (fun _ vk => 512 - (intOf vk).toNat)
  case atStart => exact ⟨0, by omega, by rw [Nat.add_zero, Nat.mod_eq_of_lt (by omega)], rfl⟩
  case round =>
    obtain ⟨k, hk, rfl, rfl⟩ := hrel
    by_cases hlt : k < 512
    · have HN := Lib.hid (show (((a + k) % 19 : Nat) : Int) + 1 = ((a + k) % 19 + 1 : Nat) from rfl)
      have HN2 := Lib.hid (show ((((a + k) % 19 + 1) % 19 : Nat) : Int) = (((a + (k + 1)) % 19 : Nat) : Int) by omega)
      obtain ⟨t, ht⟩ : ∃ t, t = (a + k) % 19 := ⟨_, rfl⟩
      have ht2 : t < 19 := by omega
      rw [← ht] at HN HN2 ⊢
      have e1 : (k : Int) < 512 := by omega
      clear ht
      go_wp2_with fail
      go_round
      case rel => exact ⟨k + 1, by omega, by rw [← HN2.out]; rfl, by go_num⟩
      case measure => simp [intOf]; omega
    · have e1 : ¬ (k : Int) < 512 := by omega
      obtain rfl : k = 512 := by omega
      have hp : (2 : Nat) ^ 9 = 512 := by decide
      have ho := ring_open 9 65536 [] a (by omega) (by omega) ha (by rw [hp]; simp)
      rw [hp, List.nil_append] at ho
      replace ho := Lib.hid ho
      clear hp
      have HLn := Lib.hid (ringL_length a 512)
      obtain ⟨b, hbe⟩ : ∃ b, b = (a + 512) % 19 := ⟨_, rfl⟩
      have hb19 : b < 19 := by omega
      rw [← hbe] at ho ⊢
      clear hbe hk hlt
      go_wp2_with fail
      refine (way_ring w.heap.size a b (by omega) (by omega) _).mono ?_
      unfold WayTold
      rw [ho.out]
      dsimp only [wayV]
      rintro e w1 ⟨A1, c1, rfl, hl1, hb1⟩
      rw [HLn.out]
      have HL1 := Lib.hid hl1
      have HB1 := Lib.hid (HB.out.trans (hb1.mono HB.out.size))
      clear hl1 hb1 ho HLn
      go_wp2_with fail
      go_loop [10] (fun vi => ∃ i : Nat, i ≤ 512 ∧ vi = .int .i64 i) (fun vi => 512 - (intOf vi).toNat)
      case atStart => exact ⟨0, by omega, rfl⟩
      case round =>
        obtain ⟨i, hi, rfl⟩ := hrel
        by_cases hlt : i < 512
        · obtain ⟨p, o, rfl, k0, k1, k2, k3⟩ := ringL_at HL1.out i hlt
          have e7 : ((a : Int) + (i : Int)) % 19 = (((a + i) % 19 : Nat) : Int) := by omega
          have e8 : ((((a + i) % 19 : Nat) : Int) + 1) % 19 = (((a + i + 1) % 19 : Nat) : Int) := by omega
          have ht : (a + i) % 19 < 19 := by omega
          generalize (a + i + 1) % 19 = u at *
          generalize (a + i) % 19 = t at *
          have e1 : (0:Int) ≤ (i:Int) := by omega
          have e2 : (i:Int) < 512 := by omega
          have e3 : (a : Int) + (i : Int) < 4294967296 := by omega
          have e4 : (i : Int) < 4294967296 := by omega
          clear HL1
          go_wp2_with fail
          go_round
          case rel => exact ⟨i + 1, by omega, by go_num⟩
          case measure => simp [intOf]; omega
        · have e2 : ¬ (i:Int) < 512 := by omega
          go_wp2_with fail
          refine (HW.out _).mono ?_
          rintro e w2 ⟨rfl, hb2⟩
          have HB2 := Lib.hid hb2
          clear hb2
          go_wp2_with fail
          go_ret
          exact ⟨rfl, HB1.out.trans (HB2.out.mono HB1.out.size)⟩
set_option maxHeartbeats 2000000 in
theorem near10 (a : Nat) (w : World) (ha : a ≤ 18) : Calls Try.prog 8 #[.int .u32 (a : Int), .int .i64 10] w (LawOk w) := by
  have hmf : ∀ (fn : Fn) (first cap : Array Value) (w : World), (Instr.makeFunc fn first cap).run Try.prog w = .ok (.func fn first cap) w := fun _ _ _ _ => rfl
  have HW := Lib.hid works_any
  have HB := Lib.hid (show Below w.heap.size w (w.alloc (.cells #[] 52)) from (Below.refl _ _).alloc (Nat.le_refl _) _)
  have g1 : ¬ (18 : Int) < (a : Int) := by omega
  go_enter Try.func8, Try.ntmps8
  go_wp2_with fail
  go_loop [6, 7] (fun vt vk => ∃ k : Nat, k ≤ 1024 ∧ vt = .int .u32 (((a + k) % 19 : Nat) : Int) ∧ vk = .int .i64 k) (fun _ vk => 1024 - (intOf vk).toNat)
  case atStart => exact ⟨0, by omega, by rw [Nat.add_zero, Nat.mod_eq_of_lt (by omega)], rfl⟩
  case round =>
    obtain ⟨k, hk, rfl, rfl⟩ := hrel
    by_cases hlt : k < 1024
    · have HN := Lib.hid (show (((a + k) % 19 : Nat) : Int) + 1 = ((a + k) % 19 + 1 : Nat) from rfl)
      have HN2 := Lib.hid (show ((((a + k) % 19 + 1) % 19 : Nat) : Int) = (((a + (k + 1)) % 19 : Nat) : Int) by omega)
      obtain ⟨t, ht⟩ : ∃ t, t = (a + k) % 19 := ⟨_, rfl⟩
      have ht2 : t < 19 := by omega
      rw [← ht] at HN HN2 ⊢
      have e1 : (k : Int) < 1024 := by omega
      clear ht
      go_wp2_with fail
      go_round
      case rel => exact ⟨k + 1, by omega, by rw [← HN2.out]; rfl, by go_num⟩
      case measure => simp [intOf]; omega
    · have e1 : ¬ (k : Int) < 1024 := by omega
      obtain rfl : k = 1024 := by omega
      have hp : (2 : Nat) ^ 10 = 1024 := by decide
      have ho := ring_open 10 65536 [] a (by omega) (by omega) ha (by rw [hp]; simp)
      rw [hp, List.nil_append] at ho
      replace ho := Lib.hid ho
      clear hp
      have HLn := Lib.hid (ringL_length a 1024)
      obtain ⟨b, hbe⟩ : ∃ b, b = (a + 1024) % 19 := ⟨_, rfl⟩
      have hb19 : b < 19 := by omega
      rw [← hbe] at ho ⊢
      clear hbe hk hlt
      go_wp2_with fail
      refine (way_ring w.heap.size a b (by omega) (by omega) _).mono ?_
      unfold WayTold
      rw [ho.out]
      dsimp only [wayV]
      rintro e w1 ⟨A1, c1, rfl, hl1, hb1⟩
      rw [HLn.out]
      have HL1 := Lib.hid hl1
      have HB1 := Lib.hid (HB.out.trans (hb1.mono HB.out.size))
      clear hl1 hb1 ho HLn
      go_wp2_with fail
      go_loop [10] (fun vi => ∃ i : Nat, i ≤ 1024 ∧ vi = .int .i64 i) (fun vi => 1024 - (intOf vi).toNat)
      case atStart => exact ⟨0, by omega, rfl⟩
      case round =>
        obtain ⟨i, hi, rfl⟩ := hrel
        by_cases hlt : i < 1024
        · obtain ⟨p, o, rfl, k0, k1, k2, k3⟩ := ringL_at HL1.out i hlt
          have e7 : ((a : Int) + (i : Int)) % 19 = (((a + i) % 19 : Nat) : Int) := by omega
          have e8 : ((((a + i) % 19 : Nat) : Int) + 1) % 19 = (((a + i + 1) % 19 : Nat) : Int) := by omega
          have ht : (a + i) % 19 < 19 := by omega
          generalize (a + i + 1) % 19 = u at *
          generalize (a + i) % 19 = t at *
          have e1 : (0:Int) ≤ (i:Int) := by omega
          have e2 : (i:Int) < 1024 := by omega
          have e3 : (a : Int) + (i : Int) < 4294967296 := by omega
          have e4 : (i : Int) < 4294967296 := by omega
          clear HL1
          go_wp2_with fail
          go_round
          case rel => exact ⟨i + 1, by omega, by go_num⟩
          case measure => simp [intOf]; omega
        · have e2 : ¬ (i:Int) < 1024 := by omega
          go_wp2_with fail
          refine (HW.out _).mono ?_
          rintro e w2 ⟨rfl, hb2⟩
          have HB2 := Lib.hid hb2
          clear hb2
          go_wp2_with fail
          go_ret
          exact ⟨rfl, HB1.out.trans (HB2.out.mono HB1.out.size)⟩
set_option maxHeartbeats 2000000 in
theorem near11 (a : Nat) (w : World) (ha : a ≤ 18) : Calls Try.prog 8 #[.int .u32 (a : Int), .int .i64 11] w (LawOk w) := by
  have hmf : ∀ (fn : Fn) (first cap : Array Value) (w : World), (Instr.makeFunc fn first cap).run Try.prog w = .ok (.func fn first cap) w := fun _ _ _ _ => rfl
  have HW := Lib.hid works_any
  have HB := Lib.hid (show Below w.heap.size w (w.alloc (.cells #[] 52)) from (Below.refl _ _).alloc (Nat.le_refl _) _)
  have g1 : ¬ (18 : Int) < (a : Int) := by omega
  go_enter Try.func8, Try.ntmps8
  go_wp2_with fail
  go_loop [6, 7] (fun vt vk => ∃ k : Nat, k ≤ 2048 ∧ vt = .int .u32 (((a + k) % 19 : Nat) : Int) ∧ vk = .int .i64 k) (fun _ vk => 2048 - (intOf vk).toNat)
  case atStart => exact ⟨0, by omega, by rw [Nat.add_zero, Nat.mod_eq_of_lt (by omega)], rfl⟩
  case round =>
    obtain ⟨k, hk, rfl, rfl⟩ := hrel
    by_cases hlt : k < 2048
    · have HN := Lib.hid (show (((a + k) % 19 : Nat) : Int) + 1 = ((a + k) % 19 + 1 : Nat) from rfl)
      have HN2 := Lib.hid (show ((((a + k) % 19 + 1) % 19 : Nat) : Int) = (((a + (k + 1)) % 19 : Nat) : Int) by omega)
      obtain ⟨t, ht⟩ : ∃ t, t = (a + k) % 19 := ⟨_, rfl⟩
      have ht2 : t < 19 := by omega
      rw [← ht] at HN HN2 ⊢
      have e1 : (k : Int) < 2048 := by omega
      clear ht
      go_wp2_with fail
      go_round
      case rel => exact ⟨k + 1, by omega, by rw [← HN2.out]; rfl, by go_num⟩
      case measure => simp [intOf]; omega
    · have e1 : ¬ (k : Int) < 2048 := by omega
      obtain rfl : k = 2048 := by omega
      have hp : (2 : Nat) ^ 11 = 2048 := by decide
      have ho := ring_open 11 65536 [] a (by omega) (by omega) ha (by rw [hp]; simp)
      rw [hp, List.nil_append] at ho
      replace ho := Lib.hid ho
      clear hp
      have HLn := Lib.hid (ringL_length a 2048)
      obtain ⟨b, hbe⟩ : ∃ b, b = (a + 2048) % 19 := ⟨_, rfl⟩
      have hb19 : b < 19 := by omega
      rw [← hbe] at ho ⊢
      clear hbe hk hlt
      go_wp2_with fail
      refine (way_ring w.heap.size a b (by omega) (by omega) _).mono ?_
      unfold WayTold
      rw [ho.out]
      dsimp only [wayV]
      rintro e w1 ⟨A1, c1, rfl, hl1, hb1⟩
      rw [HLn.out]
      have HL1 := Lib.hid hl1
      have HB1 := Lib.hid (HB.out.trans (hb1.mono HB.out.size))
      clear hl1 hb1 ho HLn
      go_wp2_with fail
      go_loop [10] (fun vi => ∃ i : Nat, i ≤ 2048 ∧ vi = .int .i64 i) (fun vi => 2048 - (intOf vi).toNat)
      case atStart => exact ⟨0, by omega, rfl⟩
      case round =>
        obtain ⟨i, hi, rfl⟩ := hrel
        by_cases hlt : i < 2048
        · obtain ⟨p, o, rfl, k0, k1, k2, k3⟩ := ringL_at HL1.out i hlt
          have e7 : ((a : Int) + (i : Int)) % 19 = (((a + i) % 19 : Nat) : Int) := by omega
          have e8 : ((((a + i) % 19 : Nat) : Int) + 1) % 19 = (((a + i + 1) % 19 : Nat) : Int) := by omega
          have ht : (a + i) % 19 < 19 := by omega
          generalize (a + i + 1) % 19 = u at *
          generalize (a + i) % 19 = t at *
          have e1 : (0:Int) ≤ (i:Int) := by omega
          have e2 : (i:Int) < 2048 := by omega
          have e3 : (a : Int) + (i : Int) < 4294967296 := by omega
          have e4 : (i : Int) < 4294967296 := by omega
          clear HL1
          go_wp2_with fail
          go_round
          case rel => exact ⟨i + 1, by omega, by go_num⟩
          case measure => simp [intOf]; omega
        · have e2 : ¬ (i:Int) < 2048 := by omega
          go_wp2_with fail
          refine (HW.out _).mono ?_
          rintro e w2 ⟨rfl, hb2⟩
          have HB2 := Lib.hid hb2
          clear hb2
          go_wp2_with fail
          go_ret
          exact ⟨rfl, HB1.out.trans (HB2.out.mono HB1.out.size)⟩
set_option maxHeartbeats 2000000 in
theorem near12 (a : Nat) (w : World) (ha : a ≤ 18) : Calls Try.prog 8 #[.int .u32 (a : Int), .int .i64 12] w (LawOk w) := by
  have hmf : ∀ (fn : Fn) (first cap : Array Value) (w : World), (Instr.makeFunc fn first cap).run Try.prog w = .ok (.func fn first cap) w := fun _ _ _ _ => rfl
  have HW := Lib.hid works_any
  have HB := Lib.hid (show Below w.heap.size w (w.alloc (.cells #[] 52)) from (Below.refl _ _).alloc (Nat.le_refl _) _)
  have g1 : ¬ (18 : Int) < (a : Int) := by omega
  go_enter Try.func8, Try.ntmps8
  go_wp2_with fail
  go_loop [6, 7] (fun vt vk => ∃ k : Nat, k ≤ 4096 ∧ vt = .int .u32 (((a + k) % 19 : Nat) : Int) ∧ vk = .int .i64 k) (fun _ vk => 4096 - (intOf vk).toNat)
  case atStart => exact ⟨0, by omega, by rw [Nat.add_zero, Nat.mod_eq_of_lt (by omega)], rfl⟩
  case round =>
    obtain ⟨k, hk, rfl, rfl⟩ := hrel
    by_cases hlt : k < 4096
    · have HN := Lib.hid (show (((a + k) % 19 : Nat) : Int) + 1 = ((a + k) % 19 + 1 : Nat) from rfl)
      have HN2 := Lib.hid (show ((((a + k) % 19 + 1) % 19 : Nat) : Int) = (((a + (k + 1)) % 19 : Nat) : Int) by omega)
      obtain ⟨t, ht⟩ : ∃ t, t = (a + k) % 19 := ⟨_, rfl⟩
      have ht2 : t < 19 := by omega
      rw [← ht] at HN HN2 ⊢
      have e1 : (k : Int) < 4096 := by omega
      clear ht
      go_wp2_with fail
      go_round
      case rel => exact ⟨k + 1, by omega, by rw [← HN2.out]; rfl, by go_num⟩
      case measure => simp [intOf]; omega
    · have e1 : ¬ (k : Int) < 4096 := by omega
      obtain rfl : k = 4096 := by omega
      have hp : (2 : Nat) ^ 12 = 4096 := by decide
      have ho := ring_open 12 65536 [] a (by omega) (by omega) ha (by rw [hp]; simp)
      rw [hp, List.nil_append] at ho
      replace ho := Lib.hid ho
      clear hp
      have HLn := Lib.hid (ringL_length a 4096)
      obtain ⟨b, hbe⟩ : ∃ b, b = (a + 4096) % 19 := ⟨_, rfl⟩
      have hb19 : b < 19 := by omega
      rw [← hbe] at ho ⊢
      clear hbe hk hlt
      go_wp2_with fail
      refine (way_ring w.heap.size a b (by omega) (by omega) _).mono ?_
      unfold WayTold
      rw [ho.out]
      dsimp only [wayV]
      rintro e w1 ⟨A1, c1, rfl, hl1, hb1⟩
      rw [HLn.out]
      have HL1 := Lib.hid hl1
      have HB1 := Lib.hid (HB.out.trans (hb1.mono HB.out.size))
      clear hl1 hb1 ho HLn
      go_wp2_with fail
      go_loop [10] (fun vi => ∃ i : Nat, i ≤ 4096 ∧ vi = .int .i64 i) (fun vi => 4096 - (intOf vi).toNat)
      case atStart => exact ⟨0, by omega, rfl⟩
      case round =>
        obtain ⟨i, hi, rfl⟩ := hrel
        by_cases hlt : i < 4096
        · obtain ⟨p, o, rfl, k0, k1, k2, k3⟩ := ringL_at HL1.out i hlt
          have e7 : ((a : Int) + (i : Int)) % 19 = (((a + i) % 19 : Nat) : Int) := by omega
          have e8 : ((((a + i) % 19 : Nat) : Int) + 1) % 19 = (((a + i + 1) % 19 : Nat) : Int) := by omega
          have ht : (a + i) % 19 < 19 := by omega
          generalize (a + i + 1) % 19 = u at *
          generalize (a + i) % 19 = t at *
          have e1 : (0:Int) ≤ (i:Int) := by omega
          have e2 : (i:Int) < 4096 := by omega
          have e3 : (a : Int) + (i : Int) < 4294967296 := by omega
          have e4 : (i : Int) < 4294967296 := by omega
          clear HL1
          go_wp2_with fail
          go_round
          case rel => exact ⟨i + 1, by omega, by go_num⟩
          case measure => simp [intOf]; omega
        · have e2 : ¬ (i:Int) < 4096 := by omega
          go_wp2_with fail
          refine (HW.out _).mono ?_
          rintro e w2 ⟨rfl, hb2⟩
          have HB2 := Lib.hid hb2
          clear hb2
          go_wp2_with fail
          go_ret
          exact ⟨rfl, HB1.out.trans (HB2.out.mono HB1.out.size)⟩
set_option maxHeartbeats 2000000 in
theorem near13 (a : Nat) (w : World) (ha : a ≤ 18) : Calls Try.prog 8 #[.int .u32 (a : Int), .int .i64 13] w (LawOk w) := by
  have hmf : ∀ (fn : Fn) (first cap : Array Value) (w : World), (Instr.makeFunc fn first cap).run Try.prog w = .ok (.func fn first cap) w := fun _ _ _ _ => rfl
  have HW := Lib.hid works_any
  have HB := Lib.hid (show Below w.heap.size w (w.alloc (.cells #[] 52)) from (Below.refl _ _).alloc (Nat.le_refl _) _)
  have g1 : ¬ (18 : Int) < (a : Int) := by omega
  go_enter Try.func8, Try.ntmps8
  go_wp2_with fail
  go_loop [6, 7] (fun vt vk => ∃ k : Nat, k ≤ 8192 ∧ vt = .int .u32 (((a + k) % 19 : Nat) : Int) ∧ vk = .int .i64 k) (fun _ vk => 8192 - (intOf vk).toNat)
  case atStart => exact ⟨0, by omega, by rw [Nat.add_zero, Nat.mod_eq_of_lt (by omega)], rfl⟩
  case round =>
    obtain ⟨k, hk, rfl, rfl⟩ := hrel
    by_cases hlt : k < 8192
    · have HN := Lib.hid (show (((a + k) % 19 : Nat) : Int) + 1 = ((a + k) % 19 + 1 : Nat) from rfl)
      have HN2 := Lib.hid (show ((((a + k) % 19 + 1) % 19 : Nat) : Int) = (((a + (k + 1)) % 19 : Nat) : Int) by omega)
      obtain ⟨t, ht⟩ : ∃ t, t = (a + k) % 19 := ⟨_, rfl⟩
      have ht2 : t < 19 := by omega
      rw [← ht] at HN HN2 ⊢
      have e1 : (k : Int) < 8192 := by omega
      clear ht
      go_wp2_with fail
      go_round
      case rel => exact ⟨k + 1, by omega, by rw [← HN2.out]; rfl, by go_num⟩
      case measure => simp [intOf]; omega
    · have e1 : ¬ (k : Int) < 8192 := by omega
      obtain rfl : k = 8192 := by omega
      have hp : (2 : Nat) ^ 13 = 8192 := by decide
      have ho := ring_open 13 65536 [] a (by omega) (by omega) ha (by rw [hp]; simp)
      rw [hp, List.nil_append] at ho
      replace ho := Lib.hid ho
      clear hp
      have HLn := Lib.hid (ringL_length a 8192)
      obtain ⟨b, hbe⟩ : ∃ b, b = (a + 8192) % 19 := ⟨_, rfl⟩
      have hb19 : b < 19 := by omega
      rw [← hbe] at ho ⊢
      clear hbe hk hlt
      go_wp2_with fail
      refine (way_ring w.heap.size a b (by omega) (by omega) _).mono ?_
      unfold WayTold
      rw [ho.out]
      dsimp only [wayV]
      rintro e w1 ⟨A1, c1, rfl, hl1, hb1⟩
      rw [HLn.out]
      have HL1 := Lib.hid hl1
      have HB1 := Lib.hid (HB.out.trans (hb1.mono HB.out.size))
      clear hl1 hb1 ho HLn
      go_wp2_with fail
      go_loop [10] (fun vi => ∃ i : Nat, i ≤ 8192 ∧ vi = .int .i64 i) (fun vi => 8192 - (intOf vi).toNat)
      case atStart => exact ⟨0, by omega, rfl⟩
      case round =>
        obtain ⟨i, hi, rfl⟩ := hrel
        by_cases hlt : i < 8192
        · obtain ⟨p, o, rfl, k0, k1, k2, k3⟩ := ringL_at HL1.out i hlt
          have e7 : ((a : Int) + (i : Int)) % 19 = (((a + i) % 19 : Nat) : Int) := by omega
          have e8 : ((((a + i) % 19 : Nat) : Int) + 1) % 19 = (((a + i + 1) % 19 : Nat) : Int) := by omega
          have ht : (a + i) % 19 < 19 := by omega
          generalize (a + i + 1) % 19 = u at *
          generalize (a + i) % 19 = t at *
          have e1 : (0:Int) ≤ (i:Int) := by omega
          have e2 : (i:Int) < 8192 := by omega
          have e3 : (a : Int) + (i : Int) < 4294967296 := by omega
          have e4 : (i : Int) < 4294967296 := by omega
          clear HL1
          go_wp2_with fail
          go_round
          case rel => exact ⟨i + 1, by omega, by go_num⟩
          case measure => simp [intOf]; omega
        · have e2 : ¬ (i:Int) < 8192 := by omega
          go_wp2_with fail
          refine (HW.out _).mono ?_
          rintro e w2 ⟨rfl, hb2⟩
          have HB2 := Lib.hid hb2
          clear hb2
          go_wp2_with fail
          go_ret
          exact ⟨rfl, HB1.out.trans (HB2.out.mono HB1.out.size)⟩
set_option maxHeartbeats 2000000 in
theorem near14 (a : Nat) (w : World) (ha : a ≤ 18) : Calls Try.prog 8 #[.int .u32 (a : Int), .int .i64 14] w (LawOk w) := by
  have hmf : ∀ (fn : Fn) (first cap : Array Value) (w : World), (Instr.makeFunc fn first cap).run Try.prog w = .ok (.func fn first cap) w := fun _ _ _ _ => rfl
  have HW := Lib.hid works_any
  have HB := Lib.hid (show Below w.heap.size w (w.alloc (.cells #[] 52)) from (Below.refl _ _).alloc (Nat.le_refl _) _)
  have g1 : ¬ (18 : Int) < (a : Int) := by omega
  go_enter Try.func8, Try.ntmps8
  go_wp2_with fail
  go_loop [6, 7] (fun vt vk => ∃ k : Nat, k ≤ 16384 ∧ vt = .int .u32 (((a + k) % 19 : Nat) : Int) ∧ vk = .int .i64 k) (fun _ vk => 16384 - (intOf vk).toNat)
  case atStart => exact ⟨0, by omega, by rw [Nat.add_zero, Nat.mod_eq_of_lt (by omega)], rfl⟩
  case round =>
    obtain ⟨k, hk, rfl, rfl⟩ := hrel
    by_cases hlt : k < 16384
    · have HN := Lib.hid (show (((a + k) % 19 : Nat) : Int) + 1 = ((a + k) % 19 + 1 : Nat) from rfl)
      have HN2 := Lib.hid (show ((((a + k) % 19 + 1) % 19 : Nat) : Int) = (((a + (k + 1)) % 19 : Nat) : Int) by omega)
      obtain ⟨t, ht⟩ : ∃ t, t = (a + k) % 19 := ⟨_, rfl⟩
      have ht2 : t < 19 := by omega
      rw [← ht] at HN HN2 ⊢
      have e1 : (k : Int) < 16384 := by omega
      clear ht
      go_wp2_with fail
      go_round
      case rel => exact ⟨k + 1, by omega, by rw [← HN2.out]; rfl, by go_num⟩
      case measure => simp [intOf]; omega
    · have e1 : ¬ (k : Int) < 16384 := by omega
      obtain rfl : k = 16384 := by omega
      have hp : (2 : Nat) ^ 14 = 16384 := by decide
      have ho := ring_open 14 65536 [] a (by omega) (by omega) ha (by rw [hp]; simp)
      rw [hp, List.nil_append] at ho
      replace ho := Lib.hid ho
      clear hp
      have HLn := Lib.hid (ringL_length a 16384)
      obtain ⟨b, hbe⟩ : ∃ b, b = (a + 16384) % 19 := ⟨_, rfl⟩
      have hb19 : b < 19 := by omega
      rw [← hbe] at ho ⊢
      clear hbe hk hlt
      go_wp2_with fail
      refine (way_ring w.heap.size a b (by omega) (by omega) _).mono ?_
      unfold WayTold
      rw [ho.out]
      dsimp only [wayV]
      rintro e w1 ⟨A1, c1, rfl, hl1, hb1⟩
      rw [HLn.out]
      have HL1 := Lib.hid hl1
      have HB1 := Lib.hid (HB.out.trans (hb1.mono HB.out.size))
      clear hl1 hb1 ho HLn
      go_wp2_with fail
      go_loop [10] (fun vi => ∃ i : Nat, i ≤ 16384 ∧ vi = .int .i64 i) (fun vi => 16384 - (intOf vi).toNat)
      case atStart => exact ⟨0, by omega, rfl⟩
      case round =>
        obtain ⟨i, hi, rfl⟩ := hrel
        by_cases hlt : i < 16384
        · obtain ⟨p, o, rfl, k0, k1, k2, k3⟩ := ringL_at HL1.out i hlt
          have e7 : ((a : Int) + (i : Int)) % 19 = (((a + i) % 19 : Nat) : Int) := by omega
          have e8 : ((((a + i) % 19 : Nat) : Int) + 1) % 19 = (((a + i + 1) % 19 : Nat) : Int) := by omega
          have ht : (a + i) % 19 < 19 := by omega
          generalize (a + i + 1) % 19 = u at *
          generalize (a + i) % 19 = t at *
          have e1 : (0:Int) ≤ (i:Int) := by omega
          have e2 : (i:Int) < 16384 := by omega
          have e3 : (a : Int) + (i : Int) < 4294967296 := by omega
          have e4 : (i : Int) < 4294967296 := by omega
          clear HL1
          go_wp2_with fail
          go_round
          case rel => exact ⟨i + 1, by omega, by go_num⟩
          case measure => simp [intOf]; omega
        · have e2 : ¬ (i:Int) < 16384 := by omega
          go_wp2_with fail
          refine (HW.out _).mono ?_
          rintro e w2 ⟨rfl, hb2⟩
          have HB2 := Lib.hid hb2
          clear hb2
          go_wp2_with fail
          go_ret
          exact ⟨rfl, HB1.out.trans (HB2.out.mono HB1.out.size)⟩
set_option maxHeartbeats 2000000 in
theorem near15 (a : Nat) (w : World) (ha : a ≤ 18) : Calls Try.prog 8 #[.int .u32 (a : Int), .int .i64 15] w (LawOk w) := by
  have hmf : ∀ (fn : Fn) (first cap : Array Value) (w : World), (Instr.makeFunc fn first cap).run Try.prog w = .ok (.func fn first cap) w := fun _ _ _ _ => rfl
  have HW := Lib.hid works_any
  have HB := Lib.hid (show Below w.heap.size w (w.alloc (.cells #[] 52)) from (Below.refl _ _).alloc (Nat.le_refl _) _)
  have g1 : ¬ (18 : Int) < (a : Int) := by omega
  go_enter Try.func8, Try.ntmps8
  go_wp2_with fail
  go_loop [6, 7] (fun vt vk => ∃ k : Nat, k ≤ 32768 ∧ vt = .int .u32 (((a + k) % 19 : Nat) : Int) ∧ vk = .int .i64 k) (fun _ vk => 32768 - (intOf vk).toNat)
  case atStart => exact ⟨0, by omega, by rw [Nat.add_zero, Nat.mod_eq_of_lt (by omega)], rfl⟩
  case round =>
    obtain ⟨k, hk, rfl, rfl⟩ := hrel
    by_cases hlt : k < 32768
    · have HN := Lib.hid (show (((a + k) % 19 : Nat) : Int) + 1 = ((a + k) % 19 + 1 : Nat) from rfl)
      have HN2 := Lib.hid (show ((((a + k) % 19 + 1) % 19 : Nat) : Int) = (((a + (k + 1)) % 19 : Nat) : Int) by omega)
      obtain ⟨t, ht⟩ : ∃ t, t = (a + k) % 19 := ⟨_, rfl⟩
      have ht2 : t < 19 := by omega
      rw [← ht] at HN HN2 ⊢
      have e1 : (k : Int) < 32768 := by omega
      clear ht
      go_wp2_with fail
      go_round
      case rel => exact ⟨k + 1, by omega, by rw [← HN2.out]; rfl, by go_num⟩
      case measure => simp [intOf]; omega
    · have e1 : ¬ (k : Int) < 32768 := by omega
      obtain rfl : k = 32768 := by omega
      have hp : (2 : Nat) ^ 15 = 32768 := by decide
      have ho := ring_open 15 65536 [] a (by omega) (by omega) ha (by rw [hp]; simp)
      rw [hp, List.nil_append] at ho
      replace ho := Lib.hid ho
      clear hp
      have HLn := Lib.hid (ringL_length a 32768)
      obtain ⟨b, hbe⟩ : ∃ b, b = (a + 32768) % 19 := ⟨_, rfl⟩
      have hb19 : b < 19 := by omega
      rw [← hbe] at ho ⊢
      clear hbe hk hlt
      go_wp2_with fail
      refine (way_ring w.heap.size a b (by omega) (by omega) _).mono ?_
      unfold WayTold
      rw [ho.out]
      dsimp only [wayV]
      rintro e w1 ⟨A1, c1, rfl, hl1, hb1⟩
      rw [HLn.out]
      have HL1 := Lib.hid hl1
      have HB1 := Lib.hid (HB.out.trans (hb1.mono HB.out.size))
      clear hl1 hb1 ho HLn
      go_wp2_with fail
      go_loop [10] (fun vi => ∃ i : Nat, i ≤ 32768 ∧ vi = .int .i64 i) (fun vi => 32768 - (intOf vi).toNat)
      case atStart => exact ⟨0, by omega, rfl⟩
      case round =>
        obtain ⟨i, hi, rfl⟩ := hrel
        by_cases hlt : i < 32768
        · obtain ⟨p, o, rfl, k0, k1, k2, k3⟩ := ringL_at HL1.out i hlt
          have e7 : ((a : Int) + (i : Int)) % 19 = (((a + i) % 19 : Nat) : Int) := by omega
          have e8 : ((((a + i) % 19 : Nat) : Int) + 1) % 19 = (((a + i + 1) % 19 : Nat) : Int) := by omega
          have ht : (a + i) % 19 < 19 := by omega
          generalize (a + i + 1) % 19 = u at *
          generalize (a + i) % 19 = t at *
          have e1 : (0:Int) ≤ (i:Int) := by omega
          have e2 : (i:Int) < 32768 := by omega
          have e3 : (a : Int) + (i : Int) < 4294967296 := by omega
          have e4 : (i : Int) < 4294967296 := by omega
          clear HL1
          go_wp2_with fail
          go_round
          case rel => exact ⟨i + 1, by omega, by go_num⟩
          case measure => simp [intOf]; omega
        · have e2 : ¬ (i:Int) < 32768 := by omega
          go_wp2_with fail
          refine (HW.out _).mono ?_
          rintro e w2 ⟨rfl, hb2⟩
          have HB2 := Lib.hid hb2
          clear hb2
          go_wp2_with fail
          go_ret
          exact ⟨rfl, HB1.out.trans (HB2.out.mono HB1.out.size)⟩
set_option maxHeartbeats 2000000 in
theorem near16 (a : Nat) (w : World) (ha : a ≤ 18) : Calls Try.prog 8 #[.int .u32 (a : Int), .int .i64 16] w (LawOk w) := by
  have hmf : ∀ (fn : Fn) (first cap : Array Value) (w : World), (Instr.makeFunc fn first cap).run Try.prog w = .ok (.func fn first cap) w := fun _ _ _ _ => rfl
  have HW := Lib.hid works_any
  have HB := Lib.hid (show Below w.heap.size w (w.alloc (.cells #[] 52)) from (Below.refl _ _).alloc (Nat.le_refl _) _)
  have g1 : ¬ (18 : Int) < (a : Int) := by omega
  go_enter Try.func8, Try.ntmps8
  go_wp2_with fail
  go_loop [6, 7] (fun vt vk => ∃ k : Nat, k ≤ 65536 ∧ vt = .int .u32 (((a + k) % 19 : Nat) : Int) ∧ vk = .int .i64 k) (fun _ vk => 65536 - (intOf vk).toNat)
  case atStart => exact ⟨0, by omega, by rw [Nat.add_zero, Nat.mod_eq_of_lt (by omega)], rfl⟩
  case round =>
    obtain ⟨k, hk, rfl, rfl⟩ := hrel
    by_cases hlt : k < 65536
    · have HN := Lib.hid (show (((a + k) % 19 : Nat) : Int) + 1 = ((a + k) % 19 + 1 : Nat) from rfl)
      have HN2 := Lib.hid (show ((((a + k) % 19 + 1) % 19 : Nat) : Int) = (((a + (k + 1)) % 19 : Nat) : Int) by omega)
      obtain ⟨t, ht⟩ : ∃ t, t = (a + k) % 19 := ⟨_, rfl⟩
      have ht2 : t < 19 := by omega
      rw [← ht] at HN HN2 ⊢
      have e1 : (k : Int) < 65536 := by omega
      clear ht
      go_wp2_with fail
      go_round
      case rel => exact ⟨k + 1, by omega, by rw [← HN2.out]; rfl, by go_num⟩
      case measure => simp [intOf]; omega
    · have e1 : ¬ (k : Int) < 65536 := by omega
      obtain rfl : k = 65536 := by omega
      have hp : (2 : Nat) ^ 16 = 65536 := by decide
      have ho := ring_open 16 65536 [] a (by omega) (by omega) ha (by rw [hp]; simp)
      rw [hp, List.nil_append] at ho
      replace ho := Lib.hid ho
      clear hp
      have HLn := Lib.hid (ringL_length a 65536)
      obtain ⟨b, hbe⟩ : ∃ b, b = (a + 65536) % 19 := ⟨_, rfl⟩
      have hb19 : b < 19 := by omega
      rw [← hbe] at ho ⊢
      clear hbe hk hlt
      go_wp2_with fail
      refine (way_ring w.heap.size a b (by omega) (by omega) _).mono ?_
      unfold WayTold
      rw [ho.out]
      dsimp only [wayV]
      rintro e w1 ⟨A1, c1, rfl, hl1, hb1⟩
      rw [HLn.out]
      have HL1 := Lib.hid hl1
      have HB1 := Lib.hid (HB.out.trans (hb1.mono HB.out.size))
      clear hl1 hb1 ho HLn
      go_wp2_with fail
      go_loop [10] (fun vi => ∃ i : Nat, i ≤ 65536 ∧ vi = .int .i64 i) (fun vi => 65536 - (intOf vi).toNat)
      case atStart => exact ⟨0, by omega, rfl⟩
      case round =>
        obtain ⟨i, hi, rfl⟩ := hrel
        by_cases hlt : i < 65536
        · obtain ⟨p, o, rfl, k0, k1, k2, k3⟩ := ringL_at HL1.out i hlt
          have e7 : ((a : Int) + (i : Int)) % 19 = (((a + i) % 19 : Nat) : Int) := by omega
          have e8 : ((((a + i) % 19 : Nat) : Int) + 1) % 19 = (((a + i + 1) % 19 : Nat) : Int) := by omega
          have ht : (a + i) % 19 < 19 := by omega
          generalize (a + i + 1) % 19 = u at *
          generalize (a + i) % 19 = t at *
          have e1 : (0:Int) ≤ (i:Int) := by omega
          have e2 : (i:Int) < 65536 := by omega
          have e3 : (a : Int) + (i : Int) < 4294967296 := by omega
          have e4 : (i : Int) < 4294967296 := by omega
          clear HL1
          go_wp2_with fail
          go_round
          case rel => exact ⟨i + 1, by omega, by go_num⟩
          case measure => simp [intOf]; omega
        · have e2 : ¬ (i:Int) < 65536 := by omega
          go_wp2_with fail
          refine (HW.out _).mono ?_
          rintro e w2 ⟨rfl, hb2⟩
          have HB2 := Lib.hid hb2
          clear hb2
          go_wp2_with fail
          go_ret
          exact ⟨rfl, HB1.out.trans (HB2.out.mono HB1.out.size)⟩
set_option maxHeartbeats 2000000 in
theorem near17 (a : Nat) (w : World) (ha : a ≤ 18) : Calls Try.prog 8 #[.int .u32 (a : Int), .int .i64 17] w (LawOk w) := by
  have hmf : ∀ (fn : Fn) (first cap : Array Value) (w : World), (Instr.makeFunc fn first cap).run Try.prog w = .ok (.func fn first cap) w := fun _ _ _ _ => rfl
  have HW := Lib.hid works_any
  have HB := Lib.hid (show Below w.heap.size w (w.alloc (.cells #[] 52)) from (Below.refl _ _).alloc (Nat.le_refl _) _)
  have g1 : ¬ (18 : Int) < (a : Int) := by omega
  go_enter Try.func8, Try.ntmps8
  go_wp2_with fail
  go_loop [6, 7] (fun vt vk => ∃ k : Nat, k ≤ 131072 ∧ vt = .int .u32 (((a + k) % 19 : Nat) : Int) ∧ vk = .int .i64 k) (fun _ vk => 131072 - (intOf vk).toNat)
  case atStart => exact ⟨0, by omega, by rw [Nat.add_zero, Nat.mod_eq_of_lt (by omega)], rfl⟩
  case round =>
    obtain ⟨k, hk, rfl, rfl⟩ := hrel
    by_cases hlt : k < 131072
    · have HN := Lib.hid (show (((a + k) % 19 : Nat) : Int) + 1 = ((a + k) % 19 + 1 : Nat) from rfl)
      have HN2 := Lib.hid (show ((((a + k) % 19 + 1) % 19 : Nat) : Int) = (((a + (k + 1)) % 19 : Nat) : Int) by omega)
      obtain ⟨t, ht⟩ : ∃ t, t = (a + k) % 19 := ⟨_, rfl⟩
      have ht2 : t < 19 := by omega
      rw [← ht] at HN HN2 ⊢
      have e1 : (k : Int) < 131072 := by omega
      clear ht
      go_wp2_with fail
      go_round
      case rel => exact ⟨k + 1, by omega, by rw [← HN2.out]; rfl, by go_num⟩
      case measure => simp [intOf]; omega
    · have e1 : ¬ (k : Int) < 131072 := by omega
      obtain rfl : k = 131072 := by omega
      have hp : (2 : Nat) ^ 17 = 131072 := by decide
      have ho := ring_over 65536 a (by omega) ha
      rw [hp] at ho
      replace ho := Lib.hid ho
      clear hp
      obtain ⟨b, hbe⟩ : ∃ b, b = (a + 131072) % 19 := ⟨_, rfl⟩
      have hb19 : b < 19 := by omega
      rw [← hbe] at ho ⊢
      clear hbe hk hlt
      go_wp2_with fail
      refine (way_ring w.heap.size a b (by omega) (by omega) _).mono ?_
      unfold WayTold
      rw [ho.out]
      dsimp only [wayV]
      rintro e w1 ⟨A1, c1, rfl, _, hb1⟩
      have HB1 := Lib.hid (HB.out.trans (hb1.mono HB.out.size))
      clear hb1 ho
      go_wp2_with fail
      refine (HW.out _).mono ?_
      rintro e w2 ⟨rfl, hb2⟩
      have HB2 := Lib.hid hb2
      clear hb2
      go_wp2_with fail
      go_ret
      exact ⟨rfl, HB1.out.trans (HB2.out.mono HB1.out.size)⟩
theorem walk (a : Nat) (z : Int) (w : World) (_ha : a < 4294967296) (_hz : -9223372036854775808 ≤ z ∧ z ≤ 9223372036854775807) : Calls Try.prog 8 #[.int .u32 (a : Int), .int .i64 z] w (LawOk w) := by
  by_cases h : z < 0 ∨ 17 < z ∨ 18 < a
  · exact far a z w h
  · have ha : a ≤ 18 := by omega
    have hz : z = 0 ∨ z = 1 ∨ z = 2 ∨ z = 3 ∨ z = 4 ∨ z = 5 ∨ z = 6 ∨ z = 7 ∨ z = 8 ∨ z = 9 ∨ z = 10 ∨ z = 11 ∨ z = 12 ∨ z = 13 ∨ z = 14 ∨ z = 15 ∨ z = 16 ∨ z = 17 := by omega
    rcases hz with rfl | rfl | rfl | rfl | rfl | rfl | rfl | rfl | rfl | rfl | rfl | rfl | rfl | rfl | rfl | rfl | rfl | rfl
    · exact near0 a w ha
    · exact near1 a w ha
    · exact near2 a w ha
    · exact near3 a w ha
    · exact near4 a w ha
    · exact near5 a w ha
    · exact near6 a w ha
    · exact near7 a w ha
    · exact near8 a w ha
    · exact near9 a w ha
    · exact near10 a w ha
    · exact near11 a w ha
    · exact near12 a w ha
    · exact near13 a w ha
    · exact near14 a w ha
    · exact near15 a w ha
    · exact near16 a w ha
    · exact near17 a w ha

set_option maxRecDepth 100000 in
theorem lifted (os : Os) (started : os.Started) (H : Type) (enc : TypeId × Value → H) :
    ReturnsInHanded {} Try.checked os 8 .any (Rows.unpackManySpec.pre6 enc Try.prog Try.f8 Rows.unpackManyRow.domain false) (Rows.unpackManySpec.post enc Try.prog Try.f8 false true false false) := by
  refine returnsInHanded_of_change (C := Try.checked) own_knob started (by kernel_rfl) Try.func8
    (ChangeSpec.witness6 (enc := enc) (C := Try.checked) false ⟨#[], #[.int .u32 0, .int .i64 0], []⟩ 8 (by kernel_rfl) (by kernel_rfl) (by kernel_rfl) (by kernel_rfl)) ?_
  intro W base args ds gs before hval0 hW _ _
  have hval : ∀ (j : Nat) t v, Try.f8.params[j]? = some t → args[j]? = some v → Value.okWide Try.prog W .any base t v := hval0
  have hW' := hW
  obtain ⟨p, q, hA0, hV, rfl, _, _⟩ := hW
  have hA : DataW.TrodAll enc Try.prog W 0 (fun _ => true) true Try.f8.params.toList args.toList ds p := hA0
  rw [Try.params8] at hA hval
  obtain ⟨v0, vs0, d0, ds0, p0, q0, hargs, rfl, rfl, h0, r0⟩ := trodAll_cons hA
  obtain ⟨v1, vs1, d1, ds1, p1, q1, rfl, rfl, rfl, h1, r1⟩ := trodAll_cons r0
  obtain ⟨rfl, rfl, rfl⟩ := trodAll_nil r1
  obtain rfl : args = #[v0, v1] := by cases args; simp_all
  obtain ⟨rfl, rfl⟩ := trodVars_none hV
  have hlt : ∀ x ∈ p0 ++ (p1), x.block < W.heap.size := fun x hx => hW'.lt x (by simpa using hx)
  obtain ⟨z0, rfl, rfl, rfl, w0⟩ := open_int Try.underlying25 (hval 0 25 v0 rfl rfl) h0
  obtain ⟨x0, rfl, hx0⟩ := u32_bounds w0
  obtain ⟨z1, rfl, rfl, rfl, w1⟩ := open_int Try.underlying3 (hval 1 3 v1 rfl rfl) h1
  have hz1 := bounds_i64 w1
  refine (walk x0 z1 W hx0 hz1).mono fun e W' ⟨he, hg⟩ => ?_
  subst he
  exact ⟨_, rfl, law_post hW' rfl (by kernel_rfl) rfl (by kernel_rfl) hg⟩

theorem proved : Rows.UnpackManySaid :=
  OpenClaim.holds_of_wide 8 Try.f8 rfl rfl rfl rfl rfl rfl rfl ⟨rfl, rfl, rfl, rfl, rfl⟩ rfl rfl rfl rfl rfl (by kernel_rfl) Try.func8 (by kernel_rfl)
    (of_decide_eq_true (by kernel_rfl)) (by unfold Func.isWrapper; first | (rw [if_pos (by decide +kernel)]; kernel_rfl) | (rw [if_neg (by decide +kernel)]; exact ⟨rfl, rfl⟩))
    (fun os started H enc _ => lifted os started H enc)

end Go.Proofs.Ytongpcfjfolfbaa.unpackMany
