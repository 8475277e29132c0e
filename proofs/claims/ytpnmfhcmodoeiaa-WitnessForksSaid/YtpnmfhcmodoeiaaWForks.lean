/- WitnessForks: for any fork and any number the call returns true: of three ways the least counts. No condition. -/
import Derived.Test.YtpnmfhcmodoeiaaDj
import Derived.Test.YtpnmfhcmodoeiaaSn
import Derived.Test.YtpnmfhcmodoeiaaW4
import Derived.Test.YtpnmfhcmodoeiaaNp
import Derived.StillTailTactics
namespace Go.Proofs.Ytpnmfhcmodoeiaa.witnessForks
open Go.ChangeShapes Go.WideShapes Go.ChangeAt Go.RowKit Go.Deep
structure Frk where
  a : Nat
  b : Nat
  c : Nat
  d : Nat
  e : Nat
  ha : a < 18446744073709551616
  hb : b < 18446744073709551616
  hc : c < 18446744073709551616
  hd : d < 18446744073709551616
  he : e < 18446744073709551616
def Frk.cells (x : Frk) : Array Value := #[.int .u64 (x.a : Int), .int .u64 (x.b : Int), .int .u64 (x.c : Int), .int .u64 (x.d : Int), .int .u64 (x.e : Int)]
set_option maxRecDepth 100000 in
theorem open_fork {H : Type} {encT : TypeId × Value → H} {W : World} {r : Reach} {b0 : Nat} {v : Value} {d : DataW H} {p : List MemPlace} (hv : Value.okWide Try.prog W r b0 62 v)
    (h : DataW.Trod encT Try.prog W 0 (fun _ => true) true 62 v d p) (_ : ∀ x ∈ p, x.block < W.heap.size) : ∃ x : Frk, v = .agg #[.int .u64 (x.a : Int), .int .u64 (x.b : Int), .int .u64 (x.c : Int), .int .u64 (x.d : Int), .int .u64 (x.e : Int)] := by
  obtain ⟨cs, rfl, hsz⟩ := okWide_struct Try.underlying62 hv
  obtain ⟨fuel, hf⟩ := h
  obtain ⟨xs, n, _, hx, hlen, hxl, hf⟩ := DataW.trod_struct Try.underlying62 hf
  have hC : Try.prog.cellsOf 62 = 5 := by kernel_rfl
  have k2 : Try.prog.cellsOf 27 = 1 := by kernel_rfl
  rw [hC] at hsz
  obtain ⟨v0, v1, v2, v3, v4, rfl⟩ : ∃ v0 v1 v2 v3 v4, cs = #[v0, v1, v2, v3, v4] := by
    match cs, hsz with
    | ⟨[c0, c1, c2, c3, c4]⟩, _ => exact ⟨c0, c1, c2, c3, c4, rfl⟩
  match xs, hxl with
  | [y0, y1, y2, y3, y4], _ =>
    have h0 := hf 0 _ rfl
    have h1 := hf 1 _ rfl
    have h2 := hf 2 _ rfl
    have h3 := hf 3 _ rfl
    have h4 := hf 4 _ rfl
    simp [Value.cells, k2] at h0 h1 h2 h3 h4
    obtain ⟨a0, e0, _, w0⟩ := DataW.trod_int Try.underlying27 h0
    obtain ⟨a1, e1, _, w1⟩ := DataW.trod_int Try.underlying27 h1
    obtain ⟨a2, e2, _, w2⟩ := DataW.trod_int Try.underlying27 h2
    obtain ⟨a3, e3, _, w3⟩ := DataW.trod_int Try.underlying27 h3
    obtain ⟨a4, e4, _, w4⟩ := DataW.trod_int Try.underlying27 h4
    obtain ⟨m0, rfl, b0⟩ := u64_bounds w0
    obtain ⟨m1, rfl, b1⟩ := u64_bounds w1
    obtain ⟨m2, rfl, b2⟩ := u64_bounds w2
    obtain ⟨m3, rfl, b3⟩ := u64_bounds w3
    obtain ⟨m4, rfl, b4⟩ := u64_bounds w4
    simp at e0 e1 e2 e3 e4
    exact ⟨⟨m0, m1, m2, m3, m4, b0, b1, b2, b3, b4⟩, by rw [e0, e1, e2, e3, e4]⟩
/-- what a fork tells of a vertex -/
def forkE (x : Frk) : Nat → List Edg
  | 0 => [⟨0, 1, x.a, 0, by omega, by omega, x.ha, by omega⟩, ⟨0, 2, x.c, 0, by omega, by omega, x.hc, by omega⟩, ⟨0, 3, x.e, 0, by omega, by omega, x.he, by omega⟩]
  | 1 => [⟨1, 3, x.b, 0, by omega, by omega, x.hb, by omega⟩]
  | 2 => [⟨2, 3, x.d, 0, by omega, by omega, x.hd, by omega⟩]
  | _ => []
def forkOut (x : Frk) (v : Nat) : List Edg × Int := (forkE x v, 0)
theorem forkE_more (x : Frk) {v : Nat} (h0 : v ≠ 0) (h1 : v ≠ 1) (h2 : v ≠ 2) : forkE x v = [] := by
  match v, h0, h1, h2 with
  | 0, h, _, _ => exact absurd rfl h
  | 1, _, h, _ => exact absurd rfl h
  | 2, _, _, h => exact absurd rfl h
  | _ + 3, _, _, _ => rfl
theorem forkOut_len (x : Frk) (v : Nat) : (forkOut x v).1.length ≤ 4000 := by
  match v with
  | 0 | 1 | 2 => simp [forkOut, forkE]
  | _ + 3 => simp [forkOut, forkE]
/-- the ways of a fork -/
theorem fork_ways {x : Frk} {v d : Nat} (h : Way (forkOut x) (fun _ => false) 0 v d) :
    (v = 0 ∧ d = 0) ∨ (v = 1 ∧ d = x.a) ∨ (v = 2 ∧ d = x.c) ∨ (v = 3 ∧ ((d = x.e ∧ x.e < 9223372036854775808) ∨ (d = x.a + x.b ∧ x.a + x.b < 9223372036854775808) ∨ (d = x.c + x.d ∧ x.c + x.d < 9223372036854775808))) := by
  induction h with
  | start => exact .inl ⟨rfl, rfl⟩
  | step v d y _ hy hd _ ih =>
    have hy : y ∈ forkE x v := hy
    rcases ih with ⟨rfl, rfl⟩ | ⟨rfl, rfl⟩ | ⟨rfl, rfl⟩ | ⟨rfl, _⟩
    · simp only [forkE, List.mem_cons, List.not_mem_nil, or_false] at hy
      rcases hy with rfl | rfl | rfl
      · simp
      · simp
      · simp only at hd ⊢; simp; omega
    · simp only [forkE, List.mem_cons, List.not_mem_nil, or_false] at hy
      subst hy
      simp only at hd ⊢; simp; omega
    · simp only [forkE, List.mem_cons, List.not_mem_nil, or_false] at hy
      subst hy
      simp only at hd ⊢; simp; omega
    · simp [forkE] at hy
/-- is one of three ways short enough? -/
def forkB (x : Frk) (most : Nat) : Bool := (decide (x.e < 9223372036854775808) && decide (x.e ≤ most)) || (fitsB x.a x.b && decide (sumV x.a x.b ≤ most)) || (fitsB x.c x.d && decide (sumV x.c x.d ≤ most))
theorem forkB_iff {x : Frk} {most : Nat} : forkB x most = true ↔ (x.e < 9223372036854775808 ∧ x.e ≤ most) ∨ (x.a + x.b < 9223372036854775808 ∧ x.a + x.b ≤ most) ∨ (x.c + x.d < 9223372036854775808 ∧ x.c + x.d ≤ most) := by
  unfold forkB fitsB sumV
  simp only [Bool.or_eq_true, Bool.and_eq_true, decide_eq_true_iff, or_assoc]
  constructor
  · rintro (h | ⟨h1, h2⟩ | ⟨h1, h2⟩)
    · exact .inl h
    · rw [if_pos h1] at h2; exact .inr (.inl ⟨h1, h2⟩)
    · rw [if_pos h1] at h2; exact .inr (.inr ⟨h1, h2⟩)
  · rintro (h | ⟨h1, h2⟩ | ⟨h1, h2⟩)
    · exact .inl h
    · exact .inr (.inl ⟨h1, by rw [if_pos h1]; exact h2⟩)
    · exact .inr (.inr ⟨h1, by rw [if_pos h1]; exact h2⟩)
theorem fork_finds {x : Frk} {most : Nat} {a : List Nat} {b : Bool} {e : Int} (h : Finds (forkOut x) (fun _ => false) 0 3 most a b e) : b = forkB x most ∧ e = 0 := by
  obtain ⟨h1, h2⟩ := finds_complete (V := [0, 1, 2, 3]) h (by decide) (fun v d hw => by
    rcases fork_ways hw with ⟨rfl, _⟩ | ⟨rfl, _⟩ | ⟨rfl, _⟩ | ⟨rfl, _⟩ <;> simp) (fun v => rfl)
  refine ⟨?_, h1⟩
  cases hB : forkB x most with
  | true =>
    have w0 : Way (forkOut x) (fun _ => false) 0 0 0 := .start
    rcases forkB_iff.1 hB with ⟨k1, k2⟩ | ⟨k1, k2⟩ | ⟨k1, k2⟩
    · refine h2 _ (.step 0 0 ⟨0, 3, x.e, 0, by omega, by omega, x.he, by omega⟩ w0 (by simp [forkOut, forkE]) (by simp; omega) rfl) ?_
      simp; omega
    · have w1 := Way.step 0 0 ⟨0, 1, x.a, 0, by omega, by omega, x.ha, by omega⟩ w0 (by simp [forkOut, forkE]) (by simp; omega) rfl
      refine h2 _ (.step 1 (0 + x.a) ⟨1, 3, x.b, 0, by omega, by omega, x.hb, by omega⟩ w1 (by simp [forkOut, forkE]) (by simp; omega) rfl) ?_
      simp; omega
    · have w1 := Way.step 0 0 ⟨0, 2, x.c, 0, by omega, by omega, x.hc, by omega⟩ w0 (by simp [forkOut, forkE]) (by simp; omega) rfl
      refine h2 _ (.step 2 (0 + x.c) ⟨2, 3, x.d, 0, by omega, by omega, x.hd, by omega⟩ w1 (by simp [forkOut, forkE]) (by simp; omega) rfl) ?_
      simp; omega
  | false =>
    cases b with
    | false => rfl
    | true =>
      obtain ⟨d, hw, hd⟩ := finds_sound h
      exfalso
      have : forkB x most = true := by
        rw [forkB_iff]
        rcases fork_ways hw with ⟨h3, _⟩ | ⟨h3, _⟩ | ⟨h3, _⟩ | ⟨_, h3⟩
        · omega
        · omega
        · omega
        · omega
      rw [hB] at this; cases this
theorem dle (a b : Nat) : decide (a ≤ b) = decide ((a : Int) ≤ (b : Int)) := by
  rw [Bool.eq_iff_iff, decide_eq_true_iff, decide_eq_true_iff]; omega
theorem fork_split (x : Frk) (most : Nat) : ∃ g : Bool, Hid (g = true ↔ (x.e : Int) < 9223372036854775808) ∧ Hid (forkB x most = ((g && decide ((x.e : Int) ≤ (most : Int))) || (fitsB x.a x.b && decide ((sumV x.a x.b : Int) ≤ (most : Int))) || (fitsB x.c x.d && decide ((sumV x.c x.d : Int) ≤ (most : Int))))) := by
  refine ⟨decide (x.e < 9223372036854775808), Lib.hid ?_, Lib.hid ?_⟩
  · rw [decide_eq_true_iff]; omega
  · unfold forkB
    rw [dle, dle, dle]
def ForkAt (FB : Nat) (x : Frk) (w : World) : Prop := w.heap[FB]? = some (.cells x.cells 62 (0, 0))
set_option maxRecDepth 100000 in
theorem fork_out0 (FB : Nat) (x : Frk) (w : World) (h : ForkAt FB x w) (v : Nat) (hv : v = 0) : Calls Try.prog 26 #[.pointer (some ⟨FB, 0, none⟩), .int .u32 (v : Int)] w fun e w' => ∃ A c, e = .returned (.tuple #[.slice A (forkOut x v).1.length c, .int .i64 (forkOut x v).2]) ∧ OwnS w' w.heap.size 67 4 Edg.enc (.slice A (forkOut x v).1.length c) (forkOut x v).1 ∧ Below w.heap.size w w' := by
  subst hv
  have c0 : w.cell? ⟨FB, 0, none⟩ = some (.int .u64 (x.a : Int)) := cell_of_row _ _ 0 _ _ _ h
  have c1 : w.cell? ⟨FB, 1, none⟩ = some (.int .u64 (x.b : Int)) := cell_of_row _ _ 1 _ _ _ h
  have c2 : w.cell? ⟨FB, 2, none⟩ = some (.int .u64 (x.c : Int)) := cell_of_row _ _ 2 _ _ _ h
  have c3 : w.cell? ⟨FB, 3, none⟩ = some (.int .u64 (x.d : Int)) := cell_of_row _ _ 3 _ _ _ h
  have c4 : w.cell? ⟨FB, 4, none⟩ = some (.int .u64 (x.e : Int)) := cell_of_row _ _ 4 _ _ _ h
  clear h
  go_enter Try.func26, Try.ntmps26
  go_wp2_with fail
  refine wp_region_still_tail 15 (by kernel_rfl) (by kernel_rfl) ?_
  simp only [List.take_succ_cons, List.take_zero, List.drop_succ_cons, List.drop_zero]
  repeat still_step
  try refine wpStill_nil ?_
  change wpList _ _ _ _ _ w.drew
  have hb0 : Below w.heap.size w w.drew := below_drewN (Below.refl _ _) 1
  have HS0 : Hid (w.drew.heap.size = w.heap.size) := Lib.hid rfl
  generalize w.drew = w2 at *
  go_wp2_with fail
  go_ret2
  refine ⟨some ⟨w2.heap.size, 0, none⟩, 3, rfl, OwnS.many (forkE x 0) (fun _ => rfl) (heap_alloc_new _ _) rfl (by have := HS0.out; omega) (by simp [forkE, maxLen]), hb0.alloc (by have := HS0.out; omega) _⟩
theorem fork_out1 (FB : Nat) (x : Frk) (w : World) (h : ForkAt FB x w) (v : Nat) (hv : v = 1) : Calls Try.prog 26 #[.pointer (some ⟨FB, 0, none⟩), .int .u32 (v : Int)] w fun e w' => ∃ A c, e = .returned (.tuple #[.slice A (forkOut x v).1.length c, .int .i64 (forkOut x v).2]) ∧ OwnS w' w.heap.size 67 4 Edg.enc (.slice A (forkOut x v).1.length c) (forkOut x v).1 ∧ Below w.heap.size w w' := by
  subst hv
  have c0 : w.cell? ⟨FB, 0, none⟩ = some (.int .u64 (x.a : Int)) := cell_of_row _ _ 0 _ _ _ h
  have c1 : w.cell? ⟨FB, 1, none⟩ = some (.int .u64 (x.b : Int)) := cell_of_row _ _ 1 _ _ _ h
  have c2 : w.cell? ⟨FB, 2, none⟩ = some (.int .u64 (x.c : Int)) := cell_of_row _ _ 2 _ _ _ h
  have c3 : w.cell? ⟨FB, 3, none⟩ = some (.int .u64 (x.d : Int)) := cell_of_row _ _ 3 _ _ _ h
  have c4 : w.cell? ⟨FB, 4, none⟩ = some (.int .u64 (x.e : Int)) := cell_of_row _ _ 4 _ _ _ h
  clear h
  go_enter Try.func26, Try.ntmps26
  go_wp2_with fail
  go_ret2
  refine ⟨some ⟨w.heap.size, 0, none⟩, 1, rfl, OwnS.many (forkE x 1) (fun _ => rfl) (heap_alloc_new _ _) rfl (by omega) (by simp [forkE, maxLen]), (Below.refl _ _).alloc (by omega) _⟩
theorem fork_out2 (FB : Nat) (x : Frk) (w : World) (h : ForkAt FB x w) (v : Nat) (hv : v = 2) : Calls Try.prog 26 #[.pointer (some ⟨FB, 0, none⟩), .int .u32 (v : Int)] w fun e w' => ∃ A c, e = .returned (.tuple #[.slice A (forkOut x v).1.length c, .int .i64 (forkOut x v).2]) ∧ OwnS w' w.heap.size 67 4 Edg.enc (.slice A (forkOut x v).1.length c) (forkOut x v).1 ∧ Below w.heap.size w w' := by
  subst hv
  have c0 : w.cell? ⟨FB, 0, none⟩ = some (.int .u64 (x.a : Int)) := cell_of_row _ _ 0 _ _ _ h
  have c1 : w.cell? ⟨FB, 1, none⟩ = some (.int .u64 (x.b : Int)) := cell_of_row _ _ 1 _ _ _ h
  have c2 : w.cell? ⟨FB, 2, none⟩ = some (.int .u64 (x.c : Int)) := cell_of_row _ _ 2 _ _ _ h
  have c3 : w.cell? ⟨FB, 3, none⟩ = some (.int .u64 (x.d : Int)) := cell_of_row _ _ 3 _ _ _ h
  have c4 : w.cell? ⟨FB, 4, none⟩ = some (.int .u64 (x.e : Int)) := cell_of_row _ _ 4 _ _ _ h
  clear h
  go_enter Try.func26, Try.ntmps26
  go_wp2_with fail
  go_ret2
  refine ⟨some ⟨w.heap.size, 0, none⟩, 1, rfl, OwnS.many (forkE x 2) (fun _ => rfl) (heap_alloc_new _ _) rfl (by omega) (by simp [forkE, maxLen]), (Below.refl _ _).alloc (by omega) _⟩
theorem fork_out3 (FB : Nat) (x : Frk) (w : World) (v : Nat) (h0 : v ≠ 0) (h1 : v ≠ 1) (h2 : v ≠ 2) : Calls Try.prog 26 #[.pointer (some ⟨FB, 0, none⟩), .int .u32 (v : Int)] w fun e w' => ∃ A c, e = .returned (.tuple #[.slice A (forkOut x v).1.length c, .int .i64 (forkOut x v).2]) ∧ OwnS w' w.heap.size 67 4 Edg.enc (.slice A (forkOut x v).1.length c) (forkOut x v).1 ∧ Below w.heap.size w w' := by
  have hE : forkOut x v = ([], 0) := by unfold forkOut; rw [forkE_more x h0 h1 h2]
  rw [hE]
  have g0 : ((v : Int) == 0) = false := by rw [beq_eq_false_iff_ne]; omega
  have g1 : ((v : Int) == 1) = false := by rw [beq_eq_false_iff_ne]; omega
  have g2 : ((v : Int) == 2) = false := by rw [beq_eq_false_iff_ne]; omega
  clear h0 h1 h2 hE
  go_enter Try.func26, Try.ntmps26
  go_wp2_with fail
  go_ret2
  exact ⟨none, 0, rfl, OwnS.nil _ _ _ _ _, Below.refl _ _⟩
theorem fork_shun (p : Value) (v : Nat) (w : World) : Calls Try.prog 27 #[p, .int .u32 (v : Int)] w fun e w' => e = .returned (.bool false) ∧ w = w' := by
  go_enter Try.func27, Try.ntmps27
  go_wp2_with fail
  go_ret
  exact ⟨rfl, rfl⟩
theorem fork_net (B FB : Nat) (x : Frk) (hB : FB < B) : StillC B 26 27 (.pointer (some ⟨FB, 0, none⟩)) (forkOut x) (fun _ => false) (ForkAt FB x) where
  enterO := fun args w => run_enter Try.func26 (by kernel_rfl) (by rfl) args w
  enterA := fun args w => run_enter Try.func27 (by kernel_rfl) (by rfl) args w
  ask := fun v w _ hI _ => by
    by_cases h0 : v = 0
    · exact fork_out0 FB x w hI v h0
    · by_cases h1 : v = 1
      · exact fork_out1 FB x w hI v h1
      · by_cases h2 : v = 2
        · exact fork_out2 FB x w hI v h2
        · exact fork_out3 FB x w v h0 h1 h2
  shun := fun v w _ _ => fork_shun _ v w
  stay := fun w w' hI hb => (hb FB hB).trans hI
set_option maxRecDepth 100000 in
set_option maxHeartbeats 4000000 in
theorem walk (x : Frk) (most : Nat) (w : World) (hm : most < 18446744073709551616) : Calls Try.prog 10 #[.agg #[.int .u64 (x.a : Int), .int .u64 (x.b : Int), .int .u64 (x.c : Int), .int .u64 (x.d : Int), .int .u64 (x.e : Int)], .int .u64 (most : Int)] w (LawOk w) := by
  have HW := Lib.hid works_any
  obtain ⟨W1, hW1⟩ : ∃ W1, w.alloc (.cells x.cells 62) = W1 := ⟨_, rfl⟩
  have hR : ForkAt w.heap.size x W1 := by rw [← hW1]; exact heap_alloc_new _ _
  have hb : Below w.heap.size w W1 := by rw [← hW1]; exact (Below.refl _ _).alloc (Nat.le_refl _) _
  have hs : W1.heap.size = w.heap.size + 1 := by rw [← hW1]; simp
  have HF := Lib.hid (find_still (fork_net (w.heap.size + 1) w.heap.size x (by omega)) (forkOut_len x) 0 3 most (by omega) W1 hR (by omega))
  unfold Frk.cells at hW1
  have HW1 := Lib.hid hW1
  have HB := Lib.hid hb
  have HR := Lib.hid hR
  have HFB : Hid (w.heap.size < W1.heap.size) := Lib.hid (by omega)
  clear hW1 hR hb hs
  have HB1 := Lib.hid (fun (w1 : World) (h : Below W1.heap.size W1 w1) => (h.block w.heap.size HFB.out).trans HR.out)
  go_enter Try.func10, Try.ntmps10
  go_wp2_with fail
  rw [HW1.out]
  refine HF.out.mono ?_
  rintro e w1 ⟨a, b, er, h1, rfl, hb1⟩
  obtain ⟨rfl, rfl⟩ := fork_finds h1
  have h := HB1.out w1 hb1
  have c0 : w1.cell? ⟨w.heap.size, 0, none⟩ = some (.int .u64 (x.a : Int)) := cell_of_row _ _ 0 _ _ _ h
  have c1 : w1.cell? ⟨w.heap.size, 1, none⟩ = some (.int .u64 (x.b : Int)) := cell_of_row _ _ 1 _ _ _ h
  have c2 : w1.cell? ⟨w.heap.size, 2, none⟩ = some (.int .u64 (x.c : Int)) := cell_of_row _ _ 2 _ _ _ h
  have c3 : w1.cell? ⟨w.heap.size, 3, none⟩ = some (.int .u64 (x.d : Int)) := cell_of_row _ _ 3 _ _ _ h
  have HBw := Lib.hid (HB.out.trans (hb1.mono HB.out.size))
  clear h h1 hb1 HB1 HB HR HFB HF
  obtain ⟨g, HG, HQ⟩ := fork_split x most
  generalize forkB x most = q at *
  have HA1 := Lib.hid (refAdd_any x.a x.b w1)
  have HA2 := Lib.hid (refAdd_any x.c x.d w1)
  generalize sumV x.a x.b = s1 at *
  generalize sumV x.c x.d = s2 at *
  generalize fitsB x.a x.b = f1 at *
  generalize fitsB x.c x.d = f2 at *
  cases g with
  | true =>
    have hA := HG.out.1 rfl
    clear HG
    by_cases hB : x.e ≤ most
    · have hB' : (x.e : Int) ≤ (most : Int) := by omega
      have hq : q = true := by rw [HQ.out, decide_eq_true hB', Bool.and_self, Bool.true_or, Bool.true_or]
      subst hq
      clear HQ
      go_wp2_with fail
      refine HA1.out.mono ?_
      rintro e w2 ⟨rfl, rfl⟩
      go_wp2_with fail
      refine HA2.out.mono ?_
      rintro e w2 ⟨rfl, rfl⟩
      clear HA1 HA2 HW1
      go_wp2_with (go_at_call 12; with_reducible refine (HW.out _).mono ?_; rintro e w9 ⟨rfl, hb9⟩)
      go_ret
      exact ⟨rfl, HBw.out.trans (hb9.mono HBw.out.size)⟩
    · have hB' : ¬ (x.e : Int) ≤ (most : Int) := by omega
      have HQ3 : Hid (q = ((f1 && decide ((s1 : Int) ≤ (most : Int))) || (f2 && decide ((s2 : Int) ≤ (most : Int))))) := Lib.hid (by rw [HQ.out, decide_eq_false hB', Bool.and_false, Bool.false_or])
      clear HQ
      go_wp2_with fail
      refine HA1.out.mono ?_
      rintro e w2 ⟨rfl, rfl⟩
      go_wp2_with fail
      refine HA2.out.mono ?_
      rintro e w2 ⟨rfl, rfl⟩
      clear HA1 HA2 HW1
      cases f1 with
      | false =>
        have HQ4 : Hid (q = (f2 && decide ((s2 : Int) ≤ (most : Int)))) := Lib.hid (by rw [HQ3.out, Bool.false_and, Bool.false_or])
        clear HQ3
        cases f2 with
        | false =>
          have hq : q = false := by rw [HQ4.out]; rfl
          subst hq
          clear HQ4
          go_wp2_with (go_at_call 12; with_reducible refine (HW.out _).mono ?_; rintro e w9 ⟨rfl, hb9⟩)
          go_ret
          exact ⟨rfl, HBw.out.trans (hb9.mono HBw.out.size)⟩
        | true =>
          by_cases hC : s2 ≤ most
          · have hC' : (s2 : Int) ≤ (most : Int) := by omega
            have hq : q = true := by rw [HQ4.out, decide_eq_true hC']; rfl
            subst hq
            clear HQ4
            go_wp2_with (go_at_call 12; with_reducible refine (HW.out _).mono ?_; rintro e w9 ⟨rfl, hb9⟩)
            go_ret
            exact ⟨rfl, HBw.out.trans (hb9.mono HBw.out.size)⟩
          · have hC' : ¬ (s2 : Int) ≤ (most : Int) := by omega
            have hq : q = false := by rw [HQ4.out, decide_eq_false hC']; rfl
            subst hq
            clear HQ4
            go_wp2_with (go_at_call 12; with_reducible refine (HW.out _).mono ?_; rintro e w9 ⟨rfl, hb9⟩)
            go_ret
            exact ⟨rfl, HBw.out.trans (hb9.mono HBw.out.size)⟩
      | true =>
        by_cases hD : s1 ≤ most
        · have hD' : (s1 : Int) ≤ (most : Int) := by omega
          have hq : q = true := by rw [HQ3.out, decide_eq_true hD']; rfl
          subst hq
          clear HQ3
          go_wp2_with (go_at_call 12; with_reducible refine (HW.out _).mono ?_; rintro e w9 ⟨rfl, hb9⟩)
          go_ret
          exact ⟨rfl, HBw.out.trans (hb9.mono HBw.out.size)⟩
        · have hD' : ¬ (s1 : Int) ≤ (most : Int) := by omega
          have HQ4 : Hid (q = (f2 && decide ((s2 : Int) ≤ (most : Int)))) := Lib.hid (by rw [HQ3.out, decide_eq_false hD', Bool.and_false, Bool.false_or])
          clear HQ3
          cases f2 with
          | false =>
            have hq : q = false := by rw [HQ4.out]; rfl
            subst hq
            clear HQ4
            go_wp2_with (go_at_call 12; with_reducible refine (HW.out _).mono ?_; rintro e w9 ⟨rfl, hb9⟩)
            go_ret
            exact ⟨rfl, HBw.out.trans (hb9.mono HBw.out.size)⟩
          | true =>
            by_cases hC : s2 ≤ most
            · have hC' : (s2 : Int) ≤ (most : Int) := by omega
              have hq : q = true := by rw [HQ4.out, decide_eq_true hC']; rfl
              subst hq
              clear HQ4
              go_wp2_with (go_at_call 12; with_reducible refine (HW.out _).mono ?_; rintro e w9 ⟨rfl, hb9⟩)
              go_ret
              exact ⟨rfl, HBw.out.trans (hb9.mono HBw.out.size)⟩
            · have hC' : ¬ (s2 : Int) ≤ (most : Int) := by omega
              have hq : q = false := by rw [HQ4.out, decide_eq_false hC']; rfl
              subst hq
              clear HQ4
              go_wp2_with (go_at_call 12; with_reducible refine (HW.out _).mono ?_; rintro e w9 ⟨rfl, hb9⟩)
              go_ret
              exact ⟨rfl, HBw.out.trans (hb9.mono HBw.out.size)⟩
  | false =>
    have hA : decide ((x.e : Int) < 9223372036854775808) = false := decide_eq_false fun e => by have := HG.out.2 e; cases this
    have HQ3 : Hid (q = ((f1 && decide ((s1 : Int) ≤ (most : Int))) || (f2 && decide ((s2 : Int) ≤ (most : Int))))) := Lib.hid (by rw [HQ.out, Bool.false_and, Bool.false_or])
    clear HQ HG
    go_wp2_with fail
    refine HA1.out.mono ?_
    rintro e w2 ⟨rfl, rfl⟩
    go_wp2_with fail
    refine HA2.out.mono ?_
    rintro e w2 ⟨rfl, rfl⟩
    clear HA1 HA2 HW1
    cases f1 with
    | false =>
      have HQ4 : Hid (q = (f2 && decide ((s2 : Int) ≤ (most : Int)))) := Lib.hid (by rw [HQ3.out, Bool.false_and, Bool.false_or])
      clear HQ3
      cases f2 with
      | false =>
        have hq : q = false := by rw [HQ4.out]; rfl
        subst hq
        clear HQ4
        go_wp2_with (go_at_call 12; with_reducible refine (HW.out _).mono ?_; rintro e w9 ⟨rfl, hb9⟩)
        go_ret
        exact ⟨rfl, HBw.out.trans (hb9.mono HBw.out.size)⟩
      | true =>
        by_cases hC : s2 ≤ most
        · have hC' : (s2 : Int) ≤ (most : Int) := by omega
          have hq : q = true := by rw [HQ4.out, decide_eq_true hC']; rfl
          subst hq
          clear HQ4
          go_wp2_with (go_at_call 12; with_reducible refine (HW.out _).mono ?_; rintro e w9 ⟨rfl, hb9⟩)
          go_ret
          exact ⟨rfl, HBw.out.trans (hb9.mono HBw.out.size)⟩
        · have hC' : ¬ (s2 : Int) ≤ (most : Int) := by omega
          have hq : q = false := by rw [HQ4.out, decide_eq_false hC']; rfl
          subst hq
          clear HQ4
          go_wp2_with (go_at_call 12; with_reducible refine (HW.out _).mono ?_; rintro e w9 ⟨rfl, hb9⟩)
          go_ret
          exact ⟨rfl, HBw.out.trans (hb9.mono HBw.out.size)⟩
    | true =>
      by_cases hD : s1 ≤ most
      · have hD' : (s1 : Int) ≤ (most : Int) := by omega
        have hq : q = true := by rw [HQ3.out, decide_eq_true hD']; rfl
        subst hq
        clear HQ3
        go_wp2_with (go_at_call 12; with_reducible refine (HW.out _).mono ?_; rintro e w9 ⟨rfl, hb9⟩)
        go_ret
        exact ⟨rfl, HBw.out.trans (hb9.mono HBw.out.size)⟩
      · have hD' : ¬ (s1 : Int) ≤ (most : Int) := by omega
        have HQ4 : Hid (q = (f2 && decide ((s2 : Int) ≤ (most : Int)))) := Lib.hid (by rw [HQ3.out, decide_eq_false hD', Bool.and_false, Bool.false_or])
        clear HQ3
        cases f2 with
        | false =>
          have hq : q = false := by rw [HQ4.out]; rfl
          subst hq
          clear HQ4
          go_wp2_with (go_at_call 12; with_reducible refine (HW.out _).mono ?_; rintro e w9 ⟨rfl, hb9⟩)
          go_ret
          exact ⟨rfl, HBw.out.trans (hb9.mono HBw.out.size)⟩
        | true =>
          by_cases hC : s2 ≤ most
          · have hC' : (s2 : Int) ≤ (most : Int) := by omega
            have hq : q = true := by rw [HQ4.out, decide_eq_true hC']; rfl
            subst hq
            clear HQ4
            go_wp2_with (go_at_call 12; with_reducible refine (HW.out _).mono ?_; rintro e w9 ⟨rfl, hb9⟩)
            go_ret
            exact ⟨rfl, HBw.out.trans (hb9.mono HBw.out.size)⟩
          · have hC' : ¬ (s2 : Int) ≤ (most : Int) := by omega
            have hq : q = false := by rw [HQ4.out, decide_eq_false hC']; rfl
            subst hq
            clear HQ4
            go_wp2_with (go_at_call 12; with_reducible refine (HW.out _).mono ?_; rintro e w9 ⟨rfl, hb9⟩)
            go_ret
            exact ⟨rfl, HBw.out.trans (hb9.mono HBw.out.size)⟩

set_option maxRecDepth 100000 in
theorem lifted (os : Os) (started : os.Started) (H : Type) (enc : TypeId × Value → H) :
    ReturnsInHanded {} Try.checked os 10 .any (Rows.witnessForksSpec.pre6 enc Try.prog Try.f10 Rows.witnessForksRow.domain false) (Rows.witnessForksSpec.post enc Try.prog Try.f10 false true false false) := by
  refine returnsInHanded_of_change (C := Try.checked) own_knob started (by kernel_rfl) Try.func10
    (ChangeSpec.witness6 (enc := enc) (C := Try.checked) false ⟨#[], #[.agg #[.int .u64 0,.int .u64 0,.int .u64 0,.int .u64 0,.int .u64 0], .int .u64 0], []⟩ 8 (by kernel_rfl) (by kernel_rfl) (by kernel_rfl) (by kernel_rfl)) ?_
  intro W base args ds gs before hval0 hW _ _
  have hval : ∀ (j : Nat) t v, Try.f10.params[j]? = some t → args[j]? = some v → Value.okWide Try.prog W .any base t v := hval0
  have hW' := hW
  obtain ⟨p, q, hA0, hV, rfl, _, _⟩ := hW
  have hA : DataW.TrodAll enc Try.prog W 0 (fun _ => true) true Try.f10.params.toList args.toList ds p := hA0
  rw [Try.params10] at hA hval
  obtain ⟨v0, vs0, d0, ds0, p0, q0, hargs, rfl, rfl, h0, r0⟩ := trodAll_cons hA
  obtain ⟨v1, vs1, d1, ds1, p1, q1, rfl, rfl, rfl, h1, r1⟩ := trodAll_cons r0
  obtain ⟨rfl, rfl, rfl⟩ := trodAll_nil r1
  obtain rfl : args = #[v0, v1] := by cases args; simp_all
  obtain ⟨rfl, rfl⟩ := trodVars_none hV
  have hlt : ∀ x ∈ p0 ++ (p1), x.block < W.heap.size := fun x hx => hW'.lt x (by simpa using hx)
  obtain ⟨x0, rfl⟩ := open_fork (hval 0 62 v0 rfl rfl) h0 (fun x hx => hlt x (by simp [hx]))
  obtain ⟨z1, rfl, rfl, rfl, w1⟩ := open_int Try.underlying27 (hval 1 27 v1 rfl rfl) h1
  obtain ⟨x1, rfl, hx1⟩ := u64_bounds w1
  refine (walk x0 x1 W hx1).mono fun e W' ⟨he, hg⟩ => ?_
  subst he
  exact ⟨_, rfl, law_post hW' rfl (by kernel_rfl) rfl (by kernel_rfl) hg⟩

theorem proved : Rows.WitnessForksSaid :=
  OpenClaim.holds_of_wide 10 Try.f10 rfl rfl rfl rfl rfl rfl rfl ⟨rfl, rfl, rfl, rfl, rfl⟩ rfl rfl rfl rfl rfl (by kernel_rfl) Try.func10 (by kernel_rfl)
    (of_decide_eq_true (by kernel_rfl)) (by unfold Func.isWrapper; first | (rw [if_pos (by decide +kernel)]; kernel_rfl) | (rw [if_neg (by decide +kernel)]; exact ⟨rfl, rfl⟩))
    (fun os started H enc _ => lifted os started H enc)

end Go.Proofs.Ytpnmfhcmodoeiaa.witnessForks
