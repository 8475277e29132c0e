/- The contracts of Row.First, along, Ring.First. -/
import Derived.Test.YtongpcfjfolfbaaUr
import Derived.Test.YtongpcfjfolfbaaSf
namespace Go.Proofs.Ytongpcfjfolfbaa
open Go.RowKit

/-- a row in memory -/
def RowAt (S : Nat) (left round : Bool) (w : World) : Prop := w.cell? ⟨S, 0, none⟩ = some (.bool left) ∧ w.cell? ⟨S, 1, none⟩ = some (.bool round)
theorem row_stays {S M : Nat} {left round : Bool} (hS : S < M) : Stays M (RowAt S left round) := fun _ _ h hb =>
  ⟨(World.cell?_of_block (a := ⟨S, 0, none⟩) (hb S hS)).trans h.1, (World.cell?_of_block (a := ⟨S, 1, none⟩) (hb S hS)).trans h.2⟩

theorem mkE_agg {t h wt m : Nat} (h1 : t < 4294967296) (h2 : h < 4294967296) (h3 : wt < 18446744073709551616) (h4 : m < 4294967296) : (mkE t h wt m).agg = .agg #[.int .u32 (t : Int), .int .u32 (h : Int), .int .u64 (wt : Int), .int .u32 (m : Int)] := by
  unfold Edg.agg
  rw [mkE_tail h1, mkE_head h2, mkE_weight h3, mkE_mid h4]
theorem mkE_wrap (t h wt m : Nat) : mkE t h (wt % 18446744073709551616) m = mkE t h wt m := by
  apply Edg.ext_ <;> simp [mkE]
theorem rowFirst_round (S : Nat) (a b : Nat) (ha : a < 4294967296) (hb : b < 4294967296) (w : World) (h : RowAt S false true w) :
    Calls Try.prog 20 #[.pointer (some ⟨S, 0, none⟩), .int .u32 (a : Int), .int .u32 (b : Int)] w fun e w' => e = .returned (.tuple #[(rowG false true a b).1.agg, .int .i64 (rowG false true a b).2]) ∧ Below w.heap.size w w' := by
  have hS : S < w.heap.size := World.block_lt_of_cell? w _ h.1
  have hbw : Below w.heap.size w (w.alloc (.cells #[.int .u32 0, .int .u32 0, .int .u64 0, .int .u32 0] 42)) := (Below.refl _ _).alloc (Nat.le_refl _) _
  have hrow : (w.alloc (.cells #[.int .u32 0, .int .u32 0, .int .u64 0, .int .u32 0] 42)).heap[w.heap.size]? = some (.cells Edg.nil.cells 42 (0, 0)) := heap_alloc_new w _
  have y0 := (hbw.cell (p := ⟨S, 0, none⟩) hS).trans h.1
  have y1 := (hbw.cell (p := ⟨S, 1, none⟩) hS).trans h.2
  have e1 : IntKind.u64.wrap ((b : Int) - (a : Int)) = (((b + 18446744073709551616 - a) % 18446744073709551616 : Nat) : Int) := by rw [IntKind.wrap_u64]; omega
  have HV : Hid ((rowG false true a b).1.agg = .agg #[.int .u32 (a : Int), .int .u32 (b : Int), .int .u64 (((b + 18446744073709551616 - a) % 18446744073709551616 : Nat) : Int), .int .u32 (a : Int)] ∧ (rowG false true a b).2 = 0) := by
    have hg : rowG false true a b = (mkE a b (b + 18446744073709551616 - a) a, 0) := if_pos rfl
    show _ ∧ _
    rw [hg, ← mkE_wrap]
    exact ⟨mkE_agg ha hb (Nat.mod_lt _ (by omega)) ha, rfl⟩
  generalize (b + 18446744073709551616 - a) % 18446744073709551616 = wt at *
  go_enter Try.func20, Try.ntmps20
  go_wp2_with fail
  exact bodyPost_ret (v := .tuple #[.agg #[.int .u32 (a:Int), .int .u32 (b:Int), .int .u64 (wt:Int), .int .u32 (a:Int)], .int .i64 0]) (by simp [results, Try.results20, go_sem]) rfl ⟨(by rw [HV.out.1, HV.out.2]), ((Below.refl _ _).alloc (Nat.le_refl _) _).alloc (by simp) _⟩
theorem rowFirst_back (S : Nat) (left : Bool) (a b : Nat) (ha : a < 4294967296) (hb : b < 4294967296) (h9 : b ≤ a) (w : World) (h : RowAt S left false w) :
    Calls Try.prog 20 #[.pointer (some ⟨S, 0, none⟩), .int .u32 (a : Int), .int .u32 (b : Int)] w fun e w' => e = .returned (.tuple #[(rowG left false a b).1.agg, .int .i64 (rowG left false a b).2]) ∧ Below w.heap.size w w' := by
  have hS : S < w.heap.size := World.block_lt_of_cell? w _ h.1
  have hbw : Below w.heap.size w (w.alloc (.cells #[.int .u32 0, .int .u32 0, .int .u64 0, .int .u32 0] 42)) := (Below.refl _ _).alloc (Nat.le_refl _) _
  have hrow : (w.alloc (.cells #[.int .u32 0, .int .u32 0, .int .u64 0, .int .u32 0] 42)).heap[w.heap.size]? = some (.cells Edg.nil.cells 42 (0, 0)) := heap_alloc_new w _
  have y0 := (hbw.cell (p := ⟨S, 0, none⟩) hS).trans h.1
  have y1 := (hbw.cell (p := ⟨S, 1, none⟩) hS).trans h.2
  have HV : Hid (rowG left false a b = (Edg.nil, 3)) := by
    show _ = _
    unfold rowG
    rw [if_neg (by simp), if_pos h9]
  have g1 : (b : Int) ≤ (a : Int) := by omega
  go_enter Try.func20, Try.ntmps20
  go_wp2_with fail
  exact bodyPost_ret (v := .tuple #[.agg #[.int .u32 0, .int .u32 0, .int .u64 0, .int .u32 0], .int .i64 3]) (by simp [results, Try.results20, go_sem]) rfl ⟨(by rw [HV.out]; rfl), ((Below.refl _ _).alloc (Nat.le_refl _) _).alloc (by simp) _⟩
theorem rowFirst_one (S : Nat) (left : Bool) (a : Nat) (ha : a + 1 < 4294967296) (w : World) (h : RowAt S left false w) :
    Calls Try.prog 20 #[.pointer (some ⟨S, 0, none⟩), .int .u32 (a : Int), .int .u32 ((a + 1 : Nat) : Int)] w fun e w' => e = .returned (.tuple #[(rowG left false a (a + 1)).1.agg, .int .i64 (rowG left false a (a + 1)).2]) ∧ Below w.heap.size w w' := by
  have hS : S < w.heap.size := World.block_lt_of_cell? w _ h.1
  have hbw : Below w.heap.size w (w.alloc (.cells #[.int .u32 0, .int .u32 0, .int .u64 0, .int .u32 0] 42)) := (Below.refl _ _).alloc (Nat.le_refl _) _
  have hrow : (w.alloc (.cells #[.int .u32 0, .int .u32 0, .int .u64 0, .int .u32 0] 42)).heap[w.heap.size]? = some (.cells Edg.nil.cells 42 (0, 0)) := heap_alloc_new w _
  have y0 := (hbw.cell (p := ⟨S, 0, none⟩) hS).trans h.1
  have y1 := (hbw.cell (p := ⟨S, 1, none⟩) hS).trans h.2
  have HV : Hid ((rowG left false a (a + 1)).1.agg = .agg #[.int .u32 (a : Int), .int .u32 ((a + 1 : Nat) : Int), .int .u64 1, .int .u32 4294967295] ∧ (rowG left false a (a + 1)).2 = 0) := by
    show _ ∧ _
    rw [row_one left a]
    exact ⟨mkE_agg (by omega) ha (by omega) (by omega), rfl⟩
  obtain ⟨b, hb⟩ : ∃ b, b = a + 1 := ⟨_, rfl⟩
  rw [← hb] at HV ⊢
  have e1 : IntKind.u64.wrap ((b : Int) - (a : Int)) = 1 := by rw [IntKind.wrap_u64]; omega
  have e2 : IntKind.u32.wrap ((b : Int) - (a : Int)) = 1 := by rw [IntKind.wrap_u32]; omega
  have g1 : ¬ (b : Int) ≤ (a : Int) := by omega
  have hb2 : b < 4294967296 := by omega
  have ha2 : a < 4294967296 := by omega
  clear hb ha
  cases left with
  | true =>
    go_enter Try.func20, Try.ntmps20
    go_wp2_with fail
    exact bodyPost_ret (v := .tuple #[.agg #[.int .u32 (a:Int), .int .u32 (b:Int), .int .u64 1, .int .u32 4294967295], .int .i64 0]) (by simp [results, Try.results20, go_sem]) rfl ⟨(by rw [HV.out.1, HV.out.2]), ((Below.refl _ _).alloc (Nat.le_refl _) _).alloc (by simp) _⟩
  | false =>
    go_enter Try.func20, Try.ntmps20
    go_wp2_with fail
    exact bodyPost_ret (v := .tuple #[.agg #[.int .u32 (a:Int), .int .u32 (b:Int), .int .u64 1, .int .u32 4294967295], .int .i64 0]) (by simp [results, Try.results20, go_sem]) rfl ⟨(by rw [HV.out.1, HV.out.2]), ((Below.refl _ _).alloc (Nat.le_refl _) _).alloc (by simp) _⟩
theorem rowFirst_more (S : Nat) (left : Bool) (a n : Nat) (hb : a + (n + 2) < 4294967296) (w : World) (h : RowAt S left false w) :
    Calls Try.prog 20 #[.pointer (some ⟨S, 0, none⟩), .int .u32 (a : Int), .int .u32 ((a + (n + 2) : Nat) : Int)] w fun e w' => e = .returned (.tuple #[(rowG left false a (a + (n + 2))).1.agg, .int .i64 (rowG left false a (a + (n + 2))).2]) ∧ Below w.heap.size w w' := by
  have hS : S < w.heap.size := World.block_lt_of_cell? w _ h.1
  have hbw : Below w.heap.size w (w.alloc (.cells #[.int .u32 0, .int .u32 0, .int .u64 0, .int .u32 0] 42)) := (Below.refl _ _).alloc (Nat.le_refl _) _
  have hrow : (w.alloc (.cells #[.int .u32 0, .int .u32 0, .int .u64 0, .int .u32 0] 42)).heap[w.heap.size]? = some (.cells Edg.nil.cells 42 (0, 0)) := heap_alloc_new w _
  have y0 := (hbw.cell (p := ⟨S, 0, none⟩) hS).trans h.1
  have y1 := (hbw.cell (p := ⟨S, 1, none⟩) hS).trans h.2
  obtain ⟨m, hm⟩ : ∃ m : Nat, m = if left = true then a + (n + 1) else a + 1 := ⟨_, rfl⟩
  have hmb : m < 4294967296 := by subst hm; split <;> omega
  have HV : Hid ((rowG left false a (a + (n + 2))).1.agg = .agg #[.int .u32 (a : Int), .int .u32 ((a + (n + 2) : Nat) : Int), .int .u64 ((n + 2 : Nat) : Int), .int .u32 (m : Int)] ∧ (rowG left false a (a + (n + 2))).2 = 0) := by
    show _ ∧ _
    cases left with
    | true =>
      rw [row_left a n, hm, if_pos rfl]
      exact ⟨mkE_agg (by omega) hb (by omega) (by omega), rfl⟩
    | false =>
      rw [row_right a n, hm, if_neg (by simp)]
      exact ⟨mkE_agg (by omega) hb (by omega) (by omega), rfl⟩
  obtain ⟨b, hbe⟩ : ∃ b, b = a + (n + 2) := ⟨_, rfl⟩
  obtain ⟨d, hd⟩ : ∃ d, d = n + 2 := ⟨_, rfl⟩
  rw [← hbe, ← hd] at HV
  rw [← hbe]
  have e1 : IntKind.u64.wrap ((b : Int) - (a : Int)) = (d : Int) := by rw [IntKind.wrap_u64]; omega
  have e2 : IntKind.u32.wrap ((b : Int) - (a : Int)) = (d : Int) := by rw [IntKind.wrap_u32]; omega
  have g1 : ¬ (b : Int) ≤ (a : Int) := by omega
  have hb2 : b < 4294967296 := by omega
  have ha2 : a < 4294967296 := by omega
  have g2 : ((d : Int) == 1) = false := by rw [beq_eq_false_iff_ne]; omega
  cases left with
  | true =>
    have e3 : IntKind.u32.wrap ((b : Int) - 1) = (m : Int) := by rw [IntKind.wrap_u32, hm, if_pos rfl]; omega
    have e4 : ((b : Int) - 1) % 4294967296 = (m : Int) := by rw [hm, if_pos rfl]; omega
    clear hm hbe hd hb hmb
    go_enter Try.func20, Try.ntmps20
    go_wp2_with fail
    exact bodyPost_ret (v := .tuple #[.agg #[.int .u32 (a:Int), .int .u32 (b:Int), .int .u64 (d:Int), .int .u32 (m:Int)], .int .i64 0]) (by simp [results, Try.results20, go_sem]) rfl ⟨(by rw [HV.out.1, HV.out.2]), ((Below.refl _ _).alloc (Nat.le_refl _) _).alloc (by simp) _⟩
  | false =>
    have e3 : IntKind.u32.wrap ((a : Int) + 1) = (m : Int) := by rw [IntKind.wrap_u32, hm, if_neg (by simp)]; omega
    have e4 : ((a : Int) + 1) % 4294967296 = (m : Int) := by rw [hm, if_neg (by simp)]; omega
    clear hm hbe hd hb hmb
    go_enter Try.func20, Try.ntmps20
    go_wp2_with fail
    exact bodyPost_ret (v := .tuple #[.agg #[.int .u32 (a:Int), .int .u32 (b:Int), .int .u64 (d:Int), .int .u32 (m:Int)], .int .i64 0]) (by simp [results, Try.results20, go_sem]) rfl ⟨(by rw [HV.out.1, HV.out.2]), ((Below.refl _ _).alloc (Nat.le_refl _) _).alloc (by simp) _⟩
theorem rowFirst_any (S : Nat) (left : Bool) (a b : Nat) (ha : a < 4294967296) (hb : b < 4294967296) (w : World) (h : RowAt S left false w) :
    Calls Try.prog 20 #[.pointer (some ⟨S, 0, none⟩), .int .u32 (a : Int), .int .u32 (b : Int)] w fun e w' => e = .returned (.tuple #[(rowG left false a b).1.agg, .int .i64 (rowG left false a b).2]) ∧ Below w.heap.size w w' := by
  by_cases h9 : b ≤ a
  · exact rowFirst_back S left a b ha hb h9 w h
  · by_cases h1 : b = a + 1
    · subst h1
      exact rowFirst_one S left a hb w h
    · obtain ⟨n, rfl⟩ : ∃ n, b = a + (n + 2) := ⟨b - a - 2, by omega⟩
      exact rowFirst_more S left a n hb w h
theorem row_tells (S : Nat) (left : Bool) : Tells 20 (.pointer (some ⟨S, 0, none⟩)) (rowG left false) (RowAt S left false) :=
  ⟨fun args w => run_enter Try.func20 (by kernel_rfl) rfl args w, fun a b w ha hb hI => rowFirst_any S left a b ha hb w hI⟩
theorem round_tells (S : Nat) : Tells 20 (.pointer (some ⟨S, 0, none⟩)) (rowG false true) (RowAt S false true) :=
  ⟨fun args w => run_enter Try.func20 (by kernel_rfl) rfl args w, fun a b w ha hb hI => rowFirst_round S a b ha hb w hI⟩
end Go.Proofs.Ytongpcfjfolfbaa
