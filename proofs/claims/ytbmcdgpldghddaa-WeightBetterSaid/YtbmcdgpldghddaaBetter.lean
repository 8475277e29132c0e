/- WeightBetter: which of two edges is better, as the document says. No condition. -/
import Derived.Test.YtbmcdgpldghddaaWw
import Derived.Test.YtbmcdgpldghddaaEo
import Derived.Deep.RegionHeld3
namespace Go.Proofs.Ytbmcdgpldghddaa.weightBetter
open Go.ChangeShapes Go.WideShapes Go.ChangeAt Go.RowKit

theorem first_held (a b : Edg) (w : World) : (fun w' => w'.cell? ⟨w.heap.size, 0, none⟩ = some (.int .u32 a.tail) ∧ w'.cell? ⟨w.heap.size, 1, none⟩ = some (.int .u32 a.head) ∧ w'.cell? ⟨w.heap.size, 2, none⟩ = some (.int .u64 a.weight) ∧ w'.cell? ⟨w.heap.size, 3, none⟩ = some (.int .u32 a.mid) ∧ w'.cell? ⟨w.heap.size + 1, 0, none⟩ = some (.int .u32 b.tail) ∧ w'.cell? ⟨w.heap.size + 1, 1, none⟩ = some (.int .u32 b.head) ∧ w'.cell? ⟨w.heap.size + 1, 2, none⟩ = some (.int .u64 b.weight) ∧ w'.cell? ⟨w.heap.size + 1, 3, none⟩ = some (.int .u32 b.mid) ∧ w.heap.size + 2 ≤ w'.heap.size ∧ Below w.heap.size w w') ((w.alloc (.cells a.cells 30)).alloc (.cells b.cells 30)) := by
  have hb : Below (w.alloc (.cells a.cells 30)).heap.size (w.alloc (.cells a.cells 30)) ((w.alloc (.cells a.cells 30)).alloc (.cells b.cells 30)) := (Below.refl _ _).alloc (Nat.le_refl _) _
  have h1 := fun k => (hb.cell (p := ⟨w.heap.size, k, none⟩) (by simp)).trans (cell_new w _ _ k)
  have h2 := fun k => cell_new (w.alloc (.cells a.cells 30)) b.cells 30 k
  rw [World.size_alloc] at h2
  exact ⟨h1 0, h1 1, h1 2, h1 3, h2 0, h2 1, h2 2, h2 3, by simp, ((Below.refl _ _).alloc (Nat.le_refl _) _).alloc (by simp) _⟩
theorem next_held {a b : Edg} {w w1 w2 : World} (h : (fun w' => w'.cell? ⟨w.heap.size, 0, none⟩ = some (.int .u32 a.tail) ∧ w'.cell? ⟨w.heap.size, 1, none⟩ = some (.int .u32 a.head) ∧ w'.cell? ⟨w.heap.size, 2, none⟩ = some (.int .u64 a.weight) ∧ w'.cell? ⟨w.heap.size, 3, none⟩ = some (.int .u32 a.mid) ∧ w'.cell? ⟨w.heap.size + 1, 0, none⟩ = some (.int .u32 b.tail) ∧ w'.cell? ⟨w.heap.size + 1, 1, none⟩ = some (.int .u32 b.head) ∧ w'.cell? ⟨w.heap.size + 1, 2, none⟩ = some (.int .u64 b.weight) ∧ w'.cell? ⟨w.heap.size + 1, 3, none⟩ = some (.int .u32 b.mid) ∧ w.heap.size + 2 ≤ w'.heap.size ∧ Below w.heap.size w w') w1) (hb : Below w1.heap.size w1 w2) : (fun w' => w'.cell? ⟨w.heap.size, 0, none⟩ = some (.int .u32 a.tail) ∧ w'.cell? ⟨w.heap.size, 1, none⟩ = some (.int .u32 a.head) ∧ w'.cell? ⟨w.heap.size, 2, none⟩ = some (.int .u64 a.weight) ∧ w'.cell? ⟨w.heap.size, 3, none⟩ = some (.int .u32 a.mid) ∧ w'.cell? ⟨w.heap.size + 1, 0, none⟩ = some (.int .u32 b.tail) ∧ w'.cell? ⟨w.heap.size + 1, 1, none⟩ = some (.int .u32 b.head) ∧ w'.cell? ⟨w.heap.size + 1, 2, none⟩ = some (.int .u64 b.weight) ∧ w'.cell? ⟨w.heap.size + 1, 3, none⟩ = some (.int .u32 b.mid) ∧ w.heap.size + 2 ≤ w'.heap.size ∧ Below w.heap.size w w') w2 := by
  obtain ⟨h0, h1, h2, h3, h4, h5, h6, h7, h8, h9⟩ := h
  have e1 := fun k => hb.cell (p := ⟨w.heap.size, k, none⟩) (by show w.heap.size < _; omega)
  have e2 := fun k => hb.cell (p := ⟨w.heap.size + 1, k, none⟩) (by show w.heap.size + 1 < _; omega)
  exact ⟨(e1 0).trans h0, (e1 1).trans h1, (e1 2).trans h2, (e1 3).trans h3, (e2 0).trans h4, (e2 1).trans h5, (e2 2).trans h6, (e2 3).trans h7, Nat.le_trans h8 hb.size, h9.trans (hb.mono h9.size)⟩
theorem drew_held {a b : Edg} {w w1 : World} (h : (fun w' => w'.cell? ⟨w.heap.size, 0, none⟩ = some (.int .u32 a.tail) ∧ w'.cell? ⟨w.heap.size, 1, none⟩ = some (.int .u32 a.head) ∧ w'.cell? ⟨w.heap.size, 2, none⟩ = some (.int .u64 a.weight) ∧ w'.cell? ⟨w.heap.size, 3, none⟩ = some (.int .u32 a.mid) ∧ w'.cell? ⟨w.heap.size + 1, 0, none⟩ = some (.int .u32 b.tail) ∧ w'.cell? ⟨w.heap.size + 1, 1, none⟩ = some (.int .u32 b.head) ∧ w'.cell? ⟨w.heap.size + 1, 2, none⟩ = some (.int .u64 b.weight) ∧ w'.cell? ⟨w.heap.size + 1, 3, none⟩ = some (.int .u32 b.mid) ∧ w.heap.size + 2 ≤ w'.heap.size ∧ Below w.heap.size w w') w1) : (fun w' => w'.cell? ⟨w.heap.size, 0, none⟩ = some (.int .u32 a.tail) ∧ w'.cell? ⟨w.heap.size, 1, none⟩ = some (.int .u32 a.head) ∧ w'.cell? ⟨w.heap.size, 2, none⟩ = some (.int .u64 a.weight) ∧ w'.cell? ⟨w.heap.size, 3, none⟩ = some (.int .u32 a.mid) ∧ w'.cell? ⟨w.heap.size + 1, 0, none⟩ = some (.int .u32 b.tail) ∧ w'.cell? ⟨w.heap.size + 1, 1, none⟩ = some (.int .u32 b.head) ∧ w'.cell? ⟨w.heap.size + 1, 2, none⟩ = some (.int .u64 b.weight) ∧ w'.cell? ⟨w.heap.size + 1, 3, none⟩ = some (.int .u32 b.mid) ∧ w.heap.size + 2 ≤ w'.heap.size ∧ Below w.heap.size w w') w1.drew := next_held h (below_drewN (Below.refl _ _) 1)

theorem held_below {a b : Edg} {w w1 : World} (h : (fun w' => w'.cell? ⟨w.heap.size, 0, none⟩ = some (.int .u32 a.tail) ∧ w'.cell? ⟨w.heap.size, 1, none⟩ = some (.int .u32 a.head) ∧ w'.cell? ⟨w.heap.size, 2, none⟩ = some (.int .u64 a.weight) ∧ w'.cell? ⟨w.heap.size, 3, none⟩ = some (.int .u32 a.mid) ∧ w'.cell? ⟨w.heap.size + 1, 0, none⟩ = some (.int .u32 b.tail) ∧ w'.cell? ⟨w.heap.size + 1, 1, none⟩ = some (.int .u32 b.head) ∧ w'.cell? ⟨w.heap.size + 1, 2, none⟩ = some (.int .u64 b.weight) ∧ w'.cell? ⟨w.heap.size + 1, 3, none⟩ = some (.int .u32 b.mid) ∧ w.heap.size + 2 ≤ w'.heap.size ∧ Below w.heap.size w w') w1) : Below w.heap.size w w1 := h.2.2.2.2.2.2.2.2.2

set_option maxHeartbeats 2000000 in
theorem walk (a b : Edg) (w : World) : Calls Try.prog 4 #[a.agg, b.agg] w (LawOk w) := by
  have H1 := fun W => better_any a b W
  have H2 := fun W => refBetter_any a b W
  have H3 := fun W => better_any b a W
  have H4 := fun W => refBetter_any b a W
  have HW := fun W => works_any W
  have hS := first_held a b w
  dsimp only [Edg.cells, Edg.agg] at hS H1 H2 H3 H4 ⊢
  generalize betterB a b = p at *
  generalize betterB b a = q at *
  obtain ⟨W, hWe⟩ : ∃ W, ((w.alloc (.cells #[.int .u32 (a.tail : Int), .int .u32 (a.head : Int), .int .u64 (a.weight : Int), .int .u32 (a.mid : Int)] 30)).alloc (.cells #[.int .u32 (b.tail : Int), .int .u32 (b.head : Int), .int .u64 (b.weight : Int), .int .u32 (b.mid : Int)] 30)) = W := ⟨_, rfl⟩
  rw [hWe] at hS
  go_enter Try.func4, Try.ntmps4
  go_wp2_with fail
  clear hWe
  go_region_held3 (fun w' => w'.cell? ⟨w.heap.size, 0, none⟩ = some (.int .u32 a.tail) ∧ w'.cell? ⟨w.heap.size, 1, none⟩ = some (.int .u32 a.head) ∧ w'.cell? ⟨w.heap.size, 2, none⟩ = some (.int .u64 a.weight) ∧ w'.cell? ⟨w.heap.size, 3, none⟩ = some (.int .u32 a.mid) ∧ w'.cell? ⟨w.heap.size + 1, 0, none⟩ = some (.int .u32 b.tail) ∧ w'.cell? ⟨w.heap.size + 1, 1, none⟩ = some (.int .u32 b.head) ∧ w'.cell? ⟨w.heap.size + 1, 2, none⟩ = some (.int .u64 b.weight) ∧ w'.cell? ⟨w.heap.size + 1, 3, none⟩ = some (.int .u32 b.mid) ∧ w.heap.size + 2 ≤ w'.heap.size ∧ Below w.heap.size w w') (first | exact drew_held hS | exact next_held (by assumption) (by assumption))
    (first
     | (go_at_call 16; with_reducible refine (H1 _).mono ?_; rintro e w' ⟨rfl, hb⟩)
     | (go_at_call 16; with_reducible refine (H3 _).mono ?_; rintro e w' ⟨rfl, hb⟩)
     | (go_at_call 17; with_reducible refine (H2 _).mono ?_; rintro e w' ⟨rfl, hb⟩)
     | (go_at_call 17; with_reducible refine (H4 _).mono ?_; rintro e w' ⟨rfl, hb⟩)
     | (go_at_call 15; with_reducible refine (HW _).mono ?_; rintro e w' ⟨rfl, hb⟩))
  go_wp2
  go_ret
  exact ⟨rfl, held_below (by assumption)⟩


set_option maxRecDepth 100000 in
theorem lifted (os : Os) (started : os.Started) (H : Type) (enc : TypeId × Value → H) :
    ReturnsInHanded {} Try.checked os 4 .any (Rows.weightBetterSpec.pre6 enc Try.prog Try.f4 Rows.weightBetterRow.domain false) (Rows.weightBetterSpec.post enc Try.prog Try.f4 false true false false) := by
  refine returnsInHanded_of_change (C := Try.checked) own_knob started (by kernel_rfl) Try.func4
    (ChangeSpec.witness6 (enc := enc) (C := Try.checked) false ⟨#[], #[.agg #[.int .u32 0, .int .u32 0, .int .u64 0, .int .u32 0], .agg #[.int .u32 0, .int .u32 0, .int .u64 0, .int .u32 0]], []⟩ 8 (by kernel_rfl) (by kernel_rfl) (by kernel_rfl) (by kernel_rfl)) ?_
  intro W base args ds gs before hval0 hW _ _
  have hval : ∀ (j : Nat) t v, Try.f4.params[j]? = some t → args[j]? = some v → Value.okWide Try.prog W .any base t v := hval0
  have hW' := hW
  obtain ⟨p, q, hA0, hV, rfl, _, _⟩ := hW
  have hA : DataW.TrodAll enc Try.prog W 0 (fun _ => true) true Try.f4.params.toList args.toList ds p := hA0
  rw [Try.params4] at hA hval
  obtain ⟨v0, vs0, d0, ds0, p0, q0, hargs, rfl, rfl, h0, r0⟩ := trodAll_cons hA
  obtain ⟨v1, vs1, d1, ds1, p1, q1, rfl, rfl, rfl, h1, r1⟩ := trodAll_cons r0
  obtain ⟨rfl, rfl, rfl⟩ := trodAll_nil r1
  obtain rfl : args = #[v0, v1] := by cases args; simp_all
  obtain ⟨rfl, rfl⟩ := trodVars_none hV
  have hlt : ∀ x ∈ p0 ++ (p1), x.block < W.heap.size := fun x hx => hW'.lt x (by simpa using hx)
  obtain ⟨x0, rfl⟩ := open_edge (hval 0 30 v0 rfl rfl) h0
  obtain ⟨x1, rfl⟩ := open_edge (hval 1 30 v1 rfl rfl) h1
  refine (walk x0 x1 W ).mono fun e W' ⟨he, hg⟩ => ?_
  subst he
  exact ⟨_, rfl, law_post hW' rfl (by kernel_rfl) rfl (by kernel_rfl) hg⟩

theorem proved : Rows.WeightBetterSaid :=
  OpenClaim.holds_of_wide 4 Try.f4 rfl rfl rfl rfl rfl rfl rfl ⟨rfl, rfl, rfl, rfl, rfl⟩ rfl rfl rfl rfl rfl (by kernel_rfl) Try.func4 (by kernel_rfl)
    (of_decide_eq_true (by kernel_rfl)) (by unfold Func.isWrapper; first | (rw [if_pos (by decide +kernel)]; kernel_rfl) | (rw [if_neg (by decide +kernel)]; exact ⟨rfl, rfl⟩))
    (fun os started H enc _ => lifted os started H enc)

end Go.Proofs.Ytbmcdgpldghddaa.weightBetter
