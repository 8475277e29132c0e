/- HeapNil: for any item the call returns true: without a heap nothing is pushed or popped. No condition. -/
import Derived.Test.YthppjkjaaekikaaHz
import Derived.Test.YthppjkjaaekikaaHk
import Derived.Test.YthppjkjaaekikaaHy
namespace Go.Proofs.Ythppjkjaaekikaa.heapNil
open Go.ChangeShapes Go.WideShapes Go.ChangeAt Go.RowKit Go.Deep
set_option maxRecDepth 100000 in
set_option maxHeartbeats 2000000 in
theorem walk (x : Itm) (w : World) : Calls Try.prog 7 #[x.agg] w (LawOk w) := by
  obtain ⟨W1, hW1⟩ : ∃ W1, w.alloc (.cells x.cells 32) = W1 := ⟨_, rfl⟩
  have hb1 : Below w.heap.size w W1 := by rw [← hW1]; exact (Below.refl _ _).alloc (Nat.le_refl _) _
  have hX : W1.heap[w.heap.size]? = some (.cells x.cells 32 (0, 0)) := by rw [← hW1]; exact heap_alloc_new w _
  have HB1 := Lib.hid hb1
  have HX := Lib.hid hX
  have HP := Lib.hid pop_nil
  clear hb1 hX
  dsimp only [Itm.agg]
  unfold Itm.cells at hW1
  go_enter Try.func7, Try.ntmps7
  go_wp2_with fail
  try rw [hW1]
  clear hW1
  refine (HP.out W1).mono ?_
  rintro e w2 ⟨rfl, hb2⟩
  have hX2 := (hb2.block w.heap.size (Array.getElem?_eq_some_iff.1 HX.out).1).trans HX.out
  have lx := (Array.getElem?_eq_some_iff.1 hX2).1
  have x0 : ∀ o, (w2.alloc o).cell? ⟨w.heap.size, 0, none⟩ = some (.int .u64 (x.key : Int)) := fun o => by rw [World.cell?_alloc_past _ _ _ lx]; exact cell_of_row _ _ 0 _ _ _ hX2
  have x1 : ∀ o, (w2.alloc o).cell? ⟨w.heap.size, 1, none⟩ = some (.int .u32 (x.id : Int)) := fun o => by rw [World.cell?_alloc_past _ _ _ lx]; exact cell_of_row _ _ 1 _ _ _ hX2
  have HB2 := Lib.hid (HB1.out.trans (hb2.mono HB1.out.size))
  clear hb2 hX2
  unfold Itm.nil Itm.agg
  go_wp2_with fail
  refine (push_nil x _).mono ?_
  rintro e w4 ⟨rfl, hb4⟩
  have hs4 := hb4.size
  have y0 : w4.cell? ⟨w2.heap.size, 0, none⟩ = some (.int .u64 0) := (hb4.cell (p := ⟨w2.heap.size, 0, none⟩) (by simp)).trans (cell_new _ _ _ 0)
  have y1 : w4.cell? ⟨w2.heap.size, 1, none⟩ = some (.int .u32 0) := (hb4.cell (p := ⟨w2.heap.size, 1, none⟩) (by simp)).trans (cell_new _ _ _ 1)
  have HB4 := Lib.hid ((HB2.out.alloc HB2.out.size _).trans (hb4.mono (by have := HB2.out.size; simp; omega)))
  have HL := Lib.hid len_nil
  have HW := Lib.hid works_any
  clear hb4 hs4 x0 x1 lx
  go_wp2_with (first | (go_at_call 15; refine (HL.out _).mono ?_; rintro e w5 ⟨rfl, rfl⟩) | (go_at_call 17; refine (HW.out _).mono ?_; rintro e w6 ⟨rfl, hb6⟩))
  go_ret
  exact ⟨rfl, HB4.out.trans (hb6.mono HB4.out.size)⟩

set_option maxRecDepth 100000 in
theorem lifted (os : Os) (started : os.Started) (H : Type) (enc : TypeId × Value → H) :
    ReturnsInHanded {} Try.checked os 7 .any (Rows.heapNilSpec.pre6 enc Try.prog Try.f7 Rows.heapNilRow.domain false) (Rows.heapNilSpec.post enc Try.prog Try.f7 false true false false) := by
  refine returnsInHanded_of_change (C := Try.checked) own_knob started (by kernel_rfl) Try.func7
    (ChangeSpec.witness6 (enc := enc) (C := Try.checked) false ⟨#[], #[.agg #[.int .u64 0, .int .u32 0]], []⟩ 8 (by kernel_rfl) (by kernel_rfl) (by kernel_rfl) (by kernel_rfl)) ?_
  intro W base args ds gs before hval0 hW _ _
  have hval : ∀ (j : Nat) t v, Try.f7.params[j]? = some t → args[j]? = some v → Value.okWide Try.prog W .any base t v := hval0
  have hW' := hW
  obtain ⟨p, q, hA0, hV, rfl, _, _⟩ := hW
  have hA : DataW.TrodAll enc Try.prog W 0 (fun _ => true) true Try.f7.params.toList args.toList ds p := hA0
  rw [Try.params7] at hA hval
  obtain ⟨v0, vs0, d0, ds0, p0, q0, hargs, rfl, rfl, h0, r0⟩ := trodAll_cons hA
  obtain ⟨rfl, rfl, rfl⟩ := trodAll_nil r0
  obtain rfl : args = #[v0] := by cases args; simp_all
  obtain ⟨rfl, rfl⟩ := trodVars_none hV
  have hlt : ∀ x ∈ p0, x.block < W.heap.size := fun x hx => hW'.lt x (by simpa using hx)
  obtain ⟨x0, rfl⟩ := open_item (hval 0 32 v0 rfl rfl) h0 (fun x hx => hlt x (by simp [hx]))
  refine (walk x0 W ).mono fun e W' ⟨he, hg⟩ => ?_
  subst he
  exact ⟨_, rfl, law_post hW' rfl (by kernel_rfl) rfl (by kernel_rfl) hg⟩

theorem proved : Rows.HeapNilSaid :=
  OpenClaim.holds_of_wide 7 Try.f7 rfl rfl rfl rfl rfl rfl rfl ⟨rfl, rfl, rfl, rfl, rfl⟩ rfl rfl rfl rfl rfl (by kernel_rfl) Try.func7 (by kernel_rfl)
    (of_decide_eq_true (by kernel_rfl)) (by unfold Func.isWrapper; first | (rw [if_pos (by decide +kernel)]; kernel_rfl) | (rw [if_neg (by decide +kernel)]; exact ⟨rfl, rfl⟩))
    (fun os started H enc _ => lifted os started H enc)

end Go.Proofs.Ythppjkjaaekikaa.heapNil
