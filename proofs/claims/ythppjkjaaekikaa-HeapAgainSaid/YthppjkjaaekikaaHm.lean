/- The contract of the document's Push below the limit. -/
import Derived.Test.YthppjkjaaekikaaHg
import Derived.Deep.RegionLaw
namespace Go.Proofs.Ythppjkjaaekikaa
open Go.RowKit
theorem ritem_info : (Try.prog.info? 32).map (fun i => (i.zero, i.size, i.bytes)) = some (some (.agg #[.int .u64 0, .int .u32 0]), 2, 16) := by kernel_rfl
set_option maxRecDepth 100000 in
set_option maxHeartbeats 4000000 in
theorem rpush_any (H : Nat) (v : Value) (l : List Itm) (x : Itm) (w : World) (h : RO H w v l) (hl : l.length < 65536) :
    Calls Try.prog 14 #[.pointer (some ⟨H, 0, none⟩), x.agg] w fun e w' => e = .returned (.int .i64 0) ∧ ∃ v', RO H w' v' (l ++ [x]) ∧ Step H v v' w w' := by
  obtain ⟨A, c, rfl⟩ := h.form
  obtain ⟨W1, hW1⟩ : ∃ W1, w.alloc (.cells x.cells 32) = W1 := ⟨_, rfl⟩
  have hb1 : Below w.heap.size w W1 := by rw [← hW1]; exact (Below.refl _ _).alloc (Nat.le_refl _) _
  have hA1 := h.below hb1
  have hX : W1.heap[w.heap.size]? = some (.cells x.cells 32 (0, 0)) := by rw [← hW1]; exact heap_alloc_new w _
  have c1 : W1.cell? ⟨H, 0, none⟩ = some (.slice A l.length c) := cell_of_row _ _ 0 _ _ _ hA1.row
  have x0 : W1.cell? ⟨w.heap.size, 0, none⟩ = some (.int .u64 (x.key : Int)) := cell_of_row _ _ 0 _ _ _ hX
  have x1 : W1.cell? ⟨w.heap.size, 1, none⟩ = some (.int .u32 (x.id : Int)) := cell_of_row _ _ 1 _ _ _ hX
  have hs1 : W1.heap.size = w.heap.size + 1 := by rw [← hW1]; simp
  have H0 := Lib.hid h
  have HA1 := Lib.hid hA1
  have HB1 := Lib.hid hb1
  have hn2 : decide ((65536 : Int) ≤ (l.length : Int)) = false := by rw [decide_eq_false_iff_not]; omega
  have lw : H < W1.heap.size := hA1.lt
  clear h hA1 hb1 hX
  dsimp only [Itm.agg]
  unfold Itm.cells at hW1
  obtain ⟨i0, hi0, hz0, hz1, hz2⟩ := info_parts ritem_info
  have HI := Lib.hid hi0
  have HZ := Lib.hid hz0
  have HZ1 := Lib.hid hz1
  have HZ2 := Lib.hid hz2
  clear hi0 hz0 hz1 hz2
  have c3 : ∀ o, (W1.alloc o).cell? ⟨H, 0, none⟩ = some (.slice A l.length c) := fun o => by rw [World.cell?_alloc_past _ _ _ lw]; exact c1
  have hxs : w.heap.size < W1.heap.size := by omega
  clear hs1
  go_enter Try.func14, Try.ntmps14
  go_wp2_with fail
  try rw [hW1]
  clear hW1 hn2
  generalize hXe : w.heap.size = X at *
  have HE := Lib.hid hXe
  clear hXe
  go_region_law
    ((refine step_append_lies _ (by rfl) _ _ _ (by rfl) (H + 1) 32 i0 _ 2 16 Try.underlying26 HI.out HZ.out HZ1.out HZ2.out rfl (by omega) (.slice A l.length c) l.length (l.flatMap Itm.enc) (by rfl) ((HA1.out.own.alloc _).drewN 1)
          ⟨W1.heap.size, 0, none⟩ 1 1 (Itm.enc x) (by rfl) (by rfl) (World.news_of_block (cs := x.cells) (t := 32) (fr := (0, 0)) (heap_alloc_new W1 _)) (by simp [Itm.enc, Value.oneCell']) (by omega) (by simp only [maxLen]; omega) (by omega) (by simp; omega) (W1.heap.size + 1) (by simp) ?_; intro gg cap w3 hown hgrow hat hlt; obtain ⟨hz, hy⟩ := oi_app_stay HA1.out hgrow (below_drewN ((Below.refl _ _).alloc (Nat.le_refl _) _) 1); change _ = some (Value.slice A l.length c) at hy))
  all_goals
    have hown' : Its w3 (H + 1) (.slice (some ⟨gg, 0, none⟩) (l.length + 1) cap) (l ++ [x]) := by
      unfold Its OwnS; rw [List.length_append, List.flatMap_append]; simpa using hown
    obtain ⟨q1, q2⟩ := oi_app HA1.out (below_drewN ((Below.refl _ _).alloc (Nat.le_refl _) _) 1) hown' hgrow (by simpa using hat) (fun _ => rfl)
    generalize (w3.setCell ⟨H, 0, none⟩ (.slice (some ⟨gg, 0, none⟩) (l.length + 1) cap)) = W4 at *
    have Q1 := Lib.hid q1
    have Q2 := Lib.hid q2
    clear q1 q2 hown hown' hgrow hat hz hy c1 c3 x0 x1 hlt hl hxs lw
    go_wp2_with fail
    go_ret
    have HBx : Below w.heap.size w W1 := by rw [HE.out]; exact HB1.out
    exact ⟨rfl, _, Q1.out, ((Keeps.refl _ _ _).below HBx).trans Q2.out.keeps (fun j hj => .inl hj), fun j hj => by
      rcases Q2.out.row j hj with h1 | h1
      · exact .inl h1
      · exact .inr (Nat.le_trans HBx.size h1)⟩
end Go.Proofs.Ythppjkjaaekikaa
