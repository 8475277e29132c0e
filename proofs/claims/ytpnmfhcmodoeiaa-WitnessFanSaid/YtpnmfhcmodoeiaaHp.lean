/- The contract of Push below the limit. -/
import Derived.Test.YtpnmfhcmodoeiaaHu
import Derived.Test.YtpnmfhcmodoeiaaHg
import Derived.Test.YtpnmfhcmodoeiaaHl
import Derived.Deep.RegionLaw
import Derived.StillTailTactics
namespace Go.Proofs.Ytpnmfhcmodoeiaa
open Go.RowKit
theorem item_info : (Try.prog.info? 88).map (fun i => (i.zero, i.size, i.bytes)) = some (some (.agg #[.int .u64 0, .int .u32 0]), 2, 16) := by kernel_rfl
theorem upF_length : ∀ (f : Nat) (l : List Itm) (i : Nat), (upF f l i).length = l.length
  | 0, l, i => rfl
  | f + 1, l, i => by
    unfold upF
    split
    · rfl
    · split
      · rw [upF_length, swq_length]
      · rfl
set_option maxRecDepth 100000 in
set_option maxHeartbeats 4000000 in
theorem push_any (H : Nat) (v : Value) (l : List Itm) (x : Itm) (w : World) (h : HO H w v l) (hl : l.length < 65536) :
    Calls Try.prog 40 #[.pointer (some ⟨H, 0, none⟩), x.agg] w fun e w' => e = .returned (.int .i64 0) ∧ ∃ v', HO H w' v' (upF l.length (l ++ [x]) l.length) ∧ Step H v v' w w' := by
  obtain ⟨A, c, rfl⟩ := h.form
  obtain ⟨W1, hW1⟩ : ∃ W1, w.alloc (.cells x.cells 88) = W1 := ⟨_, rfl⟩
  have hb1 : Below w.heap.size w W1 := by rw [← hW1]; exact (Below.refl _ _).alloc (Nat.le_refl _) _
  have hA1 := h.below hb1
  have hX : W1.heap[w.heap.size]? = some (.cells x.cells 88 (0, 0)) := by rw [← hW1]; exact heap_alloc_new w _
  have c1 : W1.cell? ⟨H, 0, none⟩ = some (.slice A l.length c) := cell_of_row _ _ 0 _ _ _ hA1.row
  have x0 : W1.cell? ⟨w.heap.size, 0, none⟩ = some (.int .u64 (x.key : Int)) := cell_of_row _ _ 0 _ _ _ hX
  have x1 : W1.cell? ⟨w.heap.size, 1, none⟩ = some (.int .u32 (x.id : Int)) := cell_of_row _ _ 1 _ _ _ hX
  have hs1 : W1.heap.size = w.heap.size + 1 := by rw [← hW1]; simp
  have H0 := Lib.hid h
  have HA1 := Lib.hid hA1
  have HB1 := Lib.hid hb1
  have hn2 : decide ((65536 : Int) ≤ (l.length : Int)) = false := by rw [decide_eq_false_iff_not]; omega
  have lw : H < W1.heap.size := hA1.lt
  clear h hA1 hb1 hX
  dsimp only [Itm.agg]
  unfold Itm.cells at hW1
  go_enter Try.func40, Try.ntmps40
  go_wp2_with fail
  try rw [hW1]
  clear hW1
  refine (len_any H l.length c A W1 c1).mono ?_
  rintro e w1 ⟨rfl, rfl⟩
  obtain ⟨i0, hi0, hz0, hz1, hz2⟩ := info_parts item_info
  have HI := Lib.hid hi0
  have HZ := Lib.hid hz0
  have HZ1 := Lib.hid hz1
  have HZ2 := Lib.hid hz2
  clear hi0 hz0 hz1 hz2
  have c3 : ∀ o, (W1.alloc o).cell? ⟨H, 0, none⟩ = some (.slice A l.length c) := fun o => by rw [World.cell?_alloc_past _ _ _ lw]; exact c1
  have hxs : w.heap.size < W1.heap.size := by omega
  clear hs1
  generalize hXe : w.heap.size = X at *
  have HE := Lib.hid hXe
  clear hXe
  go_wp2_with fail
  clear hn2
  go_region_law
    ((refine step_append_lies _ (by rfl) _ _ _ (by rfl) (H + 1) 88 i0 _ 2 16 Try.underlying93 HI.out HZ.out HZ1.out HZ2.out rfl (by omega) (.slice A l.length c) l.length (l.flatMap Itm.enc) (by rfl) ((HA1.out.own.alloc _).drewN 1)
          ⟨W1.heap.size, 0, none⟩ 1 1 (Itm.enc x) (by rfl) (by rfl) (World.news_of_block (cs := x.cells) (t := 88) (fr := (0, 0)) (heap_alloc_new W1 _)) (by simp [Itm.enc, Value.oneCell']) (by omega) (by simp only [maxLen]; omega) (by omega) (by simp; omega) (W1.heap.size + 1) (by simp) ?_; intro gg cap w3 hown hgrow hat hlt; obtain ⟨hz, hy⟩ := oi_app_stay HA1.out hgrow (below_drewN ((Below.refl _ _).alloc (Nat.le_refl _) _) 1); change _ = some (Value.slice A l.length c) at hy))
  all_goals
    have hown' : Its w3 (H + 1) (.slice (some ⟨gg, 0, none⟩) (l.length + 1) cap) (l ++ [x]) := by
      unfold Its OwnS; rw [List.length_append, List.flatMap_append]; simpa using hown
    obtain ⟨q1, q2⟩ := oi_app HA1.out (below_drewN ((Below.refl _ _).alloc (Nat.le_refl _) _) 1) hown' hgrow (by simpa using hat) (fun _ => rfl)
    generalize (w3.setCell ⟨H, 0, none⟩ (.slice (some ⟨gg, 0, none⟩) (l.length + 1) cap)) = W4 at *
    have c5 : W4.cell? ⟨H, 0, none⟩ = some (.slice (some ⟨gg, 0, none⟩) (l.length + 1) cap) := cell_of_row _ _ 0 _ _ _ q1.row
    have Q1 := Lib.hid q1
    have Q2 := Lib.hid q2
    have HL := Lib.hid hl
    have HLW := Lib.hid (still_eq (len_any H (l.length + 1) cap (some ⟨gg, 0, none⟩) W4.drew c5))
    clear q1 q2 hown hown' hgrow hat hz hy c1 c3 x0 x1 hlt hl c5 hxs lw
    have e1 : IntKind.i64.wrap (((l.length + 1 : Nat) : Int) - 1) = (l.length : Int) := by rw [IntKind.wrap_i64]; have := HL.out; omega
    go_wp2_with fail
    refine wp_region_still_tail 6 (by kernel_rfl) (by kernel_rfl) ?_
    simp only [List.take_succ_cons, List.take_zero, List.drop_succ_cons, List.drop_zero]
    repeat still_step
    still_call HLW.out
    repeat still_step
    try refine wpStill_nil ?_
    change wpList _ _ _ _ _ W4.drew
    obtain ⟨V, hV⟩ : ∃ V, W4.drew = V := ⟨_, rfl⟩
    have QV : Hid (HAt H gg cap V (l ++ [x])) := Lib.hid (by
      rw [← hV]
      have := (Q1.out.below (below_drewN (Below.refl _ _) 1))
      have hl1 : (l ++ [x]).length = l.length + 1 := by simp
      exact ⟨by rw [hl1]; exact this.row, by rw [hl1]; exact this.own⟩)
    have SV : Hid (Step H (.slice A l.length c) (.slice (some ⟨gg, 0, none⟩) (l.length + 1) cap) W1 V) := Lib.hid (by rw [← hV]; exact Q2.out.below (below_drewN (Below.refl _ _) 1))
    rw [hV]
    clear hV Q1 Q2 HLW
    have hlb : l.length ≤ 65536 := by have := HL.out; omega
    go_wp2_with fail
    clear e1
    refine (up_any H gg cap (l ++ [x]) l.length V QV.out (by simp) (by have := HL.out; simp; omega)).mono ?_
    rintro e w5 ⟨rfl, ht, hA5⟩
    have HT := Lib.hid ht
    have HA5 := Lib.hid hA5
    clear ht hA5
    go_wp2_with fail
    go_ret
    have HBx : Below w.heap.size w W1 := by rw [HE.out]; exact HB1.out
    have hlen : (upF l.length (l ++ [x]) l.length).length = l.length + 1 := by rw [upF_length]; simp
    refine ⟨rfl, .slice (some ⟨gg, 0, none⟩) (l.length + 1) cap, by rw [← hlen]; exact HA5.out.oi, ?_⟩
    refine ⟨?_, fun j hj => ?_⟩
    · exact Turn.keeps ⟨SV.out.keeps.os.trans HBx.os, SV.out.keeps.tape.trans HBx.tape, SV.out.keeps.output.trans HBx.output, Nat.le_trans HBx.size SV.out.keeps.size, fun b h1 h2 h3 => (SV.out.keeps.block b (Nat.lt_of_lt_of_le h1 HBx.size) h2 h3).trans (HBx.block b h1)⟩ HT.out (by
        rcases SV.out.row gg rfl with h1 | h1
        · exact .inl h1
        · exact .inr (Nat.le_trans HBx.size h1))
    · rcases SV.out.row j hj with h1 | h1
      · exact .inl h1
      · exact .inr (Nat.le_trans HBx.size h1)
end Go.Proofs.Ytpnmfhcmodoeiaa
