/- HeapFull: for any item the call returns true: a heap has at most 2^16 items, and takes one again behind a Pop. No condition. -/
import Derived.Test.YthppjkjaaekikaaHh
namespace Go.Proofs.Ythppjkjaaekikaa.heapFull
open Go.ChangeShapes Go.WideShapes Go.ChangeAt Go.RowKit Go.Deep
def Full : Nat := 65536
theorem full_hp (H : Nat) (v : Value) (l : List Itm) (x : Itm) (w : World) (h : HO H w v l) (hl : l.length = Full) :
    Calls Try.prog 13 #[.pointer (some ⟨H, 0, none⟩), x.agg] w fun e w' => e = .returned (.int .i64 9) ∧ Below w.heap.size w w' := by
  obtain ⟨A, c, rfl, hc⟩ := oi_cell h rfl
  exact push_full H l.length c x A w hc (by rw [hl]; exact Nat.le_refl _)
theorem least_rep {n : Nat} {l : List Itm} {x y : Itm} (hl : l.Perm (List.replicate n x)) (hy : Least l y) : y = x := List.eq_of_mem_replicate (hl.mem_iff.1 hy.1)
/-- behind so many Pushes of one item; a box is as it was -/
def Pushed (H B : Nat) (x : Itm) (W : World) (i : Nat) (w : World) : Prop := ∃ v l, HP H w v l ∧ l.Perm (List.replicate i x) ∧ Below W.heap.size W w ∧ w.heap[B]? = some (.cells x.cells 32 (0, 0)) ∧ ∀ j, v.ownBlock = some j → j ≠ B
set_option maxRecDepth 100000 in
set_option maxHeartbeats 8000000 in
theorem walk (x : Itm) (w : World) : Calls Try.prog 6 #[x.agg] w (LawOk w) := by
  obtain ⟨W1, hW1⟩ : ∃ W1, w.alloc (.cells x.cells 32) = W1 := ⟨_, rfl⟩
  have hb1 : Below w.heap.size w W1 := by rw [← hW1]; exact (Below.refl _ _).alloc (Nat.le_refl _) _
  have hX : W1.heap[w.heap.size]? = some (.cells x.cells 32 (0, 0)) := by rw [← hW1]; exact heap_alloc_new w _
  obtain ⟨q, hq, hq2⟩ : ∃ q : Nat, IntKind.u64.wrap ((x.key : Int) + 1) = (q : Int) ∧ q < 18446744073709551616 := by
    refine ⟨(x.key + 1) % 18446744073709551616, ?_, Nat.mod_lt _ (by omega)⟩
    rw [IntKind.wrap_u64]; omega
  have HB1 := Lib.hid hb1
  have HX := Lib.hid hX
  have HQ := Lib.hid hq
  have HQ2 := Lib.hid hq2
  have HW := Lib.hid works_any
  clear hb1 hX hq hq2
  dsimp only [Itm.agg]
  unfold Itm.cells at hW1
  go_enter Try.func6, Try.ntmps6
  go_wp2_with fail
  try rw [hW1]
  clear hW1
  refine (new_hp W1).mono ?_
  rintro e w1 ⟨rfl, k1, hb2⟩
  have HST : Hid (Pushed W1.heap.size w.heap.size x w 0 w1) := Lib.hid ⟨_, _, k1, List.Perm.refl _, HB1.out.trans (hb2.mono HB1.out.size), (hb2.block _ (Array.getElem?_eq_some_iff.1 HX.out).1).trans HX.out, fun j hj => by simp [Value.ownBlock] at hj⟩
  have hBH : w.heap.size < W1.heap.size := (Array.getElem?_eq_some_iff.1 HX.out).1
  have HWl : Hid (w.heap.size ≤ W1.heap.size) := Lib.hid HB1.out.size
  clear k1 hb2 HX
  generalize W1.heap.size = H at *
  generalize hBe : w.heap.size = B at *
  have HE := Lib.hid hBe
  clear hBe
  go_wp2_with fail
  go_loopw [4] (fun vi wr => ∃ i : Nat, vi = .int .i64 i ∧ Hid (i ≤ Full) ∧ i ≤ 65536 ∧ Hid (Pushed H B x w i wr)) (fun vi _ => 65536 - (intOf vi).toNat)
  case atStart => exact ⟨0, rfl, Nat.zero_le _, by omega, HST⟩
  case round =>
    obtain ⟨i, rfl, hiF, hi, HP0⟩ := hrel
    clear HST
    obtain ⟨v, l, k, hp, hlow, hbox, hnb⟩ := HP0.out
    have HK := Lib.hid k
    have HPm := Lib.hid hp
    have HLow := Lib.hid hlow
    have HBox := Lib.hid hbox
    have HNb := Lib.hid hnb
    have hll : l.length = i := by rw [hp.length_eq]; simp
    have b0 : wr.cell? ⟨B, 0, none⟩ = some (.int .u64 (x.key : Int)) := cell_of_row _ _ 0 _ _ _ hbox
    have b1 : wr.cell? ⟨B, 1, none⟩ = some (.int .u32 (x.id : Int)) := cell_of_row _ _ 1 _ _ _ hbox
    clear k hp hlow hbox hnb HP0
    by_cases hlt : i < 65536
    · have h3 : (i : Int) < 65536 := by omega
      have HPu := Lib.hid (push_hp H v l x wr HK.out (by omega))
      dsimp only [Itm.agg] at HPu
      clear hll hlt
      go_wp2_with fail
      refine HPu.out.mono ?_
      rintro e w3 ⟨rfl, v2, l2, k2, p2, s2⟩
      have HP2 : Hid (Pushed H B x w (i + 1) w3) := Lib.hid ⟨v2, l2, k2, by rw [List.replicate_succ']; exact p2.trans (HPm.out.append_right _), s2.low HLow.out HK.out.oi (by rw [HE.out]; omega),
        (s2.box (Array.getElem?_eq_some_iff.1 HBox.out).1 (by omega) HNb.out).trans HBox.out, s2.not_old (Array.getElem?_eq_some_iff.1 HBox.out).1 HNb.out⟩
      have hiF2 : Hid (i + 1 ≤ Full) := Lib.hid (by unfold Full; omega)
      clear k2 p2 s2 b0 b1
      go_wp2_with fail
      go_roundw
      case rel => exact ⟨i + 1, by go_num, hiF2, by omega, HP2⟩
      case measure => simp [intOf]; omega
    · have h3 : ¬ (i : Int) < 65536 := by omega
      obtain ⟨n, hn⟩ : ∃ n : Nat, n = i := ⟨_, rfl⟩
      have HLl : Hid (l.length = Full) := Lib.hid (by unfold Full; omega)
      have hq := HQ.out
      obtain ⟨W2, hW2⟩ : ∃ W2, wr.alloc (.cells #[.int .u64 (q : Int), .int .u32 0] 32) = W2 := ⟨_, rfl⟩
      have hb2 : Below wr.heap.size wr W2 := by rw [← hW2]; exact (Below.refl _ _).alloc (Nat.le_refl _) _
      have hY2 : W2.heap[wr.heap.size]? = some (.cells #[.int .u64 (q : Int), .int .u32 0] 32 (0, 0)) := by rw [← hW2]; exact heap_alloc_new _ _
      have hK2 := HK.out.below hb2
      have HPu : Hid (Calls Try.prog 13 #[.pointer (some ⟨H, 0, none⟩), .agg #[.int .u64 (q : Int), .int .u32 0]] W2 fun e w' => e = .returned (.int .i64 9) ∧ Below W2.heap.size W2 w') := Lib.hid (full_hp H v l ⟨q, 0, HQ2.out, by omega⟩ W2 hK2.oi HLl.out)
      have HB2 := Lib.hid hb2
      have HY2 := Lib.hid hY2
      have HK2 := Lib.hid hK2
      have HW2 := Lib.hid hW2
      clear hb2 hY2 hK2 hll hlt hi hiF hW2
      go_wp2_with fail
      rw [HW2.out]
      clear b0 b1 hq
      refine HPu.out.mono ?_
      rintro e w3 ⟨rfl, hb3⟩
      have HK3 := Lib.hid (HK2.out.below hb3)
      have HY3 := Lib.hid ((hb3.block _ (Array.getElem?_eq_some_iff.1 HY2.out).1).trans HY2.out)
      have HBw3 := Lib.hid (HB2.out.trans (hb3.mono HB2.out.size))
      have HBx3 := Lib.hid ((HBw3.out.block _ (Array.getElem?_eq_some_iff.1 HBox.out).1).trans HBox.out)
      have HLn3 : Hid (Calls Try.prog 15 #[.pointer (some ⟨H, 0, none⟩)] w3 fun e w' => e = .returned (.int .i64 65536) ∧ w3 = w') := Lib.hid ((len_ho H v l w3 HK3.out.oi).mono fun e w' ⟨h1, h2⟩ => ⟨by rw [h1, HLl.out]; rfl, h2⟩)
      have HPo := Lib.hid (pop_hp H v l w3 HK3.out (by rw [HLl.out]; decide) (by rw [HLl.out]; exact Nat.le_refl _))
      have hYn := HB2.out.size
      clear hb3 HPu
      go_wp2_with (go_at_call 15; refine HLn3.out.mono ?_; rintro e w4 ⟨rfl, rfl⟩)
      refine HPo.out.mono ?_
      rintro e w5 ⟨v5, l5, z, rfl, k5, p5, m5, s5⟩
      have hz : z = x := least_rep HPm.out m5
      subst hz
      have hbx5 := (s5.box (Array.getElem?_eq_some_iff.1 HBx3.out).1 (by omega) HNb.out).trans HBx3.out
      have hyn : wr.heap.size < w3.heap.size := (Array.getElem?_eq_some_iff.1 HY3.out).1
      have hy5 := (s5.box hyn (by have := HK.out.oi.lt; omega) (HK.out.oi.not_new (Nat.le_refl _))).trans HY3.out
      have HK5 := Lib.hid (k5.below ((Below.refl _ _).alloc (Nat.le_refl _) (.cells #[.int .u64 (z.key : Int), .int .u32 (z.id : Int)] 32)))
      have hl5 : l5.length + 1 = l.length := perm_len' p5
      have HLow3 := Lib.hid (HLow.out.trans (HBw3.out.mono HLow.out.size))
      have HLow5 := Lib.hid ((s5.low HLow3.out HK3.out.oi (by rw [HE.out]; omega)).alloc (by have := (s5.low HLow3.out HK3.out.oi (by rw [HE.out]; omega)).size; exact this) (.cells #[.int .u64 (z.key : Int), .int .u32 (z.id : Int)] 32))
      have lb5 := (Array.getElem?_eq_some_iff.1 hbx5).1
      have ly5 := (Array.getElem?_eq_some_iff.1 hy5).1
      have b0 : ∀ o, (w5.alloc o).cell? ⟨B, 0, none⟩ = some (.int .u64 (z.key : Int)) := fun o => by rw [World.cell?_alloc_past _ _ _ lb5]; exact cell_of_row _ _ 0 _ _ _ hbx5
      have b1 : ∀ o, (w5.alloc o).cell? ⟨B, 1, none⟩ = some (.int .u32 (z.id : Int)) := fun o => by rw [World.cell?_alloc_past _ _ _ lb5]; exact cell_of_row _ _ 1 _ _ _ hbx5
      have y0 : ∀ o, (w5.alloc o).cell? ⟨wr.heap.size, 0, none⟩ = some (.int .u64 (q : Int)) := fun o => by rw [World.cell?_alloc_past _ _ _ ly5]; exact cell_of_row _ _ 0 _ _ _ hy5
      have y1 : ∀ o, (w5.alloc o).cell? ⟨wr.heap.size, 1, none⟩ = some (.int .u32 0) := fun o => by rw [World.cell?_alloc_past _ _ _ ly5]; exact cell_of_row _ _ 1 _ _ _ hy5
      have HPu5 : Hid (Calls Try.prog 13 #[.pointer (some ⟨H, 0, none⟩), .agg #[.int .u64 (q : Int), .int .u32 0]] (w5.alloc (.cells #[.int .u64 (z.key : Int), .int .u32 (z.id : Int)] 32)) fun e w' => e = .returned (.int .i64 0) ∧ ∃ v' l', HP H w' v' l' ∧ l'.length = Full ∧ Below w.heap.size w w') :=
        Lib.hid ((push_hp H v5 l5 ⟨q, 0, HQ2.out, by omega⟩ _ HK5.out (by have := HLl.out; unfold Full at this; omega)).mono fun e w' ⟨h1, v', l', h2, h3, h4⟩ => ⟨h1, v', l', h2, by rw [perm_len h3, hl5, HLl.out], h4.low HLow5.out HK5.out.oi (by rw [HE.out]; omega)⟩)
      clear k5 p5 m5 s5 hbx5 hy5 hl5 lb5 ly5 hyn
      dsimp only [Itm.agg]
      go_wp2_with fail
      refine HPu5.out.mono ?_
      rintro e w6 ⟨rfl, v6, l6, k6, hl6, hlow6⟩
      have HLn6 : Hid (Calls Try.prog 15 #[.pointer (some ⟨H, 0, none⟩)] w6 fun e w' => e = .returned (.int .i64 65536) ∧ w6 = w') := Lib.hid ((len_ho H v6 l6 w6 k6.oi).mono fun e w' ⟨h1, h2⟩ => ⟨by rw [h1, hl6]; rfl, h2⟩)
      have HLow6 := Lib.hid hlow6
      clear k6 hl6 hlow6 b0 b1 y0 y1
      go_wp2_with (first | (go_at_call 15; refine HLn6.out.mono ?_; rintro e w7 ⟨rfl, rfl⟩) | (go_at_call 17; refine (HW.out _).mono ?_; rintro e w8 ⟨rfl, hb8⟩))
      go_ret
      exact ⟨rfl, HLow6.out.trans (hb8.mono HLow6.out.size)⟩

set_option maxRecDepth 100000 in
theorem lifted (os : Os) (started : os.Started) (H : Type) (enc : TypeId × Value → H) :
    ReturnsInHanded {} Try.checked os 6 .any (Rows.heapFullSpec.pre6 enc Try.prog Try.f6 Rows.heapFullRow.domain false) (Rows.heapFullSpec.post enc Try.prog Try.f6 false true false false) := by
  refine returnsInHanded_of_change (C := Try.checked) own_knob started (by kernel_rfl) Try.func6
    (ChangeSpec.witness6 (enc := enc) (C := Try.checked) false ⟨#[], #[.agg #[.int .u64 0, .int .u32 0]], []⟩ 8 (by kernel_rfl) (by kernel_rfl) (by kernel_rfl) (by kernel_rfl)) ?_
  intro W base args ds gs before hval0 hW _ _
  have hval : ∀ (j : Nat) t v, Try.f6.params[j]? = some t → args[j]? = some v → Value.okWide Try.prog W .any base t v := hval0
  have hW' := hW
  obtain ⟨p, q, hA0, hV, rfl, _, _⟩ := hW
  have hA : DataW.TrodAll enc Try.prog W 0 (fun _ => true) true Try.f6.params.toList args.toList ds p := hA0
  rw [Try.params6] at hA hval
  obtain ⟨v0, vs0, d0, ds0, p0, q0, hargs, rfl, rfl, h0, r0⟩ := trodAll_cons hA
  obtain ⟨rfl, rfl, rfl⟩ := trodAll_nil r0
  obtain rfl : args = #[v0] := by cases args; simp_all
  obtain ⟨rfl, rfl⟩ := trodVars_none hV
  have hlt : ∀ x ∈ p0, x.block < W.heap.size := fun x hx => hW'.lt x (by simpa using hx)
  obtain ⟨x0, rfl⟩ := open_item (hval 0 32 v0 rfl rfl) h0 (fun x hx => hlt x (by simp [hx]))
  refine (walk x0 W ).mono fun e W' ⟨he, hg⟩ => ?_
  subst he
  exact ⟨_, rfl, law_post hW' rfl (by kernel_rfl) rfl (by kernel_rfl) hg⟩

theorem proved : Rows.HeapFullSaid :=
  OpenClaim.holds_of_wide 6 Try.f6 rfl rfl rfl rfl rfl rfl rfl ⟨rfl, rfl, rfl, rfl, rfl⟩ rfl rfl rfl rfl rfl (by kernel_rfl) Try.func6 (by kernel_rfl)
    (of_decide_eq_true (by kernel_rfl)) (by unfold Func.isWrapper; first | (rw [if_pos (by decide +kernel)]; kernel_rfl) | (rw [if_neg (by decide +kernel)]; exact ⟨rfl, rfl⟩))
    (fun os started H enc _ => lifted os started H enc)

end Go.Proofs.Ythppjkjaaekikaa.heapFull
