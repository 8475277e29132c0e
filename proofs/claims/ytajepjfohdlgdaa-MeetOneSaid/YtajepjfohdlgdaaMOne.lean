/- MeetOne: of one label each the two meet just if their hub is one, and both come to a sum. No condition. -/
import Derived.Test.YtajepjfohdlgdaaMb
import Derived.Test.YtajepjfohdlgdaaMw
import Derived.Test.YtajepjfohdlgdaaMo
namespace Go.Proofs.Ytajepjfohdlgdaa.meetOne
open Go.ChangeShapes Go.WideShapes Go.ChangeAt Go.RowKit Go.Deep

theorem open_label {H : Type} {encT : TypeId × Value → H} {W : World} {r : Reach} {b0 : Nat} {v : Value} {d : DataW H} {p : List MemPlace} (hv : Value.okWide Try.prog W r b0 35 v)
    (h : DataW.Trod encT Try.prog W 0 (fun _ => true) true 35 v d p) : ∃ x : Lbl, v = x.agg := by
  obtain ⟨cs, rfl, hsz⟩ := okWide_struct Try.underlying35 hv
  obtain ⟨fuel, hf⟩ := h
  obtain ⟨x, hx⟩ := label_dec fuel _ _ hf
  refine ⟨x, ?_⟩
  simp [Value.cells] at hx
  rw [Lbl.agg]
  congr 1
  exact Array.toList_inj.1 hx.symm

/-- of one label each -/
theorem one (x y : Lbl) : meetV [x] [y] = if x.hub = y.hub ∧ fitsB x.dist y.dist = true then ⟨sumV x.dist y.dist, x.hub, true⟩ else St.none := by
  have e0 : meetV [x] [y] = (pairsL [x] [y]).foldl St.step St.none := rfl
  rw [e0]
  by_cases h : x.hub = y.hub
  · have e1 : pairsL [x] [y] = [(x, y)] := by
      unfold pairsL
      rw [if_neg (by omega), if_neg (by omega)]
      unfold pairsL
      rfl
    rw [e1]
    cases hf : fitsB x.dist y.dist with
    | false => simp [St.step, hf]
    | true => simp [St.step, hf, h, St.none, sumV_yes hf]
  · have e1 : pairsL [x] [y] = [] := by
      unfold pairsL
      by_cases hl : x.hub < y.hub
      · rw [if_pos hl]; unfold pairsL; rfl
      · rw [if_neg hl, if_pos (by omega)]; unfold pairsL; rfl
    rw [e1, if_neg (by simp [h])]
    rfl

set_option maxHeartbeats 4000000 in
theorem walk (x y : Lbl) (w : World) : Calls Try.prog 6 #[x.agg, y.agg] w (LawOk w) := by
  have HM := meet_new [x] [y] 1 1 1 1 #[.int .u32 x.hub, .int .u32 x.next, .int .u64 x.dist] #[.int .u32 y.hub, .int .u32 y.next, .int .u64 y.dist] ((w.alloc (.cells #[.int .u32 x.hub, .int .u32 x.next, .int .u64 x.dist] 35)).alloc (.cells #[.int .u32 y.hub, .int .u32 y.next, .int .u64 y.dist] 35)) rfl rfl rfl rfl (by simp) (by simp)
  obtain ⟨b1, b2, _, hb2⟩ := two_new w #[.int .u32 x.hub, .int .u32 x.next, .int .u64 x.dist] #[.int .u32 y.hub, .int .u32 y.next, .int .u64 y.dist] 35
  simp only [World.size_alloc] at HM
  have H1 := Lib.hid HM
  have H2 := Lib.hid b1
  have H3 := Lib.hid b2
  have H4 := Lib.hid hb2
  have H5 := Lib.hid (one x y)
  clear HM b1 b2 hb2
  unfold Lbl.agg
  obtain ⟨xh, xn, xd, hxh, hxn, hxd⟩ := x
  obtain ⟨yh, yn, yd, hyh, hyn, hyd⟩ := y
  dsimp only at H1 H2 H3 H4 H5 ⊢
  go_enter Try.func6, Try.ntmps6
  go_wp2_with fail
  refine H1.out.mono ?_
  rintro e w3 ⟨rfl, hb3⟩
  have HB3 : Hid (Below w.heap.size w w3) := H4.out.trans (hb3.mono (by omega))
  have k1 : w3.heap[w.heap.size]? = some (.cells #[.int .u32 xh, .int .u32 xn, .int .u64 xd] 35 (0, 0)) := (hb3.block _ (by omega)).trans H2.out
  have k2 : w3.heap[w.heap.size + 1]? = some (.cells #[.int .u32 yh, .int .u32 yn, .int .u64 yd] 35 (0, 0)) := (hb3.block _ (by omega)).trans H3.out
  have c1 : w3.cell? ⟨w.heap.size, 2, none⟩ = some (.int .u64 xd) := cell_of_row w3 _ 2 _ _ _ k1
  have c2 : w3.cell? ⟨w.heap.size, 0, none⟩ = some (.int .u32 xh) := cell_of_row w3 _ 0 _ _ _ k1
  have c3 : w3.cell? ⟨w.heap.size + 1, 2, none⟩ = some (.int .u64 yd) := cell_of_row w3 _ 2 _ _ _ k2
  have c4 : w3.cell? ⟨w.heap.size + 1, 0, none⟩ = some (.int .u32 yh) := cell_of_row w3 _ 0 _ _ _ k2
  clear k1 k2 hb3 H1 H2 H3 H4
  rw [H5.out]
  clear H5
  dsimp only
  by_cases hq : xh = yh
  · subst hq
    cases hf : fitsB xd yd with
    | true =>
      rw [if_pos ⟨rfl, rfl⟩]
      go_wp2_with fail
      refine (refAdd_any xd yd w3).mono ?_
      rintro e w4 ⟨rfl, rfl⟩
      have hq : ((xh : Int) == (xh : Int)) = true := by simp
      rw [hf]
      generalize sumV xd yd = s at *
      go_wp2_with fail
      refine (works_any _).mono ?_
      rintro e w5 ⟨rfl, hb5⟩
      go_wp2_with fail
      go_ret
      exact ⟨rfl, HB3.out.trans (hb5.mono HB3.out.size)⟩
    | false =>
      rw [if_neg (by simp), St.none]
      go_wp2_with fail
      refine (refAdd_any xd yd w3).mono ?_
      rintro e w4 ⟨rfl, rfl⟩
      rw [hf]
      generalize sumV xd yd = s at *
      go_wp2_with fail
      refine (works_any _).mono ?_
      rintro e w5 ⟨rfl, hb5⟩
      go_wp2_with fail
      go_ret
      exact ⟨rfl, HB3.out.trans (hb5.mono HB3.out.size)⟩
  · have hq' : ¬ (xh : Int) = (yh : Int) := by omega
    rw [if_neg (by simp [hq]), St.none]
    go_wp2_with fail
    refine (refAdd_any xd yd w3).mono ?_
    rintro e w4 ⟨rfl, rfl⟩
    generalize sumV xd yd = s at *
    generalize fitsB xd yd = k at *
    clear hq
    go_wp2_with fail
    refine (works_any _).mono ?_
    rintro e w5 ⟨rfl, hb5⟩
    go_wp2_with fail
    go_ret
    exact ⟨rfl, HB3.out.trans (hb5.mono HB3.out.size)⟩

set_option maxRecDepth 100000 in
theorem lifted (os : Os) (started : os.Started) (H : Type) (enc : TypeId × Value → H) :
    ReturnsInHanded {} Try.checked os 6 .any (Rows.meetOneSpec.pre6 enc Try.prog Try.f6 Rows.meetOneRow.domain false) (Rows.meetOneSpec.post enc Try.prog Try.f6 false true false false) := by
  refine returnsInHanded_of_change (C := Try.checked) own_knob started (by kernel_rfl) Try.func6
    (ChangeSpec.witness6 (enc := enc) (C := Try.checked) false ⟨#[], #[.agg #[.int .u32 0, .int .u32 0, .int .u64 0], .agg #[.int .u32 0, .int .u32 0, .int .u64 0]], []⟩ 8 (by kernel_rfl) (by kernel_rfl) (by kernel_rfl) (by kernel_rfl)) ?_
  intro W base args ds gs before hval0 hW _ _
  have hval : ∀ (j : Nat) t v, Try.f6.params[j]? = some t → args[j]? = some v → Value.okWide Try.prog W .any base t v := hval0
  have hW' := hW
  obtain ⟨p, q, hA0, hV, rfl, _, _⟩ := hW
  have hA : DataW.TrodAll enc Try.prog W 0 (fun _ => true) true Try.f6.params.toList args.toList ds p := hA0
  rw [Try.params6] at hA hval
  obtain ⟨v0, vs0, d0, ds0, p0, q0, hargs, rfl, rfl, h0, r0⟩ := trodAll_cons hA
  obtain ⟨v1, vs1, d1, ds1, p1, q1, rfl, rfl, rfl, h1, r1⟩ := trodAll_cons r0
  obtain ⟨rfl, rfl, rfl⟩ := trodAll_nil r1
  obtain rfl : args = #[v0, v1] := by cases args; simp_all
  obtain ⟨rfl, rfl⟩ := trodVars_none hV
  have hlt : ∀ x ∈ p0 ++ (p1), x.block < W.heap.size := fun x hx => hW'.lt x (by simpa using hx)
  obtain ⟨x0, rfl⟩ := open_label (hval 0 35 v0 rfl rfl) h0
  obtain ⟨x1, rfl⟩ := open_label (hval 1 35 v1 rfl rfl) h1
  refine (walk x0 x1 W ).mono fun e W' ⟨he, hg⟩ => ?_
  subst he
  exact ⟨_, rfl, law_post hW' rfl (by kernel_rfl) rfl (by kernel_rfl) hg⟩

theorem proved : Rows.MeetOneSaid :=
  OpenClaim.holds_of_wide 6 Try.f6 rfl rfl rfl rfl rfl rfl rfl ⟨rfl, rfl, rfl, rfl, rfl⟩ rfl rfl rfl rfl rfl (by kernel_rfl) Try.func6 (by kernel_rfl)
    (of_decide_eq_true (by kernel_rfl)) (by unfold Func.isWrapper; first | (rw [if_pos (by decide +kernel)]; kernel_rfl) | (rw [if_neg (by decide +kernel)]; exact ⟨rfl, rfl⟩))
    (fun os started H enc _ => lifted os started H enc)

end Go.Proofs.Ytajepjfohdlgdaa.meetOne
