/- WitnessSelf: for any vertex and any number the call returns true: a vertex is found from itself, however little is allowed. No condition. -/
import Derived.Test.YtpnmfhcmodoeiaaRd
import Derived.Test.YtpnmfhcmodoeiaaW4
import Derived.Test.YtpnmfhcmodoeiaaNp
namespace Go.Proofs.Ytpnmfhcmodoeiaa.witnessSelf
open Go.ChangeShapes Go.WideShapes Go.ChangeAt Go.RowKit Go.Deep
theorem start_least (v : Nat) : IsLeast (start v) v 0 := ⟨upd_same _ _ _, fun u e h => by
  unfold start at h
  by_cases hu : u = v
  · subst hu; rw [upd_same] at h; injection h with h; omega
  · rw [upd_other _ _ hu] at h; cases h⟩
theorem finds_self {out : Nat → List Edg × Int} {av : Nat → Bool} {v most : Nat} {a : List Nat} {b : Bool} {e : Int} (h : Finds out av v v most a b e) : b = true ∧ e = 0 := by
  have h1 : Runs out av v most 0 (fun _ => false) (start v) [] true 0 := .is 0 _ _ 0 (by omega) (start_least v) (Nat.zero_le _)
  obtain ⟨_, h2, h3⟩ := Runs.det h1 h
  exact ⟨h2.symm, h3.symm⟩
set_option maxRecDepth 100000 in
theorem walk (v most : Nat) (w : World) (hv : v < 4294967296) (_ : most < 18446744073709551616) : Calls Try.prog 9 #[.int .u32 (v : Int), .int .u64 (most : Int)] w (LawOk w) := by
  have HW := Lib.hid works_any
  obtain ⟨W1, hW1⟩ : ∃ W1, w.alloc (.cells #[.slice none 0 0, .int .u32 (v : Int), .int .u32 (v : Int)] 57) = W1 := ⟨_, rfl⟩
  have hR : RoadAt (w.heap.size + 1) w.heap.size [] v v W1 := by rw [← hW1]; exact ⟨none, 0, heap_alloc_new _ _, SR.nil _ _ _ _ _⟩
  have hb : Below w.heap.size w W1 := by rw [← hW1]; exact (Below.refl _ _).alloc (Nat.le_refl _) _
  have hs : W1.heap.size = w.heap.size + 1 := by rw [← hW1]; simp
  have HF := Lib.hid (find_still (road_net (w.heap.size + 1) w.heap.size [] v v (by omega) (by simp)) (roadOut_len [] v) v v most hv W1 hR (by omega))
  have HW1 := Lib.hid hW1
  have HB := Lib.hid hb
  clear hW1 hR hb hs
  go_enter Try.func9, Try.ntmps9
  go_wp2_with fail
  rw [HW1.out]
  refine HF.out.mono ?_
  rintro e w1 ⟨a, b, er, h1, rfl, hb1⟩
  obtain ⟨rfl, rfl⟩ := finds_self h1
  have HB1 := Lib.hid (HB.out.trans (hb1.mono HB.out.size))
  clear h1 hb1
  go_wp2_with (go_at_call 12; with_reducible refine (HW.out _).mono ?_; rintro e w9 ⟨rfl, hb9⟩)
  go_ret
  exact ⟨rfl, HB1.out.trans (hb9.mono HB1.out.size)⟩

set_option maxRecDepth 100000 in
theorem lifted (os : Os) (started : os.Started) (H : Type) (enc : TypeId × Value → H) :
    ReturnsInHanded {} Try.checked os 9 .any (Rows.witnessSelfSpec.pre6 enc Try.prog Try.f9 Rows.witnessSelfRow.domain false) (Rows.witnessSelfSpec.post enc Try.prog Try.f9 false true false false) := by
  refine returnsInHanded_of_change (C := Try.checked) own_knob started (by kernel_rfl) Try.func9
    (ChangeSpec.witness6 (enc := enc) (C := Try.checked) false ⟨#[], #[.int .u32 0, .int .u64 0], []⟩ 8 (by kernel_rfl) (by kernel_rfl) (by kernel_rfl) (by kernel_rfl)) ?_
  intro W base args ds gs before hval0 hW _ _
  have hval : ∀ (j : Nat) t v, Try.f9.params[j]? = some t → args[j]? = some v → Value.okWide Try.prog W .any base t v := hval0
  have hW' := hW
  obtain ⟨p, q, hA0, hV, rfl, _, _⟩ := hW
  have hA : DataW.TrodAll enc Try.prog W 0 (fun _ => true) true Try.f9.params.toList args.toList ds p := hA0
  rw [Try.params9] at hA hval
  obtain ⟨v0, vs0, d0, ds0, p0, q0, hargs, rfl, rfl, h0, r0⟩ := trodAll_cons hA
  obtain ⟨v1, vs1, d1, ds1, p1, q1, rfl, rfl, rfl, h1, r1⟩ := trodAll_cons r0
  obtain ⟨rfl, rfl, rfl⟩ := trodAll_nil r1
  obtain rfl : args = #[v0, v1] := by cases args; simp_all
  obtain ⟨rfl, rfl⟩ := trodVars_none hV
  have hlt : ∀ x ∈ p0 ++ (p1), x.block < W.heap.size := fun x hx => hW'.lt x (by simpa using hx)
  obtain ⟨z0, rfl, rfl, rfl, w0⟩ := open_int Try.underlying26 (hval 0 26 v0 rfl rfl) h0
  obtain ⟨x0, rfl, hx0⟩ := u32_bounds w0
  obtain ⟨z1, rfl, rfl, rfl, w1⟩ := open_int Try.underlying27 (hval 1 27 v1 rfl rfl) h1
  obtain ⟨x1, rfl, hx1⟩ := u64_bounds w1
  refine (walk x0 x1 W hx0 hx1).mono fun e W' ⟨he, hg⟩ => ?_
  subst he
  exact ⟨_, rfl, law_post hW' rfl (by kernel_rfl) rfl (by kernel_rfl) hg⟩

theorem proved : Rows.WitnessSelfSaid :=
  OpenClaim.holds_of_wide 9 Try.f9 rfl rfl rfl rfl rfl rfl rfl ⟨rfl, rfl, rfl, rfl, rfl⟩ rfl rfl rfl rfl rfl (by kernel_rfl) Try.func9 (by kernel_rfl)
    (of_decide_eq_true (by kernel_rfl)) (by unfold Func.isWrapper; first | (rw [if_pos (by decide +kernel)]; kernel_rfl) | (rw [if_neg (by decide +kernel)]; exact ⟨rfl, rfl⟩))
    (fun os started H enc _ => lifted os started H enc)

end Go.Proofs.Ytpnmfhcmodoeiaa.witnessSelf
