/- UnpackSums: for any edges the call returns true: Sum tells the document's answer, and the edges stay. No condition. -/
import Derived.Test.YtongpcfjfolfbaaWk
import Derived.Test.YtongpcfjfolfbaaEp
namespace Go.Proofs.Ytongpcfjfolfbaa.unpackSums
open Go.ChangeShapes Go.WideShapes Go.ChangeAt Go.RowKit Go.Deep

theorem far (A : Option Addr) (n c : Nat) (w : World) (h : 4096 < n) (hn : n ≤ 9223372036854775807) : Calls Try.prog 4 #[.slice A n c] w (LawOk w) := by
  have h1 : (4096 : Int) < (n : Int) := by omega
  have HW := Lib.hid works_any
  go_enter Try.func4, Try.ntmps4
  go_wp2_with (go_at_call 12; refine (HW.out _).mono ?_; rintro e w1 ⟨rfl, hb1⟩)
  go_ret
  exact ⟨rfl, hb1⟩
set_option maxHeartbeats 1000000 in
theorem near (A : Option Addr) (l : List Edg) (c : Nat) (w : World) (hs : ELs w.heap.size w A l) (hl : l.length ≤ 4096) : Calls Try.prog 4 #[.slice A l.length c] w (LawOk w) := by
  have h1 : ¬ (4096 : Int) < (l.length : Int) := by omega
  have HW := Lib.hid works_any
  have HS := Lib.hid hs
  clear hs
  go_enter Try.func4, Try.ntmps4
  go_wp2_with fail
  refine (copy_any _ A l c w HS.out (by omega)).mono ?_
  rintro e w1 ⟨P, cp, rfl, hown, hb1⟩
  have HP := Lib.hid (own_els hown (by omega))
  have HB1 := Lib.hid hb1
  clear hown hb1
  go_wp2_with fail
  refine (sum_any _ P l cp w1 HP.out).mono ?_
  rintro e w2 ⟨rfl, n2, rfl⟩
  go_wp2_with fail
  refine (refSum_any _ A l c _ ((HS.out.below HB1.out).drew ⟨n2, rfl⟩)).mono ?_
  rintro e w3 ⟨rfl, n3, rfl⟩
  generalize sumOf l = s
  generalize sumOk l = o
  go_wp2_with fail
  refine (eq_same _ _ P A l cp c _ (HP.out.drew ⟨n2 + n3, rfl⟩) ((HS.out.below HB1.out).drew ⟨n2 + n3, rfl⟩)).mono ?_
  rintro e w4 ⟨rfl, n4, rfl⟩
  go_wp2_with fail
  refine (HW.out _).mono ?_
  rintro e w5 ⟨rfl, hb5⟩
  have HB5 := Lib.hid hb5
  clear hb5
  go_wp2_with fail
  go_ret
  exact ⟨rfl, (below_drewN HB1.out (n2 + n3 + n4)).trans (HB5.out.mono HB1.out.size)⟩
theorem walk (A : Option Addr) (n c : Nat) (w : World) (hn : n ≤ maxLen) (hf : n ≤ 4611686018427387904 → ∃ l : List Edg, l.length = n ∧ ELs w.heap.size w A l) : Calls Try.prog 4 #[.slice A n c] w (LawOk w) := by
  unfold maxLen at hn
  by_cases h : 4096 < n
  · exact far A n c w h hn
  · obtain ⟨l, rfl, hl⟩ := hf (by omega)
    exact near A l c w hl (by omega)

set_option maxRecDepth 100000 in
theorem lifted (os : Os) (started : os.Started) (H : Type) (enc : TypeId × Value → H) :
    ReturnsInHanded {} Try.checked os 4 .any (Rows.unpackSumsSpec.pre6 enc Try.prog Try.f4 Rows.unpackSumsRow.domain false) (Rows.unpackSumsSpec.post enc Try.prog Try.f4 false true false false) := by
  refine returnsInHanded_of_change (C := Try.checked) own_knob started (by kernel_rfl) Try.func4
    (ChangeSpec.witness6 (enc := enc) (C := Try.checked) false ⟨#[], #[.slice none 0 0], []⟩ 8 (by kernel_rfl) (by kernel_rfl) (by kernel_rfl) (by kernel_rfl)) ?_
  intro W base args ds gs before hval0 hW _ _
  have hval : ∀ (j : Nat) t v, Try.f4.params[j]? = some t → args[j]? = some v → Value.okWide Try.prog W .any base t v := hval0
  have hW' := hW
  obtain ⟨p, q, hA0, hV, rfl, _, _⟩ := hW
  have hA : DataW.TrodAll enc Try.prog W 0 (fun _ => true) true Try.f4.params.toList args.toList ds p := hA0
  rw [Try.params4] at hA hval
  obtain ⟨v0, vs0, d0, ds0, p0, q0, hargs, rfl, rfl, h0, r0⟩ := trodAll_cons hA
  obtain ⟨rfl, rfl, rfl⟩ := trodAll_nil r0
  obtain rfl : args = #[v0] := by cases args; simp_all
  obtain ⟨rfl, rfl⟩ := trodVars_none hV
  have hlt : ∀ x ∈ p0, x.block < W.heap.size := fun x hx => hW'.lt x (by simpa using hx)
  obtain ⟨A0, n0, c0, rfl, hn0, hl0⟩ := open_edges (okWide_slice Try.underlying27 (hval 0 27 v0 rfl rfl)) h0 (fun x hx => hlt x (by simp [hx]))
  refine (walk A0 n0 c0 W hn0 hl0).mono fun e W' ⟨he, hg⟩ => ?_
  subst he
  exact ⟨_, rfl, law_post hW' rfl (by kernel_rfl) rfl (by kernel_rfl) hg⟩

theorem proved : Rows.UnpackSumsSaid :=
  OpenClaim.holds_of_wide 4 Try.f4 rfl rfl rfl rfl rfl rfl rfl ⟨rfl, rfl, rfl, rfl, rfl⟩ rfl rfl rfl rfl rfl (by kernel_rfl) Try.func4 (by kernel_rfl)
    (of_decide_eq_true (by kernel_rfl)) (by unfold Func.isWrapper; first | (rw [if_pos (by decide +kernel)]; kernel_rfl) | (rw [if_neg (by decide +kernel)]; exact ⟨rfl, rfl⟩))
    (fun os started H enc _ => lifted os started H enc)

end Go.Proofs.Ytongpcfjfolfbaa.unpackSums
