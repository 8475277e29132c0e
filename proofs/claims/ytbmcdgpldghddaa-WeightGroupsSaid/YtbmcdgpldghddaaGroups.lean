/- WeightGroups: two weights come to the same both ways, and three, however they are put together. No condition. -/
import Derived.Test.YtbmcdgpldghddaaWw
import Derived.Test.YtbmcdgpldghddaaBd
namespace Go.Proofs.Ytbmcdgpldghddaa.weightGroups
open Go.ChangeShapes Go.WideShapes Go.ChangeAt Go.RowKit

theorem sumV_lt (a b : Nat) : sumV a b < 18446744073709551616 := by unfold sumV; split <;> omega
theorem law1 (a b c : Nat) : (fitsB a b && fitsB (sumV a b) c) = (fitsB b c && fitsB a (sumV b c)) := by
  rw [Bool.eq_iff_iff]
  simp only [Bool.and_eq_true]
  constructor
  · rintro ⟨h1, h2⟩
    have := fitsB_yes h1
    rw [sumV_yes h1] at h2
    have := fitsB_yes h2
    have h3 : fitsB b c = true := fitsB_mk (by omega)
    rw [sumV_yes h3]
    exact ⟨h3, fitsB_mk (by omega)⟩
  · rintro ⟨h1, h2⟩
    have := fitsB_yes h1
    rw [sumV_yes h1] at h2
    have := fitsB_yes h2
    have h3 : fitsB a b = true := fitsB_mk (by omega)
    rw [sumV_yes h3]
    exact ⟨h3, fitsB_mk (by omega)⟩
theorem law2 (a b c : Nat) (h1 : fitsB a b = true) (h2 : fitsB (sumV a b) c = true) : sumV (sumV a b) c = sumV a (sumV b c) := by
  have h3 := law1 a b c
  rw [h1, h2] at h3
  have h4 : (fitsB b c && fitsB a (sumV b c)) = true := h3.symm
  simp only [Bool.and_eq_true] at h4
  rw [sumV_yes h2, sumV_yes h1, sumV_yes h4.2, sumV_yes h4.1]
  omega
theorem law3 {a b : Nat} (h : fitsB a b = true) : a ≤ sumV a b ∧ b ≤ sumV a b ∧ sumV a b < 9223372036854775808 := by
  have := fitsB_yes h
  rw [sumV_yes h]
  omega

set_option maxRecDepth 100000 in
set_option maxHeartbeats 4000000 in
theorem walk (a b c : Nat) (w : World) (ha : a < 18446744073709551616) (hb : b < 18446744073709551616) (hc : c < 18446744073709551616) :
    Calls Try.prog 7 #[.int .u64 a, .int .u64 b, .int .u64 c] w (LawOk w) := by
  have H1 := Lib.hid fun W => wAdd_any a b ha hb W
  have H2 := Lib.hid fun W => wAdd_any b a hb ha W
  rw [show sumV b a = sumV a b by simp [sumV, Nat.add_comm], show fitsB b a = fitsB a b by simp [fitsB, Nat.add_comm]] at H2
  have H3 := Lib.hid fun W => wAdd_any (sumV a b) c (sumV_lt a b) hc W
  have H4 := Lib.hid fun W => wAdd_any b c hb hc W
  have H5 := Lib.hid fun W => wAdd_any a (sumV b c) ha (sumV_lt b c) W
  have L1 := law1 a b c
  have L2 := law2 a b c
  have L3 := law3 (a := a) (b := b)
  have L4 : fitsB a b = false → sumV a b = 0 := sumV_no
  generalize sumV (sumV a b) c = p at *
  generalize fitsB (sumV a b) c = one at *
  generalize sumV a (sumV b c) = r at *
  generalize fitsB a (sumV b c) = three at *
  generalize sumV b c = q at *
  generalize fitsB b c = two at *
  generalize sumV a b = x at *
  generalize fitsB a b = is at *
  clear ha hb hc
  cases is with
  | true =>
    obtain ⟨g1, g2, g3⟩ := L3 rfl
    have g4 : decide (x < a) = false := by simp; omega
    have g5 : decide (x < b) = false := by simp; omega
    have g6 : decide ((9223372036854775808 : Int) ≤ (x : Int)) = false := by simp; omega
    have g7 : decide (9223372036854775808 ≤ x) = false := by simp; omega
    clear L4 L3 g1 g2 g3
    cases one with
    | true =>
      have e := L2 rfl rfl
      subst e
      clear L2
      obtain ⟨rfl, rfl⟩ : two = true ∧ three = true := by simpa using L1.symm
      clear L1
      go_enter Try.func7, Try.ntmps7
      go_wp2_with fail
      refine (H1.out w).mono ?_
      rintro e w1 ⟨rfl, rfl⟩
      go_wp2_with fail
      refine (H2.out w).mono ?_
      rintro e w1 ⟨rfl, rfl⟩
      go_wp2_with fail
      refine (H3.out w).mono ?_
      rintro e w1 ⟨rfl, rfl⟩
      go_wp2_with fail
      refine (H4.out w).mono ?_
      rintro e w1 ⟨rfl, rfl⟩
      go_wp2_with fail
      refine (H5.out w).mono ?_
      rintro e w1 ⟨rfl, rfl⟩
      go_wp2_with fail
      refine (works_any w).mono ?_
      rintro e w1 ⟨rfl, hb⟩
      go_wp2_with fail
      go_ret
      exact ⟨rfl, hb⟩
    | false =>
      clear L2
      cases two <;> cases three <;> first
        | (exact absurd L1 (by decide))
        | (clear L1
           go_enter Try.func7, Try.ntmps7
           go_wp2_with fail
           refine (H1.out w).mono ?_
           rintro e w1 ⟨rfl, rfl⟩
           go_wp2_with fail
           refine (H2.out w).mono ?_
           rintro e w1 ⟨rfl, rfl⟩
           go_wp2_with fail
           refine (H3.out w).mono ?_
           rintro e w1 ⟨rfl, rfl⟩
           go_wp2_with fail
           refine (H4.out w).mono ?_
           rintro e w1 ⟨rfl, rfl⟩
           go_wp2_with fail
           refine (H5.out w).mono ?_
           rintro e w1 ⟨rfl, rfl⟩
           go_wp2_with fail
           refine (works_any w).mono ?_
           rintro e w1 ⟨rfl, hb⟩
           go_wp2_with fail
           go_ret
           exact ⟨rfl, hb⟩
          )
  | false =>
    have e := L4 rfl
    subst e
    clear L4 L3 L2
    have H3 := Lib.hid (show ∀ W, Calls Try.prog 11 #[.int .u64 (0 : Int), .int .u64 (c : Int)] W _ from H3.out)
    cases one <;> cases two <;> cases three <;> first
      | (exact absurd L1 (by decide))
      | (clear L1
         go_enter Try.func7, Try.ntmps7
         go_wp2_with fail
         refine (H1.out w).mono ?_
         rintro e w1 ⟨rfl, rfl⟩
         go_wp2_with fail
         refine (H2.out w).mono ?_
         rintro e w1 ⟨rfl, rfl⟩
         go_wp2_with fail
         refine (H3.out w).mono ?_
         rintro e w1 ⟨rfl, rfl⟩
         go_wp2_with fail
         refine (H4.out w).mono ?_
         rintro e w1 ⟨rfl, rfl⟩
         go_wp2_with fail
         refine (H5.out w).mono ?_
         rintro e w1 ⟨rfl, rfl⟩
         go_wp2_with fail
         refine (works_any w).mono ?_
         rintro e w1 ⟨rfl, hb⟩
         go_wp2_with fail
         go_ret
         exact ⟨rfl, hb⟩
        )


set_option maxRecDepth 100000 in
theorem lifted (os : Os) (started : os.Started) (H : Type) (enc : TypeId × Value → H) :
    ReturnsInHanded {} Try.checked os 7 .any (Rows.weightGroupsSpec.pre6 enc Try.prog Try.f7 Rows.weightGroupsRow.domain false) (Rows.weightGroupsSpec.post enc Try.prog Try.f7 false true false false) := by
  refine returnsInHanded_of_change (C := Try.checked) own_knob started (by kernel_rfl) Try.func7
    (ChangeSpec.witness6 (enc := enc) (C := Try.checked) false ⟨#[], #[.int .u64 0, .int .u64 0, .int .u64 0], []⟩ 8 (by kernel_rfl) (by kernel_rfl) (by kernel_rfl) (by kernel_rfl)) ?_
  intro W base args ds gs before hval0 hW _ _
  have hval : ∀ (j : Nat) t v, Try.f7.params[j]? = some t → args[j]? = some v → Value.okWide Try.prog W .any base t v := hval0
  have hW' := hW
  obtain ⟨p, q, hA0, hV, rfl, _, _⟩ := hW
  have hA : DataW.TrodAll enc Try.prog W 0 (fun _ => true) true Try.f7.params.toList args.toList ds p := hA0
  rw [Try.params7] at hA hval
  obtain ⟨v0, vs0, d0, ds0, p0, q0, hargs, rfl, rfl, h0, r0⟩ := trodAll_cons hA
  obtain ⟨v1, vs1, d1, ds1, p1, q1, rfl, rfl, rfl, h1, r1⟩ := trodAll_cons r0
  obtain ⟨v2, vs2, d2, ds2, p2, q2, rfl, rfl, rfl, h2, r2⟩ := trodAll_cons r1
  obtain ⟨rfl, rfl, rfl⟩ := trodAll_nil r2
  obtain rfl : args = #[v0, v1, v2] := by cases args; simp_all
  obtain ⟨rfl, rfl⟩ := trodVars_none hV
  have hlt : ∀ x ∈ p0 ++ (p1 ++ (p2)), x.block < W.heap.size := fun x hx => hW'.lt x (by simpa using hx)
  obtain ⟨z0, rfl, rfl, rfl, w0⟩ := open_int Try.underlying22 (hval 0 22 v0 rfl rfl) h0
  obtain ⟨x0, rfl, hx0⟩ := u64_bounds w0
  obtain ⟨z1, rfl, rfl, rfl, w1⟩ := open_int Try.underlying22 (hval 1 22 v1 rfl rfl) h1
  obtain ⟨x1, rfl, hx1⟩ := u64_bounds w1
  obtain ⟨z2, rfl, rfl, rfl, w2⟩ := open_int Try.underlying22 (hval 2 22 v2 rfl rfl) h2
  obtain ⟨x2, rfl, hx2⟩ := u64_bounds w2
  refine (walk x0 x1 x2 W hx0 hx1 hx2).mono fun e W' ⟨he, hg⟩ => ?_
  subst he
  exact ⟨_, rfl, law_post hW' rfl (by kernel_rfl) rfl (by kernel_rfl) hg⟩

theorem proved : Rows.WeightGroupsSaid :=
  OpenClaim.holds_of_wide 7 Try.f7 rfl rfl rfl rfl rfl rfl rfl ⟨rfl, rfl, rfl, rfl, rfl⟩ rfl rfl rfl rfl rfl (by kernel_rfl) Try.func7 (by kernel_rfl)
    (of_decide_eq_true (by kernel_rfl)) (by unfold Func.isWrapper; first | (rw [if_pos (by decide +kernel)]; kernel_rfl) | (rw [if_neg (by decide +kernel)]; exact ⟨rfl, rfl⟩))
    (fun os started H enc _ => lifted os started H enc)

end Go.Proofs.Ytbmcdgpldghddaa.weightGroups
