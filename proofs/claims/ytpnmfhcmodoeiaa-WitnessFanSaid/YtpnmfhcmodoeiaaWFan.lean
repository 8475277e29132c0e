/- WitnessFan: for any two numbers the call returns true: of very many vertices that are come to at once, the nearest ones last, a way over a near one is found. No condition. -/
import Derived.Test.YtpnmfhcmodoeiaaFp
import Derived.Test.YtpnmfhcmodoeiaaW4
import Derived.Test.YtpnmfhcmodoeiaaNp
namespace Go.Proofs.Ytpnmfhcmodoeiaa.witnessFan
open Go.ChangeShapes Go.WideShapes Go.ChangeAt Go.RowKit Go.Deep
set_option maxRecDepth 100000 in
theorem walk (many most : Nat) (w : World) (hv : many < 4294967296) (_ : most < 18446744073709551616) : Calls Try.prog 6 #[.int .u32 (many : Int), .int .u64 (most : Int)] w (LawOk w) := by
  have HW := Lib.hid works_any
  by_cases h1 : many < 20
  · have g1 : (many : Int) < 20 := by omega
    have g1' : decide (many < 20) = true := decide_eq_true h1
    go_enter Try.func6, Try.ntmps6
    go_wp2_with (go_at_call 12; with_reducible refine (HW.out _).mono ?_; rintro e w9 ⟨rfl, hb9⟩)
    go_ret
    exact ⟨rfl, hb9⟩
  · have g1 : ¬ (many : Int) < 20 := by omega
    have g1' : decide (many < 20) = false := decide_eq_false h1
    by_cases h2 : 70000 < many
    · have g2 : (70000 : Int) < (many : Int) := by omega
      have g2' : decide (70000 < many) = true := decide_eq_true h2
      go_enter Try.func6, Try.ntmps6
      go_wp2_with (go_at_call 12; with_reducible refine (HW.out _).mono ?_; rintro e w9 ⟨rfl, hb9⟩)
      go_ret
      exact ⟨rfl, hb9⟩
    · have g2 : ¬ (70000 : Int) < (many : Int) := by omega
      have g2' : decide (70000 < many) = false := decide_eq_false h2
      obtain ⟨last, hlast⟩ : ∃ last, last = many + 5 := ⟨_, rfl⟩
      have w1 : IntKind.u32.wrap ((many : Int) + 5) = (last : Int) := by rw [IntKind.wrap_u32]; omega
      obtain ⟨W1, hW1⟩ : ∃ W1, w.alloc (.cells #[.int .u32 (many : Int), .int .u32 (last : Int)] 51) = W1 := ⟨_, rfl⟩
      have hI : FanAt w.heap.size many last W1 := by rw [← hW1]; exact heap_alloc_new _ _
      have hb : Below w.heap.size w W1 := by rw [← hW1]; exact (Below.refl _ _).alloc (Nat.le_refl _) _
      have hf := find_fan w.heap.size many most (by omega) (by omega) W1 (by rw [← hlast]; exact hI)
      rw [← hlast] at hf
      have HF := Lib.hid hf
      have HW1 := Lib.hid hW1
      have HB := Lib.hid hb
      clear hW1 hI hb hf hlast h1 h2
      go_enter Try.func6, Try.ntmps6
      go_wp2_with fail
      rw [HW1.out]
      refine HF.out.mono ?_
      rintro e w2 ⟨b, rfl, hb2, hbl⟩
      have HB2 := Lib.hid (HB.out.trans (hbl.mono HB.out.size))
      clear hbl HF HB
      by_cases hm : 14 ≤ most
      · have hbt := hb2.2 hm
        subst hbt
        have g3 : (14 : Int) ≤ (most : Int) := by omega
        have g3' : decide (14 ≤ most) = true := decide_eq_true hm
        clear hb2
        go_wp2_with (go_at_call 12; with_reducible refine (HW.out _).mono ?_; rintro e w9 ⟨rfl, hb9⟩)
        go_ret
        exact ⟨rfl, HB2.out.trans (hb9.mono HB2.out.size)⟩
      · have hbf : b = false := by
          cases b with
          | false => rfl
          | true => exact absurd (hb2.1 rfl) hm
        subst hbf
        have g3 : ¬ (14 : Int) ≤ (most : Int) := by omega
        have g3' : decide (14 ≤ most) = false := decide_eq_false hm
        have g4 : decide ((14 : Int) ≤ (most : Int)) = false := decide_eq_false g3
        clear hb2 g3
        go_wp2_with (go_at_call 12; with_reducible refine (HW.out _).mono ?_; rintro e w9 ⟨rfl, hb9⟩)
        go_ret
        exact ⟨by first | rfl | (rw [g4]; rfl), HB2.out.trans (hb9.mono HB2.out.size)⟩

set_option maxRecDepth 100000 in
theorem lifted (os : Os) (started : os.Started) (H : Type) (enc : TypeId × Value → H) :
    ReturnsInHanded {} Try.checked os 6 .any (Rows.witnessFanSpec.pre6 enc Try.prog Try.f6 Rows.witnessFanRow.domain false) (Rows.witnessFanSpec.post enc Try.prog Try.f6 false true false false) := by
  refine returnsInHanded_of_change (C := Try.checked) own_knob started (by kernel_rfl) Try.func6
    (ChangeSpec.witness6 (enc := enc) (C := Try.checked) false ⟨#[], #[.int .u32 0, .int .u64 0], []⟩ 8 (by kernel_rfl) (by kernel_rfl) (by kernel_rfl) (by kernel_rfl)) ?_
  intro W base args ds gs before hval0 hW _ _
  have hval : ∀ (j : Nat) t v, Try.f6.params[j]? = some t → args[j]? = some v → Value.okWide Try.prog W .any base t v := hval0
  have hW' := hW
  obtain ⟨p, q, hA0, hV, rfl, _, _⟩ := hW
  have hA : DataW.TrodAll enc Try.prog W 0 (fun _ => true) true Try.f6.params.toList args.toList ds p := hA0
  rw [Try.params6] at hA hval
  obtain ⟨v0, vs0, d0, ds0, p0, q0, hargs, rfl, rfl, h0, r0⟩ := trodAll_cons hA
  obtain ⟨v1, vs1, d1, ds1, p1, q1, rfl, rfl, rfl, h1, r1⟩ := trodAll_cons r0
  obtain ⟨rfl, rfl, rfl⟩ := trodAll_nil r1
  obtain rfl : args = #[v0, v1] := by cases args; simp_all
  obtain ⟨rfl, rfl⟩ := trodVars_none hV
  have hlt : ∀ x ∈ p0 ++ (p1), x.block < W.heap.size := fun x hx => hW'.lt x (by simpa using hx)
  obtain ⟨z0, rfl, rfl, rfl, w0⟩ := open_int Try.underlying26 (hval 0 26 v0 rfl rfl) h0
  obtain ⟨x0, rfl, hx0⟩ := u32_bounds w0
  obtain ⟨z1, rfl, rfl, rfl, w1⟩ := open_int Try.underlying27 (hval 1 27 v1 rfl rfl) h1
  obtain ⟨x1, rfl, hx1⟩ := u64_bounds w1
  refine (walk x0 x1 W hx0 hx1).mono fun e W' ⟨he, hg⟩ => ?_
  subst he
  exact ⟨_, rfl, law_post hW' rfl (by kernel_rfl) rfl (by kernel_rfl) hg⟩

theorem proved : Rows.WitnessFanSaid :=
  OpenClaim.holds_of_wide 6 Try.f6 rfl rfl rfl rfl rfl rfl rfl ⟨rfl, rfl, rfl, rfl, rfl⟩ rfl rfl rfl rfl rfl (by kernel_rfl) Try.func6 (by kernel_rfl)
    (of_decide_eq_true (by kernel_rfl)) (by unfold Func.isWrapper; first | (rw [if_pos (by decide +kernel)]; kernel_rfl) | (rw [if_neg (by decide +kernel)]; exact ⟨rfl, rfl⟩))
    (fun os started H enc _ => lifted os started H enc)

end Go.Proofs.Ytpnmfhcmodoeiaa.witnessFan
