/- WeightLess: what fits fits fewer times, too, and so does less. No condition. -/
import Derived.Test.YtbmcdgpldghddaaWw
import Derived.Test.YtbmcdgpldghddaaBd
import Derived.Lib.SmallJoins
namespace Go.Proofs.Ytbmcdgpldghddaa.weightLess
open Go.ChangeShapes Go.WideShapes Go.ChangeAt Go.RowKit Go.Deep

theorem fits_less {n m a b : Nat} (h1 : m ≤ n) (h2 : b ≤ a) (h : fitsN n a = true) : fitsN m b = true := by
  have h3 := fitsN_yes h
  have : m * b ≤ n * a := Nat.mul_le_mul h1 h2
  unfold fitsN
  simp
  omega

set_option maxHeartbeats 1000000 in
theorem walk (n m a b : Nat) (w : World) (hn : n < 4294967296 ∧ m < 4294967296 ∧ a < 18446744073709551616 ∧ b < 18446744073709551616) :
    Calls Try.prog 9 #[.agg #[.int .u32 n, .int .u32 m, .int .u64 a, .int .u64 b]] w (LawOk w) := by
  have H1 := Lib.hid fun W => wFits_any n a hn.1 hn.2.2.1 W
  have H2 := Lib.hid fun W => wFits_any m b hn.2.1 hn.2.2.2 W
  have H3 := Lib.hid (show ∀ W, Calls Try.prog 13 #[.int .u32 (0:Int), .int .u64 (a:Int)] W fun e w' => e = .returned (.bool true) ∧ W = w' from fun W => by have := wFits_any 0 a (by omega) hn.2.2.1 W; rwa [show fitsN 0 a = true by simp [fitsN]] at this)
  have H4 := Lib.hid (show ∀ W, Calls Try.prog 13 #[.int .u32 (n:Int), .int .u64 (0:Int)] W fun e w' => e = .returned (.bool true) ∧ W = w' from fun W => by have := wFits_any n 0 hn.1 (by omega) W; rwa [show fitsN n 0 = true by simp [fitsN]] at this)
  have HW := Lib.hid works_any
  have hb : Below w.heap.size w (w.alloc (.cells #[.int .u32 n, .int .u32 m, .int .u64 a, .int .u64 b] 38)) := (Below.refl _ _).alloc (Nat.le_refl _) _
  have HB := Lib.hid hb
  clear hb hn
  by_cases h1 : n < m
  · go_enter Try.func9, Try.ntmps9
    go_wp2_with fail
    refine (HW.out _).mono ?_
    rintro e w9 ⟨rfl, hb9⟩
    go_wp2_with fail
    go_ret
    exact ⟨rfl, HB.out.trans (hb9.mono HB.out.size)⟩
  · by_cases h2 : a < b
    · go_enter Try.func9, Try.ntmps9
      go_wp2_with fail
      refine (HW.out _).mono ?_
      rintro e w9 ⟨rfl, hb9⟩
      go_wp2_with fail
      go_ret
      exact ⟨rfl, HB.out.trans (hb9.mono HB.out.size)⟩
    · have hl := fits_less (n := n) (m := m) (a := a) (b := b) (by omega) (by omega)
      generalize fitsN n a = p at *
      generalize fitsN m b = q at *
      cases p with
      | true =>
        have e := hl rfl
        subst e
        clear hl
        go_enter Try.func9, Try.ntmps9
        go_wp2_with fail
        refine (H1.out _).mono ?_
        rintro e w1 ⟨rfl, rfl⟩
        go_wp2_with fail
        refine (H2.out _).mono ?_
        rintro e w1 ⟨rfl, rfl⟩
        go_wp2_with fail
        refine (H3.out _).mono ?_
        rintro e w1 ⟨rfl, rfl⟩
        go_wp2_with fail
        refine (H4.out _).mono ?_
        rintro e w1 ⟨rfl, rfl⟩
        go_wp2_with fail
        refine (HW.out _).mono ?_
        rintro e w9 ⟨rfl, hb9⟩
        go_wp2_with fail
        go_ret
        exact ⟨rfl, HB.out.trans (hb9.mono HB.out.size)⟩
      | false =>
        clear hl
        go_enter Try.func9, Try.ntmps9
        go_wp2_with fail
        refine (H1.out _).mono ?_
        rintro e w1 ⟨rfl, rfl⟩
        go_wp2_with fail
        refine (H3.out _).mono ?_
        rintro e w1 ⟨rfl, rfl⟩
        go_wp2_with fail
        refine (H4.out _).mono ?_
        rintro e w1 ⟨rfl, rfl⟩
        go_wp2_with fail
        refine (HW.out _).mono ?_
        rintro e w9 ⟨rfl, hb9⟩
        go_wp2_with fail
        go_ret
        exact ⟨rfl, HB.out.trans (hb9.mono HB.out.size)⟩

theorem open_fit {H : Type} {encT : TypeId × Value → H} {W : World} {r : Reach} {b0 : Nat} {v : Value} {d : DataW H} {p : List MemPlace} (hv : Value.okWide Try.prog W r b0 38 v)
    (h : DataW.Trod encT Try.prog W 0 (fun _ => true) true 38 v d p) (_hlt : ∀ x ∈ p, x.block < W.heap.size) :
    ∃ n m a b : Nat, v = .agg #[.int .u32 n, .int .u32 m, .int .u64 a, .int .u64 b] ∧ (n < 4294967296 ∧ m < 4294967296 ∧ a < 18446744073709551616 ∧ b < 18446744073709551616) := by
  obtain ⟨v0, v1, v2, v3, y0, y1, y2, y3, k, rfl, _, rfl, h0, h1, h2, h3⟩ := Joins.open_agg4 Try.underlying38 (by kernel_rfl) (by kernel_rfl) hv h
  obtain ⟨a0, e0, _, w0⟩ := DataW.trod_int Try.underlying23 h0
  obtain ⟨a1, e1, _, w1⟩ := DataW.trod_int Try.underlying23 h1
  obtain ⟨a2, e2, _, w2⟩ := DataW.trod_int Try.underlying22 h2
  obtain ⟨a3, e3, _, w3⟩ := DataW.trod_int Try.underlying22 h3
  obtain ⟨m0, rfl, b0⟩ := u32_bounds w0
  obtain ⟨m1, rfl, b1⟩ := u32_bounds w1
  obtain ⟨m2, rfl, b2⟩ := u64_bounds w2
  obtain ⟨m3, rfl, b3⟩ := u64_bounds w3
  simp at e0 e1 e2 e3
  subst e0 e1 e2 e3
  exact ⟨m0, m1, m2, m3, rfl, b0, b1, b2, b3⟩


set_option maxRecDepth 100000 in
theorem lifted (os : Os) (started : os.Started) (H : Type) (enc : TypeId × Value → H) :
    ReturnsInHanded {} Try.checked os 9 .any (Rows.weightLessSpec.pre6 enc Try.prog Try.f9 Rows.weightLessRow.domain false) (Rows.weightLessSpec.post enc Try.prog Try.f9 false true false false) := by
  refine returnsInHanded_of_change (C := Try.checked) own_knob started (by kernel_rfl) Try.func9
    (ChangeSpec.witness6 (enc := enc) (C := Try.checked) false ⟨#[], #[.agg #[.int .u32 0, .int .u32 0, .int .u64 0, .int .u64 0]], []⟩ 8 (by kernel_rfl) (by kernel_rfl) (by kernel_rfl) (by kernel_rfl)) ?_
  intro W base args ds gs before hval0 hW _ _
  have hval : ∀ (j : Nat) t v, Try.f9.params[j]? = some t → args[j]? = some v → Value.okWide Try.prog W .any base t v := hval0
  have hW' := hW
  obtain ⟨p, q, hA0, hV, rfl, _, _⟩ := hW
  have hA : DataW.TrodAll enc Try.prog W 0 (fun _ => true) true Try.f9.params.toList args.toList ds p := hA0
  rw [Try.params9] at hA hval
  obtain ⟨v0, vs0, d0, ds0, p0, q0, hargs, rfl, rfl, h0, r0⟩ := trodAll_cons hA
  obtain ⟨rfl, rfl, rfl⟩ := trodAll_nil r0
  obtain rfl : args = #[v0] := by cases args; simp_all
  obtain ⟨rfl, rfl⟩ := trodVars_none hV
  have hlt : ∀ x ∈ p0, x.block < W.heap.size := fun x hx => hW'.lt x (by simpa using hx)
  obtain ⟨n0, m0, a0, b0, rfl, hn0⟩ := open_fit (hval 0 38 v0 rfl rfl) h0 (fun x hx => hlt x (by simp [hx]))
  refine (walk n0 m0 a0 b0 W hn0).mono fun e W' ⟨he, hg⟩ => ?_
  subst he
  exact ⟨_, rfl, law_post hW' rfl (by kernel_rfl) rfl (by kernel_rfl) hg⟩

theorem proved : Rows.WeightLessSaid :=
  OpenClaim.holds_of_wide 9 Try.f9 rfl rfl rfl rfl rfl rfl rfl ⟨rfl, rfl, rfl, rfl, rfl⟩ rfl rfl rfl rfl rfl (by kernel_rfl) Try.func9 (by kernel_rfl)
    (of_decide_eq_true (by kernel_rfl)) (by unfold Func.isWrapper; first | (rw [if_pos (by decide +kernel)]; kernel_rfl) | (rw [if_neg (by decide +kernel)]; exact ⟨rfl, rfl⟩))
    (fun os started H enc _ => lifted os started H enc)

end Go.Proofs.Ytbmcdgpldghddaa.weightLess
