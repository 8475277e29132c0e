/- UnpackDeep: for any vertex, any number and either side the call returns true: shortcuts that lie in one another are opened. No condition. -/
import Derived.Test.YtongpcfjfolfbaaWk
import Derived.Test.YtongpcfjfolfbaaEp
import Derived.Test.YtongpcfjfolfbaaRv
namespace Go.Proofs.Ytongpcfjfolfbaa.unpackDeep
open Go.ChangeShapes Go.WideShapes Go.ChangeAt Go.RowKit Go.Deep

theorem far (a : Nat) (z : Int) (left : Bool) (w : World) (h : z < 1 ∨ 400 < z ∨ 2147483648 < a) : Calls Try.prog 6 #[.int .u32 (a : Int), .int .i64 z, .bool left] w (LawOk w) := by
  have HW := Lib.hid works_any
  by_cases h1 : z < 1
  · go_enter Try.func6, Try.ntmps6
    go_wp2_with (go_at_call 12; refine (HW.out _).mono ?_; rintro e w1 ⟨rfl, hb1⟩)
    go_ret
    exact ⟨rfl, hb1⟩
  · by_cases h2 : 400 < z
    · go_enter Try.func6, Try.ntmps6
      go_wp2_with (go_at_call 12; refine (HW.out _).mono ?_; rintro e w1 ⟨rfl, hb1⟩)
      go_ret
      exact ⟨rfl, hb1⟩
    · have h3 : (2147483648 : Int) < (a : Int) := by omega
      clear h
      go_enter Try.func6, Try.ntmps6
      go_wp2_with (go_at_call 12; refine (HW.out _).mono ?_; rintro e w1 ⟨rfl, hb1⟩)
      go_ret
      exact ⟨rfl, hb1⟩
set_option maxHeartbeats 1000000 in
theorem near (a k : Nat) (left : Bool) (w : World) (h1 : 1 ≤ k) (h2 : k ≤ 400) (h3 : a ≤ 2147483648) : Calls Try.prog 6 #[.int .u32 (a : Int), .int .i64 (k : Int), .bool left] w (LawOk w) := by
  have hmf : ∀ (fn : Fn) (first cap : Array Value) (w : World), (Instr.makeFunc fn first cap).run Try.prog w = .ok (.func fn first cap) w := fun _ _ _ _ => rfl
  have HW := Lib.hid works_any
  have hbw : Below w.heap.size w (w.alloc (.cells #[.bool left, .bool false] 46)) := (Below.refl _ _).alloc (Nat.le_refl _) _
  have hrow : RowAt w.heap.size left false (w.alloc (.cells #[.bool left, .bool false] 46)) := ⟨cell_new w _ _ 0, cell_new w _ _ 1⟩
  have hway := way_row w.heap.size left a (a + k) (by omega) (by omega) _ (by simp) hrow
  have ho : openV (rowG left false) 65536 [] a (a + k) = .good k (rowL a k) := by
    obtain ⟨n, rfl⟩ : ∃ n, k = n + 1 := ⟨k - 1, by omega⟩
    exact row_open left n 65536 a (by omega) (by omega) (by omega)
  rw [ho] at hway
  have ek : ((a + k : Nat) : Int) = (a : Int) + (k : Int) := rfl
  rw [ek] at hway
  have HWay := Lib.hid hway
  have HB := Lib.hid hbw
  have HLn := Lib.hid (rowL_length a k)
  have g1 : ¬ (k : Int) < 1 := by omega
  have g2 : ¬ (400 : Int) < (k : Int) := by omega
  have g3 : ¬ (2147483648 : Int) < (a : Int) := by omega
  have g4 : (a : Int) + (k : Int) < 4294967296 := by omega
  clear hbw hrow hway ho ek
  go_enter Try.func6, Try.ntmps6
  go_wp2_with fail
  refine HWay.out.mono ?_
  unfold WayTold
  dsimp only [wayV]
  rintro e w1 ⟨A1, c1, rfl, hl1, hb1⟩
  rw [HLn.out]
  have HL1 := Lib.hid hl1
  have HB1 := Lib.hid (HB.out.trans (hb1.mono HB.out.size))
  clear hl1 hb1
  go_wp2_with fail
  refine (along_any _ A1 a k c1 w1 HL1.out (by omega)).mono ?_
  rintro e w2 ⟨rfl, rfl⟩
  go_wp2_with fail
  refine (HW.out _).mono ?_
  rintro e w3 ⟨rfl, hb3⟩
  have HB3 := Lib.hid hb3
  clear hb3
  go_wp2_with fail
  go_ret
  exact ⟨rfl, HB1.out.trans (HB3.out.mono HB1.out.size)⟩
theorem walk (a : Nat) (z : Int) (left : Bool) (w : World) (_ha : a < 4294967296) (_hz : -9223372036854775808 ≤ z ∧ z ≤ 9223372036854775807) : Calls Try.prog 6 #[.int .u32 (a : Int), .int .i64 z, .bool left] w (LawOk w) := by
  by_cases h : z < 1 ∨ 400 < z ∨ 2147483648 < a
  · exact far a z left w h
  · obtain ⟨k, rfl⟩ : ∃ k : Nat, z = k := ⟨z.toNat, by omega⟩
    exact near a k left w (by omega) (by omega) (by omega)

set_option maxRecDepth 100000 in
theorem lifted (os : Os) (started : os.Started) (H : Type) (enc : TypeId × Value → H) :
    ReturnsInHanded {} Try.checked os 6 .any (Rows.unpackDeepSpec.pre6 enc Try.prog Try.f6 Rows.unpackDeepRow.domain false) (Rows.unpackDeepSpec.post enc Try.prog Try.f6 false true false false) := by
  refine returnsInHanded_of_change (C := Try.checked) own_knob started (by kernel_rfl) Try.func6
    (ChangeSpec.witness6 (enc := enc) (C := Try.checked) false ⟨#[], #[.int .u32 0, .int .i64 0, .bool false], []⟩ 8 (by kernel_rfl) (by kernel_rfl) (by kernel_rfl) (by kernel_rfl)) ?_
  intro W base args ds gs before hval0 hW _ _
  have hval : ∀ (j : Nat) t v, Try.f6.params[j]? = some t → args[j]? = some v → Value.okWide Try.prog W .any base t v := hval0
  have hW' := hW
  obtain ⟨p, q, hA0, hV, rfl, _, _⟩ := hW
  have hA : DataW.TrodAll enc Try.prog W 0 (fun _ => true) true Try.f6.params.toList args.toList ds p := hA0
  rw [Try.params6] at hA hval
  obtain ⟨v0, vs0, d0, ds0, p0, q0, hargs, rfl, rfl, h0, r0⟩ := trodAll_cons hA
  obtain ⟨v1, vs1, d1, ds1, p1, q1, rfl, rfl, rfl, h1, r1⟩ := trodAll_cons r0
  obtain ⟨v2, vs2, d2, ds2, p2, q2, rfl, rfl, rfl, h2, r2⟩ := trodAll_cons r1
  obtain ⟨rfl, rfl, rfl⟩ := trodAll_nil r2
  obtain rfl : args = #[v0, v1, v2] := by cases args; simp_all
  obtain ⟨rfl, rfl⟩ := trodVars_none hV
  have hlt : ∀ x ∈ p0 ++ (p1 ++ (p2)), x.block < W.heap.size := fun x hx => hW'.lt x (by simpa using hx)
  obtain ⟨z0, rfl, rfl, rfl, w0⟩ := open_int Try.underlying25 (hval 0 25 v0 rfl rfl) h0
  obtain ⟨x0, rfl, hx0⟩ := u32_bounds w0
  obtain ⟨z1, rfl, rfl, rfl, w1⟩ := open_int Try.underlying3 (hval 1 3 v1 rfl rfl) h1
  have hz1 := bounds_i64 w1
  obtain ⟨x2, rfl, rfl, rfl⟩ := open_bool Try.underlying4 (hval 2 4 v2 rfl rfl) h2
  refine (walk x0 z1 x2 W hx0 hz1).mono fun e W' ⟨he, hg⟩ => ?_
  subst he
  exact ⟨_, rfl, law_post hW' rfl (by kernel_rfl) rfl (by kernel_rfl) hg⟩

theorem proved : Rows.UnpackDeepSaid :=
  OpenClaim.holds_of_wide 6 Try.f6 rfl rfl rfl rfl rfl rfl rfl ⟨rfl, rfl, rfl, rfl, rfl⟩ rfl rfl rfl rfl rfl (by kernel_rfl) Try.func6 (by kernel_rfl)
    (of_decide_eq_true (by kernel_rfl)) (by unfold Func.isWrapper; first | (rw [if_pos (by decide +kernel)]; kernel_rfl) | (rw [if_neg (by decide +kernel)]; exact ⟨rfl, rfl⟩))
    (fun os started H enc _ => lifted os started H enc)

end Go.Proofs.Ytongpcfjfolfbaa.unpackDeep
