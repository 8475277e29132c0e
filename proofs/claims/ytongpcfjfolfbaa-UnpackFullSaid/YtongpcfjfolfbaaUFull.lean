/- UnpackFull: for any vertex and either side the call returns true: a way has up to 65536 edges. No condition. -/
import Derived.Test.YtongpcfjfolfbaaWk
import Derived.Test.YtongpcfjfolfbaaEp
import Derived.Test.YtongpcfjfolfbaaRv
namespace Go.Proofs.Ytongpcfjfolfbaa.unpackFull
open Go.ChangeShapes Go.WideShapes Go.ChangeAt Go.RowKit Go.Deep

theorem far (a : Nat) (left : Bool) (w : World) (h : 2147483648 < a) : Calls Try.prog 7 #[.int .u32 (a : Int), .bool left] w (LawOk w) := by
  have HW := Lib.hid works_any
  have h3 : (2147483648 : Int) < (a : Int) := by omega
  clear h
  go_enter Try.func7, Try.ntmps7
  go_wp2_with (go_at_call 12; refine (HW.out _).mono ?_; rintro e w1 ⟨rfl, hb1⟩)
  go_ret
  exact ⟨rfl, hb1⟩
/-- two rows in boxes of their own -/
theorem two_rows (left : Bool) (w : World) : ∃ W, (w.alloc (.cells #[.bool left, .bool false] 46)).alloc (.cells #[.bool false, .bool true] 46) = W ∧ RowAt w.heap.size left false W ∧ RowAt (w.heap.size + 1) false true W ∧ Below w.heap.size w W ∧ W.heap.size = w.heap.size + 2 := by
  have hb : Below (w.alloc (.cells #[.bool left, .bool false] 46)).heap.size (w.alloc (.cells #[.bool left, .bool false] 46)) ((w.alloc (.cells #[.bool left, .bool false] 46)).alloc (.cells #[.bool false, .bool true] 46)) := (Below.refl _ _).alloc (Nat.le_refl _) _
  have h2 := fun k => cell_new (w.alloc (.cells #[.bool left, .bool false] 46)) #[.bool false, .bool true] 46 k
  rw [World.size_alloc] at h2
  exact ⟨_, rfl, rowAt_below ⟨cell_new w _ _ 0, cell_new w _ _ 1⟩ hb, ⟨h2 0, h2 1⟩, ((Below.refl _ _).alloc (Nat.le_refl _) _).alloc (by simp) _, by simp⟩
set_option maxHeartbeats 1000000 in
theorem near (a : Nat) (left : Bool) (w : World) (h3 : a ≤ 2147483648) : Calls Try.prog 7 #[.int .u32 (a : Int), .bool left] w (LawOk w) := by
  have hmf : ∀ (fn : Fn) (first cap : Array Value) (w : World), (Instr.makeFunc fn first cap).run Try.prog w = .ok (.func fn first cap) w := fun _ _ _ _ => rfl
  have HW := Lib.hid works_any
  have H1 := Lib.hid (fun W hS hr => way_row w.heap.size left a (a + 65536) (by omega) (by omega) W hS hr)
  have H2 := Lib.hid (fun W hS hr => way_row w.heap.size left a (a + 65537) (by omega) (by omega) W hS hr)
  have H3 := Lib.hid (fun W hS hr => way_round (w.heap.size + 1) a (a + 1) (by omega) (by omega) W hS hr)
  rw [row_open left 65535 65536 a (by omega) (by omega) (by omega)] at H1
  rw [row_over left 65536 a (by omega) (by omega)] at H2
  rw [show ((a + 65536 : Nat) : Int) = (a : Int) + 65536 from rfl] at H1
  rw [show ((a + 65537 : Nat) : Int) = (a : Int) + 65536 + 1 by omega] at H2
  rw [show ((a + 1 : Nat) : Int) = (a : Int) + 1 from rfl] at H3
  obtain ⟨W, hW, hr1, hr2, hbw, hsz⟩ := two_rows left w
  have HR1 := Lib.hid hr1
  have HR2 := Lib.hid hr2
  have HB := Lib.hid hbw
  have hz1 : w.heap.size + 1 < W.heap.size := by omega
  have HLn := Lib.hid (rowL_length a 65536)
  have g3 : ¬ (2147483648 : Int) < (a : Int) := by omega
  have g4 : (a : Int) + 65536 + 1 < 4294967296 := by omega
  clear hr1 hr2 hbw hsz
  go_enter Try.func7, Try.ntmps7
  go_wp2_with fail
  clear hW
  refine (H1.out W (by omega) HR1.out).mono ?_
  unfold WayTold
  dsimp only [wayV]
  rintro e w1 ⟨A1, c1, rfl, hl1, hb1⟩
  rw [HLn.out]
  have HL1 := Lib.hid hl1
  have HB1 := Lib.hid (HB.out.trans (hb1.mono HB.out.size))
  have HR3 := Lib.hid (rowAt_below HR1.out hb1)
  have HR4 := Lib.hid (rowAt_below HR2.out hb1)
  have hz2 : w.heap.size + 1 < w1.heap.size := Nat.lt_of_lt_of_le hz1 hb1.size
  clear hl1 hb1
  go_wp2_with fail
  refine (H2.out w1 (by omega) HR3.out).mono ?_
  unfold WayTold
  dsimp only [wayV]
  rintro e w2 ⟨A2, c2, rfl, _, hb2⟩
  have HL2 := Lib.hid (HL1.out.below hb2)
  have HB2 := Lib.hid (HB1.out.trans (hb2.mono HB1.out.size))
  have HR5 := Lib.hid (rowAt_below HR4.out hb2)
  have hz3 : w.heap.size + 1 < w2.heap.size := Nat.lt_of_lt_of_le hz2 hb2.size
  have hb2s := hb2.size
  clear hb2
  go_wp2_with fail
  refine (H3.out w2 (by omega) HR5.out).mono ?_
  rintro e w3 ⟨rfl, hb3⟩
  have HL3 := Lib.hid ((HL2.out.more (show w1.heap.size ≤ w2.heap.size from hb2s)).below hb3)
  have HB3 := Lib.hid (HB2.out.trans (hb3.mono HB2.out.size))
  clear hb3
  go_wp2_with fail
  refine (along_any _ A1 a 65536 c1 w3 HL3.out (by omega)).mono ?_
  rintro e w4 ⟨rfl, rfl⟩
  go_wp2_with fail
  refine (HW.out _).mono ?_
  rintro e w5 ⟨rfl, hb5⟩
  have HB5 := Lib.hid hb5
  clear hb5
  go_wp2_with fail
  go_ret
  exact ⟨rfl, HB3.out.trans (HB5.out.mono HB3.out.size)⟩
theorem walk (a : Nat) (left : Bool) (w : World) (_ha : a < 4294967296) : Calls Try.prog 7 #[.int .u32 (a : Int), .bool left] w (LawOk w) := by
  by_cases h : 2147483648 < a
  · exact far a left w h
  · exact near a left w (by omega)

set_option maxRecDepth 100000 in
theorem lifted (os : Os) (started : os.Started) (H : Type) (enc : TypeId × Value → H) :
    ReturnsInHanded {} Try.checked os 7 .any (Rows.unpackFullSpec.pre6 enc Try.prog Try.f7 Rows.unpackFullRow.domain false) (Rows.unpackFullSpec.post enc Try.prog Try.f7 false true false false) := by
  refine returnsInHanded_of_change (C := Try.checked) own_knob started (by kernel_rfl) Try.func7
    (ChangeSpec.witness6 (enc := enc) (C := Try.checked) false ⟨#[], #[.int .u32 0, .bool false], []⟩ 8 (by kernel_rfl) (by kernel_rfl) (by kernel_rfl) (by kernel_rfl)) ?_
  intro W base args ds gs before hval0 hW _ _
  have hval : ∀ (j : Nat) t v, Try.f7.params[j]? = some t → args[j]? = some v → Value.okWide Try.prog W .any base t v := hval0
  have hW' := hW
  obtain ⟨p, q, hA0, hV, rfl, _, _⟩ := hW
  have hA : DataW.TrodAll enc Try.prog W 0 (fun _ => true) true Try.f7.params.toList args.toList ds p := hA0
  rw [Try.params7] at hA hval
  obtain ⟨v0, vs0, d0, ds0, p0, q0, hargs, rfl, rfl, h0, r0⟩ := trodAll_cons hA
  obtain ⟨v1, vs1, d1, ds1, p1, q1, rfl, rfl, rfl, h1, r1⟩ := trodAll_cons r0
  obtain ⟨rfl, rfl, rfl⟩ := trodAll_nil r1
  obtain rfl : args = #[v0, v1] := by cases args; simp_all
  obtain ⟨rfl, rfl⟩ := trodVars_none hV
  have hlt : ∀ x ∈ p0 ++ (p1), x.block < W.heap.size := fun x hx => hW'.lt x (by simpa using hx)
  obtain ⟨z0, rfl, rfl, rfl, w0⟩ := open_int Try.underlying25 (hval 0 25 v0 rfl rfl) h0
  obtain ⟨x0, rfl, hx0⟩ := u32_bounds w0
  obtain ⟨x1, rfl, rfl, rfl⟩ := open_bool Try.underlying4 (hval 1 4 v1 rfl rfl) h1
  refine (walk x0 x1 W hx0).mono fun e W' ⟨he, hg⟩ => ?_
  subst he
  exact ⟨_, rfl, law_post hW' rfl (by kernel_rfl) rfl (by kernel_rfl) hg⟩

theorem proved : Rows.UnpackFullSaid :=
  OpenClaim.holds_of_wide 7 Try.f7 rfl rfl rfl rfl rfl rfl rfl ⟨rfl, rfl, rfl, rfl, rfl⟩ rfl rfl rfl rfl rfl (by kernel_rfl) Try.func7 (by kernel_rfl)
    (of_decide_eq_true (by kernel_rfl)) (by unfold Func.isWrapper; first | (rw [if_pos (by decide +kernel)]; kernel_rfl) | (rw [if_neg (by decide +kernel)]; exact ⟨rfl, rfl⟩))
    (fun os started H enc _ => lifted os started H enc)

end Go.Proofs.Ytongpcfjfolfbaa.unpackFull
