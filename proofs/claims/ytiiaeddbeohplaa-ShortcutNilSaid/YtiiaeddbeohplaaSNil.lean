/- ShortcutNil: for any net and any vertex the call returns true: functions that are nil are refused. No condition. -/
import Derived.Test.YtiiaeddbeohplaaW7
import Derived.Test.YtiiaeddbeohplaaNo
namespace Go.Proofs.Ytiiaeddbeohplaa.shortcutNil
open Go.ChangeShapes Go.WideShapes Go.ChangeAt Go.RowKit Go.Deep
set_option maxRecDepth 100000 in
theorem out_none (w : World) : (binOp .eql 32 .nilFunc .nilFunc).run Try.prog w = .ok (.bool true) w := by rfl
set_option maxRecDepth 100000 in
theorem avoid_none (w : World) : (binOp .eql 33 .nilFunc .nilFunc).run Try.prog w = .ok (.bool true) w := by rfl
set_option maxRecDepth 100000 in
theorem make_one (f g : FuncId) (p q r s : Array Value) (v : Nat) (w : World) : Calls Try.prog 12 #[.nilFunc, .func (.func f) p q, .func (.func g) r s, .int .u32 (v : Int)] w fun e w' => e = .returned (.tuple #[.slice none 0 0, .int .i64 2]) ∧ Below w.heap.size w w' := by
  have h1 := out_none
  go_enter Try.func12, Try.ntmps12
  go_wp2_with fail
  go_ret2
  exact ⟨rfl, ((Below.refl _ _).alloc (Nat.le_refl _) _).alloc (by simp) _⟩
set_option maxRecDepth 100000 in
theorem make_two (f g : FuncId) (p q r s : Array Value) (v : Nat) (w : World) : Calls Try.prog 12 #[.func (.func f) p q, .nilFunc, .func (.func g) r s, .int .u32 (v : Int)] w fun e w' => e = .returned (.tuple #[.slice none 0 0, .int .i64 2]) ∧ Below w.heap.size w w' := by
  have h1 := out_none
  have h2 := out_nil
  go_enter Try.func12, Try.ntmps12
  go_wp2_with fail
  go_ret2
  exact ⟨rfl, ((Below.refl _ _).alloc (Nat.le_refl _) _).alloc (by simp) _⟩
set_option maxRecDepth 100000 in
theorem make_three (f g : FuncId) (p q r s : Array Value) (v : Nat) (w : World) : Calls Try.prog 12 #[.func (.func f) p q, .func (.func g) r s, .nilFunc, .int .u32 (v : Int)] w fun e w' => e = .returned (.tuple #[.slice none 0 0, .int .i64 2]) ∧ Below w.heap.size w w' := by
  have h1 := avoid_none
  have h2 := out_nil
  go_enter Try.func12, Try.ntmps12
  go_wp2_with fail
  go_ret2
  exact ⟨rfl, ((Below.refl _ _).alloc (Nat.le_refl _) _).alloc (by simp) _⟩
set_option maxRecDepth 100000 in
theorem count_one (f : FuncId) (p q : Array Value) (v : Nat) (w : World) : Calls Try.prog 17 #[.nilFunc, .func (.func f) p q, .int .u32 (v : Int)] w fun e w' => e = .returned (.tuple #[.int .i64 0, .int .i64 0, .int .i64 0, .int .i64 2]) ∧ Below w.heap.size w w' := by
  go_enter Try.func17, Try.ntmps17
  go_wp2_with fail
  refine (make_one _ _ _ _ _ _ v w).mono ?_
  rintro e w1 ⟨rfl, hb⟩
  have HB := Lib.hid hb
  clear hb
  go_wp2_with fail
  (try simp only [Exit.inBlock, Exit.then]); refine bodyPost_ret (results_tmp4 rfl _ _ _) rfl ?_
  exact ⟨rfl, HB.out⟩
set_option maxRecDepth 100000 in
theorem count_two (f : FuncId) (p q : Array Value) (v : Nat) (w : World) : Calls Try.prog 17 #[.func (.func f) p q, .nilFunc, .int .u32 (v : Int)] w fun e w' => e = .returned (.tuple #[.int .i64 0, .int .i64 0, .int .i64 0, .int .i64 2]) ∧ Below w.heap.size w w' := by
  go_enter Try.func17, Try.ntmps17
  go_wp2_with fail
  refine (make_two _ _ _ _ _ _ v w).mono ?_
  rintro e w1 ⟨rfl, hb⟩
  have HB := Lib.hid hb
  clear hb
  go_wp2_with fail
  (try simp only [Exit.inBlock, Exit.then]); refine bodyPost_ret (results_tmp4 rfl _ _ _) rfl ?_
  exact ⟨rfl, HB.out⟩
set_option maxRecDepth 100000 in
theorem walk (A B C : Option Addr) (n c m d k e v : Nat) (w : World) (_ : NetIn w A B C n m k) (_ : v < 4294967296) :
    Calls Try.prog 6 #[.agg #[.slice A n c, .slice B m d, .slice C k e], .int .u32 (v : Int)] w (LawOk w) := by
  have HW := Lib.hid works_any
  obtain ⟨W1, hW1⟩ : ∃ W1, w.alloc (.cells #[.slice A n c, .slice B m d, .slice C k e] 25) = W1 := ⟨_, rfl⟩
  have HB1 : Hid (Below w.heap.size w W1) := Lib.hid (by rw [← hW1]; exact (Below.refl _ _).alloc (Nat.le_refl _) _)
  have HW1 := Lib.hid hW1
  clear hW1
  go_enter Try.func6, Try.ntmps6
  go_wp2_with fail
  rw [HW1.out]
  refine (make_one _ _ _ _ _ _ v _).mono ?_
  rintro e1 w' ⟨rfl, hb⟩
  have HB2 := Lib.hid (HB1.out.trans (hb.mono HB1.out.size))
  clear HB1 hb
  have HB1 := HB2
  clear HB2
  go_wp2_with (go_at_call 11; with_reducible refine (HW.out _).mono ?_; rintro e w9 ⟨rfl, hb9⟩)
  refine (make_two _ _ _ _ _ _ v _).mono ?_
  rintro e1 w' ⟨rfl, hb⟩
  have HB2 := Lib.hid (HB1.out.trans (hb.mono HB1.out.size))
  clear HB1 hb
  have HB1 := HB2
  clear HB2
  go_wp2_with (go_at_call 11; with_reducible refine (HW.out _).mono ?_; rintro e w9 ⟨rfl, hb9⟩)
  refine (make_three _ _ _ _ _ _ v _).mono ?_
  rintro e1 w' ⟨rfl, hb⟩
  have HB2 := Lib.hid (HB1.out.trans (hb.mono HB1.out.size))
  clear HB1 hb
  have HB1 := HB2
  clear HB2
  go_wp2_with (go_at_call 11; with_reducible refine (HW.out _).mono ?_; rintro e w9 ⟨rfl, hb9⟩)
  refine (count_one _ _ _ v _).mono ?_
  rintro e1 w' ⟨rfl, hb⟩
  have HB2 := Lib.hid (HB1.out.trans (hb.mono HB1.out.size))
  clear HB1 hb
  have HB1 := HB2
  clear HB2
  go_wp2_with (go_at_call 11; with_reducible refine (HW.out _).mono ?_; rintro e w9 ⟨rfl, hb9⟩)
  refine (count_two _ _ _ v _).mono ?_
  rintro e1 w' ⟨rfl, hb⟩
  have HB2 := Lib.hid (HB1.out.trans (hb.mono HB1.out.size))
  clear HB1 hb
  have HB1 := HB2
  clear HB2
  go_wp2_with (go_at_call 11; with_reducible refine (HW.out _).mono ?_; rintro e w9 ⟨rfl, hb9⟩)
  go_ret
  exact ⟨rfl, HB1.out.trans (hb9.mono HB1.out.size)⟩

set_option maxRecDepth 100000 in
theorem lifted (os : Os) (started : os.Started) (H : Type) (enc : TypeId × Value → H) :
    ReturnsInHanded {} Try.checked os 6 .any (Rows.shortcutNilSpec.pre6 enc Try.prog Try.f6 Rows.shortcutNilRow.domain false) (Rows.shortcutNilSpec.post enc Try.prog Try.f6 false true false false) := by
  refine returnsInHanded_of_change (C := Try.checked) own_knob started (by kernel_rfl) Try.func6
    (ChangeSpec.witness6 (enc := enc) (C := Try.checked) false ⟨#[], #[.agg #[.slice none 0 0,.slice none 0 0,.slice none 0 0], .int .u32 0], []⟩ 8 (by kernel_rfl) (by kernel_rfl) (by kernel_rfl) (by kernel_rfl)) ?_
  intro W base args ds gs before hval0 hW _ _
  have hval : ∀ (j : Nat) t v, Try.f6.params[j]? = some t → args[j]? = some v → Value.okWide Try.prog W .any base t v := hval0
  have hW' := hW
  obtain ⟨p, q, hA0, hV, rfl, _, _⟩ := hW
  have hA : DataW.TrodAll enc Try.prog W 0 (fun _ => true) true Try.f6.params.toList args.toList ds p := hA0
  rw [Try.params6] at hA hval
  obtain ⟨v0, vs0, d0, ds0, p0, q0, hargs, rfl, rfl, h0, r0⟩ := trodAll_cons hA
  obtain ⟨v1, vs1, d1, ds1, p1, q1, rfl, rfl, rfl, h1, r1⟩ := trodAll_cons r0
  obtain ⟨rfl, rfl, rfl⟩ := trodAll_nil r1
  obtain rfl : args = #[v0, v1] := by cases args; simp_all
  obtain ⟨rfl, rfl⟩ := trodVars_none hV
  have hlt : ∀ x ∈ p0 ++ (p1), x.block < W.heap.size := fun x hx => hW'.lt x (by simpa using hx)
  obtain ⟨A0, B0, C0, n0, c0, m0, d0, k0, e0, rfl, hn0⟩ := open_net (hval 0 25 v0 rfl rfl) h0 (fun x hx => hlt x (by simp [hx]))
  obtain ⟨z1, rfl, rfl, rfl, w1⟩ := open_int Try.underlying26 (hval 1 26 v1 rfl rfl) h1
  obtain ⟨x1, rfl, hx1⟩ := u32_bounds w1
  refine (walk A0 B0 C0 n0 c0 m0 d0 k0 e0 x1 W hn0 hx1).mono fun e W' ⟨he, hg⟩ => ?_
  subst he
  exact ⟨_, rfl, law_post hW' rfl (by kernel_rfl) rfl (by kernel_rfl) hg⟩

theorem proved : Rows.ShortcutNilSaid :=
  OpenClaim.holds_of_wide 6 Try.f6 rfl rfl rfl rfl rfl rfl rfl ⟨rfl, rfl, rfl, rfl, rfl⟩ rfl rfl rfl rfl rfl (by kernel_rfl) Try.func6 (by kernel_rfl)
    (of_decide_eq_true (by kernel_rfl)) (by unfold Func.isWrapper; first | (rw [if_pos (by decide +kernel)]; kernel_rfl) | (rw [if_neg (by decide +kernel)]; exact ⟨rfl, rfl⟩))
    (fun os started H enc _ => lifted os started H enc)

end Go.Proofs.Ytiiaeddbeohplaa.shortcutNil
