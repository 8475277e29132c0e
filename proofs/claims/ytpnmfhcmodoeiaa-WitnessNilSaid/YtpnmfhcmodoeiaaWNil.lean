/- WitnessNil: for any net and any question the call returns true: functions that are nil are refused. No condition. -/
import Derived.Test.YtpnmfhcmodoeiaaW4
import Derived.Test.YtpnmfhcmodoeiaaNp
namespace Go.Proofs.Ytpnmfhcmodoeiaa.witnessNil
open Go.ChangeShapes Go.WideShapes Go.ChangeAt Go.RowKit Go.Deep
set_option maxRecDepth 100000 in
theorem out_none (w : World) : (binOp .eql 39 .nilFunc .nilFunc).run Try.prog w = .ok (.bool true) w := by rfl
set_option maxRecDepth 100000 in
theorem avoid_none (w : World) : (binOp .eql 40 .nilFunc .nilFunc).run Try.prog w = .ok (.bool true) w := by rfl
theorem find_one (v : Value) (a b c : Nat) (w : World) : Calls Try.prog 13 #[.nilFunc, v, .int .u32 (a : Int), .int .u32 (b : Int), .int .u64 (c : Int)] w fun e w' => e = .returned (.tuple #[.bool false, .int .i64 2]) ∧ w = w' := by
  have h1 := out_none
  go_enter Try.func13, Try.ntmps13
  go_wp2_with fail
  go_ret2
  exact ⟨rfl, rfl⟩
theorem find_two (f : FuncId) (p q : Array Value) (a b c : Nat) (w : World) : Calls Try.prog 13 #[.func (.func f) p q, .nilFunc, .int .u32 (a : Int), .int .u32 (b : Int), .int .u64 (c : Int)] w fun e w' => e = .returned (.tuple #[.bool false, .int .i64 2]) ∧ w = w' := by
  have h1 := out_nil
  have h2 := avoid_none
  go_enter Try.func13, Try.ntmps13
  go_wp2_with fail
  go_ret2
  exact ⟨rfl, rfl⟩
set_option maxRecDepth 100000 in
theorem walk (A B C : Option Addr) (n c m d k e : Nat) (a b t : Nat) (w : World) (_ : NetIn w A B C n m k) (_ : a < 4294967296) (_ : b < 4294967296) (_ : t < 18446744073709551616) :
    Calls Try.prog 7 #[.agg #[.slice A n c, .slice B m d, .slice C k e], .agg #[.int .u32 (a : Int), .int .u32 (b : Int), .int .u64 (t : Int)]] w (LawOk w) := by
  have HW := Lib.hid works_any
  go_enter Try.func7, Try.ntmps7
  go_wp2_with fail
  refine (find_one _ a b t _).mono ?_
  rintro e1 w1 ⟨rfl, hw1⟩
  obtain ⟨W1, hW1⟩ : ∃ W1, w1 = W1 := ⟨_, rfl⟩
  have hb1 : Below w.heap.size w w1 := by rw [← hw1]; exact ((Below.refl _ _).alloc (Nat.le_refl _) _).alloc (by simp) _
  have HB1 := Lib.hid hb1
  subst hw1
  clear hW1 hb1
  go_wp2_with fail
  refine (find_two _ _ _ a b t _).mono ?_
  rintro e1 w1 ⟨rfl, rfl⟩
  go_wp2_with (go_at_call 12; with_reducible refine (HW.out _).mono ?_; rintro e w2 ⟨rfl, hb2⟩)
  go_ret
  exact ⟨rfl, HB1.out.trans (hb2.mono HB1.out.size)⟩

set_option maxRecDepth 100000 in
theorem lifted (os : Os) (started : os.Started) (H : Type) (enc : TypeId × Value → H) :
    ReturnsInHanded {} Try.checked os 7 .any (Rows.witnessNilSpec.pre6 enc Try.prog Try.f7 Rows.witnessNilRow.domain false) (Rows.witnessNilSpec.post enc Try.prog Try.f7 false true false false) := by
  refine returnsInHanded_of_change (C := Try.checked) own_knob started (by kernel_rfl) Try.func7
    (ChangeSpec.witness6 (enc := enc) (C := Try.checked) false ⟨#[], #[.agg #[.slice none 0 0,.slice none 0 0,.slice none 0 0], .agg #[.int .u32 0,.int .u32 0,.int .u64 0]], []⟩ 8 (by kernel_rfl) (by kernel_rfl) (by kernel_rfl) (by kernel_rfl)) ?_
  intro W base args ds gs before hval0 hW _ _
  have hval : ∀ (j : Nat) t v, Try.f7.params[j]? = some t → args[j]? = some v → Value.okWide Try.prog W .any base t v := hval0
  have hW' := hW
  obtain ⟨p, q, hA0, hV, rfl, _, _⟩ := hW
  have hA : DataW.TrodAll enc Try.prog W 0 (fun _ => true) true Try.f7.params.toList args.toList ds p := hA0
  rw [Try.params7] at hA hval
  obtain ⟨v0, vs0, d0, ds0, p0, q0, hargs, rfl, rfl, h0, r0⟩ := trodAll_cons hA
  obtain ⟨v1, vs1, d1, ds1, p1, q1, rfl, rfl, rfl, h1, r1⟩ := trodAll_cons r0
  obtain ⟨rfl, rfl, rfl⟩ := trodAll_nil r1
  obtain rfl : args = #[v0, v1] := by cases args; simp_all
  obtain ⟨rfl, rfl⟩ := trodVars_none hV
  have hlt : ∀ x ∈ p0 ++ (p1), x.block < W.heap.size := fun x hx => hW'.lt x (by simpa using hx)
  obtain ⟨A0, B0, C0, n0, c0, m0, d0, k0, e0, rfl, hn0⟩ := open_net (hval 0 25 v0 rfl rfl) h0 (fun x hx => hlt x (by simp [hx]))
  obtain ⟨src1, to1, most1, rfl, hs1, ht1, hm1⟩ := open_ask (hval 1 29 v1 rfl rfl) h1 (fun x hx => hlt x (by simp [hx]))
  refine (walk A0 B0 C0 n0 c0 m0 d0 k0 e0 src1 to1 most1 W hn0 hs1 ht1 hm1).mono fun e W' ⟨he, hg⟩ => ?_
  subst he
  exact ⟨_, rfl, law_post hW' rfl (by kernel_rfl) rfl (by kernel_rfl) hg⟩

theorem proved : Rows.WitnessNilSaid :=
  OpenClaim.holds_of_wide 7 Try.f7 rfl rfl rfl rfl rfl rfl rfl ⟨rfl, rfl, rfl, rfl, rfl⟩ rfl rfl rfl rfl rfl (by kernel_rfl) Try.func7 (by kernel_rfl)
    (of_decide_eq_true (by kernel_rfl)) (by unfold Func.isWrapper; first | (rw [if_pos (by decide +kernel)]; kernel_rfl) | (rw [if_neg (by decide +kernel)]; exact ⟨rfl, rfl⟩))
    (fun os started H enc _ => lifted os started H enc)

end Go.Proofs.Ytpnmfhcmodoeiaa.witnessNil
