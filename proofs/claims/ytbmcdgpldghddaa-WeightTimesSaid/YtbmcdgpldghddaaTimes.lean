/- WeightTimes: a weight fits so many times just if so many of it can be added. No condition. -/
import Derived.Test.YtbmcdgpldghddaaWw
import Derived.Test.YtbmcdgpldghddaaBd
namespace Go.Proofs.Ytbmcdgpldghddaa.weightTimes
open Go.ChangeShapes Go.WideShapes Go.ChangeAt Go.RowKit

/-- i times added -/
def Added (a i s : Nat) (k : Bool) : Prop := k = fitsN i a ∧ (k = true → s = i * a) ∧ s < 18446744073709551616
theorem Added.next {a i s : Nat} (h : Added a i s true) : Added a (i + 1) (sumV s a) (fitsB s a) := by
  obtain ⟨h1, h2, h3⟩ := h
  have := h2 rfl
  subst this
  refine ⟨?_, fun hk => ?_, ?_⟩
  · unfold fitsB fitsN
    rw [Nat.succ_mul]
  · rw [sumV_yes hk, Nat.succ_mul]
  · unfold sumV; split <;> omega
theorem Added.more {a i n s : Nat} (h : Added a i s false) (hi : i ≤ n) : fitsN n a = false := by
  have h1 := fitsN_no h.1.symm
  have h2 : i * a ≤ n * a := Nat.mul_le_mul_right a hi
  unfold fitsN
  simp
  omega

theorem walk (n a : Nat) (w : World) (hn : n < 256) (ha : a < 18446744073709551616) :
    Calls Try.prog 8 #[.int .u8 n, .int .u64 a] w (LawOk w) := by
  have HF := Lib.hid fun W => wFits_any n a (by omega) ha W
  have HA := Lib.hid ha
  clear ha
  have e1 : IntKind.i64.wrap (n : Int) = n := IntWalk.i64_in _ (by omega)
  have e2 : IntKind.u32.wrap (n : Int) = n := IntWalk.u32_in _ (by omega)
  go_enter Try.func8, Try.ntmps8
  go_wp2_with fail
  go_loopw [5, 6, 7] (fun vs vk vi wr => ∃ (i s : Nat) (k : Bool), i ≤ n ∧ vs = .int .u64 s ∧ vk = .bool k ∧ vi = .int .i64 i ∧ Hid (Added a i s k) ∧ wr = w) (fun vs vk vi _ => n - (intOf vi).toNat)
  case atStart => exact ⟨0, 0, true, by omega, rfl, rfl, rfl, ⟨by simp [fitsN], fun _ => by simp, by omega⟩, rfl⟩
  case round =>
    obtain ⟨i, s, k, hi, rfl, rfl, rfl, HS, rfl⟩ := hrel
    have hin : ((i : Nat) : Int) ≤ n := by omega
    cases k with
    | false =>
      have hno := HS.out.more hi
      rw [hno] at HF
      clear hno HS
      by_cases hlt : (i : Int) < n
      · go_wp2_with fail
        refine (HF.out _).mono ?_
        rintro e w1 ⟨rfl, rfl⟩
        go_wp2_with fail
        refine (works_any _).mono ?_
        rintro e w1 ⟨rfl, hb⟩
        go_wp2_with fail
        go_ret
        exact ⟨rfl, hb⟩
      · go_wp2_with fail
        refine (HF.out _).mono ?_
        rintro e w1 ⟨rfl, rfl⟩
        go_wp2_with fail
        refine (works_any _).mono ?_
        rintro e w1 ⟨rfl, hb⟩
        go_wp2_with fail
        go_ret
        exact ⟨rfl, hb⟩
    | true =>
      by_cases hlt : (i : Int) < n
      · have HS2 := Lib.hid HS.out.next
        have H1 := Lib.hid fun W => wAdd_any s a HS.out.2.2 HA.out W
        clear HS
        generalize sumV s a = s2 at *
        generalize fitsB s a = k2 at *
        go_wp2_with fail
        refine (H1.out wr).mono ?_
        rintro e w1 ⟨rfl, rfl⟩
        go_wp2_with fail
        go_roundw
        case rel => exact ⟨i + 1, s2, k2, by omega, rfl, rfl, by go_num, HS2, trivial⟩
        case measure => simp [intOf]; omega
      · have he : fitsN n a = true := by
          have := HS.out.1
          have e : i = n := by omega
          rw [e] at this
          exact this.symm
        rw [he] at HF
        clear he HS
        go_wp2_with fail
        refine (HF.out _).mono ?_
        rintro e w1 ⟨rfl, rfl⟩
        go_wp2_with fail
        refine (works_any _).mono ?_
        rintro e w1 ⟨rfl, hb⟩
        go_wp2_with fail
        go_ret
        exact ⟨rfl, hb⟩


set_option maxRecDepth 100000 in
theorem lifted (os : Os) (started : os.Started) (H : Type) (enc : TypeId × Value → H) :
    ReturnsInHanded {} Try.checked os 8 .any (Rows.weightTimesSpec.pre6 enc Try.prog Try.f8 Rows.weightTimesRow.domain false) (Rows.weightTimesSpec.post enc Try.prog Try.f8 false true false false) := by
  refine returnsInHanded_of_change (C := Try.checked) own_knob started (by kernel_rfl) Try.func8
    (ChangeSpec.witness6 (enc := enc) (C := Try.checked) false ⟨#[], #[.int .u8 0, .int .u64 0], []⟩ 8 (by kernel_rfl) (by kernel_rfl) (by kernel_rfl) (by kernel_rfl)) ?_
  intro W base args ds gs before hval0 hW _ _
  have hval : ∀ (j : Nat) t v, Try.f8.params[j]? = some t → args[j]? = some v → Value.okWide Try.prog W .any base t v := hval0
  have hW' := hW
  obtain ⟨p, q, hA0, hV, rfl, _, _⟩ := hW
  have hA : DataW.TrodAll enc Try.prog W 0 (fun _ => true) true Try.f8.params.toList args.toList ds p := hA0
  rw [Try.params8] at hA hval
  obtain ⟨v0, vs0, d0, ds0, p0, q0, hargs, rfl, rfl, h0, r0⟩ := trodAll_cons hA
  obtain ⟨v1, vs1, d1, ds1, p1, q1, rfl, rfl, rfl, h1, r1⟩ := trodAll_cons r0
  obtain ⟨rfl, rfl, rfl⟩ := trodAll_nil r1
  obtain rfl : args = #[v0, v1] := by cases args; simp_all
  obtain ⟨rfl, rfl⟩ := trodVars_none hV
  have hlt : ∀ x ∈ p0 ++ (p1), x.block < W.heap.size := fun x hx => hW'.lt x (by simpa using hx)
  obtain ⟨z0, rfl, rfl, rfl, w0⟩ := open_int Try.underlying5 (hval 0 5 v0 rfl rfl) h0
  obtain ⟨x0, rfl, hx0⟩ := u8_bounds w0
  obtain ⟨z1, rfl, rfl, rfl, w1⟩ := open_int Try.underlying22 (hval 1 22 v1 rfl rfl) h1
  obtain ⟨x1, rfl, hx1⟩ := u64_bounds w1
  refine (walk x0 x1 W hx0 hx1).mono fun e W' ⟨he, hg⟩ => ?_
  subst he
  exact ⟨_, rfl, law_post hW' rfl (by kernel_rfl) rfl (by kernel_rfl) hg⟩

theorem proved : Rows.WeightTimesSaid :=
  OpenClaim.holds_of_wide 8 Try.f8 rfl rfl rfl rfl rfl rfl rfl ⟨rfl, rfl, rfl, rfl, rfl⟩ rfl rfl rfl rfl rfl (by kernel_rfl) Try.func8 (by kernel_rfl)
    (of_decide_eq_true (by kernel_rfl)) (by unfold Func.isWrapper; first | (rw [if_pos (by decide +kernel)]; kernel_rfl) | (rw [if_neg (by decide +kernel)]; exact ⟨rfl, rfl⟩))
    (fun os started H enc _ => lifted os started H enc)

end Go.Proofs.Ytbmcdgpldghddaa.weightTimes
