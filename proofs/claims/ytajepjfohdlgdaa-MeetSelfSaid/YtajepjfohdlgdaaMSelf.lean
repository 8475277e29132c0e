/- MeetSelf: a right list that has a hub at 0 meets itself there. No condition. -/
import Derived.Test.YtajepjfohdlgdaaMb
import Derived.Test.YtajepjfohdlgdaaMw
import Derived.Test.YtajepjfohdlgdaaMo
namespace Go.Proofs.Ytajepjfohdlgdaa.meetSelf
open Go.ChangeShapes Go.WideShapes Go.ChangeAt Go.RowKit

/-- the plain law -/
theorem meet_self {f : List Lbl} (h : rightB f = true) {j : Nat} (hj : j < f.length) (h0 : (f[j]).dist = 0) (hk : ∀ (k : Nat) (hl : k < f.length), k < j → (f[k]).dist ≠ 0) :
    meetV f f = ⟨0, (f[j]).hub, true⟩ := by
  have hm : f[j] ∈ f := List.getElem_mem hj
  have hp : (f[j], f[j]) ∈ pairsF f f := pairsF_mem.2 ⟨hm, findH_self h hm⟩
  have hfit : fitsB (f[j]).dist (f[j]).dist = true := by rw [h0]; decide
  have B := meet_best h h
  cases hok : (meetV f f).ok with
  | false =>
    have := (B.1 hok).2 _ hp
    rw [hfit] at this; cases this
  | true =>
    obtain ⟨⟨p, hpm, _, h2, h3⟩, h4⟩ := B.2 hok
    obtain ⟨h5, h6⟩ := h4 _ hp hfit
    rw [h0] at h5 h6
    have hd : (meetV f f).dist = 0 := by omega
    have h7 := h6 hd
    dsimp only at h7
    obtain ⟨m1, m2⟩ := pairsF_mem.1 hpm
    have hd1 : p.1.dist = 0 := by omega
    obtain ⟨k, hkl, hke⟩ := List.getElem_of_mem m1
    have hjk : j ≤ k := by
      by_cases hlt : k < j
      · exact absurd (by rw [hke]; exact hd1) (hk k hkl hlt)
      · omega
    have hle : (f[j]).hub ≤ (f[k]).hub := by
      rcases Nat.eq_or_lt_of_le hjk with e | e
      · subst e; exact Nat.le_refl _
      · have := (List.pairwise_iff_getElem.1 (sorted_right h)) j k hj hkl e; omega
    rw [hke] at hle
    have hh : (meetV f f).hub = (f[j]).hub := by omega
    generalize meetV f f = s at *
    obtain ⟨a, b, c⟩ := s
    dsimp only at hok hd hh
    rw [hok, hd, hh]

theorem far1 (A : Option Addr) (n c : Nat) (w : World) (h : 300 < n) (hn : n ≤ 9223372036854775807) :
    Calls Try.prog 8 #[.slice A n c] w (LawOk w) := by
  have h1 : (300 : Int) < (n : Int) := by omega
  have HW := Lib.hid works_any
  go_enter Try.func8, Try.ntmps8
  go_wp2_with (go_at_call 9; refine (HW.out _).mono ?_; rintro e w1 ⟨rfl, hb1⟩)
  go_ret
  exact ⟨rfl, hb1⟩

/-- the first label at 0 among the first i -/
def FirstZ (f : List Lbl) (i : Nat) (z : Int) : Prop :=
  (z = -1 ∧ ∀ (k : Nat) (hl : k < f.length), k < i → (f[k]).dist ≠ 0) ∨
  ∃ j : Nat, z = j ∧ j < i ∧ ∃ hj : j < f.length, (f[j]).dist = 0 ∧ ∀ (k : Nat) (hl : k < f.length), k < j → (f[k]).dist ≠ 0
theorem FirstZ.keep {f : List Lbl} {i j : Nat} (h : FirstZ f i (j : Int)) : FirstZ f (i + 1) (j : Int) := by
  rcases h with ⟨h, _⟩ | ⟨k, h1, h2, h3⟩
  · omega
  · exact .inr ⟨k, h1, by omega, h3⟩
theorem FirstZ.miss {f : List Lbl} {i : Nat} (h : FirstZ f i (-1)) (hi : i < f.length) (hd : (f[i]).dist ≠ 0) : FirstZ f (i + 1) (-1) := by
  rcases h with ⟨_, h⟩ | ⟨k, h1, _⟩
  · refine .inl ⟨rfl, fun k hl hk => ?_⟩
    by_cases e : k = i
    · subst e; exact hd
    · exact h k hl (by omega)
  · omega
theorem FirstZ.hit {f : List Lbl} {i : Nat} (h : FirstZ f i (-1)) (hi : i < f.length) (hd : (f[i]).dist = 0) : FirstZ f (i + 1) (i : Int) := by
  rcases h with ⟨_, h⟩ | ⟨k, h1, _⟩
  · exact .inr ⟨i, rfl, by omega, hi, hd, h⟩
  · omega
theorem FirstZ.cases {f : List Lbl} {i : Nat} {z : Int} (h : FirstZ f i z) : z = -1 ∨ ∃ j : Nat, z = j ∧ j < i := by
  rcases h with ⟨h, _⟩ | ⟨j, h, hj, _⟩
  · exact .inl h
  · exact .inr ⟨j, h, hj⟩

def RightTo (f : List Lbl) (i : Nat) (r : Bool) : Prop := (r = true → RisesTo f i) ∧ (r = false → rightB f = false)

set_option maxHeartbeats 8000000 in
theorem near (A : Option Addr) (f : List Lbl) (c : Nat) (w : World) (hf : SL w.heap.size w A f) (h0 : f.length ≤ 300) :
    Calls Try.prog 8 #[.slice A f.length c] w (LawOk w) := by
  have h1 : ¬ (300 : Int) < (f.length : Int) := by omega
  have HF := Lib.hid hf
  clear hf
  go_enter Try.func8, Try.ntmps8
  go_wp2_with fail
  go_loopw [3, 4, 5] (fun vz vr vi wr => ∃ (i : Nat) (z : Int) (r : Bool), i ≤ f.length ∧ vz = .int .i64 z ∧ vr = .bool r ∧ vi = .int .i64 i ∧ Hid (RightTo f i r) ∧ Hid (FirstZ f i z) ∧ ∃ n, wr = w.drewN n) (fun _ _ vi _ => f.length - (intOf vi).toNat)
  case atStart => exact ⟨0, -1, true, by omega, rfl, rfl, rfl, ⟨fun _ => RisesTo.zero f 0 (by omega), fun h => by cases h⟩, .inl ⟨rfl, fun k _ hk => absurd hk (by omega)⟩, 0, rfl⟩
  case round =>
    obtain ⟨i, z, r, hi, rfl, rfl, rfl, HR, HZ, n, rfl⟩ := hrel
    by_cases hlt : i < f.length
    · obtain ⟨p, o, rfl, _, g1, _, g3⟩ := SL.at' HF.out i hlt
      have e1 : (0:Int) ≤ (i:Int) := by omega
      have e2 : (i:Int) < f.length := by omega
      cases r with
      | false =>
        have HF' := Lib.hid (HR.out.2 rfl)
        go_wp2
        go_quiet (fail)
        -- behind the region of 'right': the label's distance
        rcases HZ.out.cases with rfl | ⟨j, rfl, hj⟩
        · have hz : decide ((-1 : Int) < 0) = true := by decide
          by_cases hd : (f[i]).dist = 0
          · have HZ2 := Lib.hid (HZ.out.hit hlt hd)
            have hd' : (((f[i]).dist : Int) == 0) = true := by simp; omega
            clear hd
            generalize (f[i]).dist = d at *
            go_wp2
            go_roundw
            case rel => exact ⟨i + 1, _, _, by omega, rfl, rfl, by go_num, ⟨(fun h => by cases h), fun _ => HF'.out⟩, HZ2.out, _, rfl⟩
            case measure => simp [intOf]; omega
          · have HZ2 := Lib.hid (HZ.out.miss hlt hd)
            have hd' : (((f[i]).dist : Int) == 0) = false := by simp; omega
            clear hd
            generalize (f[i]).dist = d at *
            go_wp2
            go_roundw
            case rel => exact ⟨i + 1, _, _, by omega, rfl, rfl, by go_num, ⟨(fun h => by cases h), fun _ => HF'.out⟩, HZ2.out, _, rfl⟩
            case measure => simp [intOf]; omega
        · have HZ2 := Lib.hid HZ.out.keep
          have hz : decide ((j : Int) < 0) = false := by simp
          go_wp2
          go_roundw
          case rel => exact ⟨i + 1, _, _, by omega, rfl, rfl, by go_num, ⟨(fun h => by cases h), fun _ => HF'.out⟩, HZ2.out, _, rfl⟩
          case measure => simp [intOf]; omega
      | true =>
        by_cases h0 : i = 0
        · have hd : ((i:Int) == 0) = true := by simp; omega
          have HR2 : Hid (RisesTo f (i + 1)) := RisesTo.zero f _ (by omega)
          clear h0
          go_wp2
          go_quiet (fail)
          -- behind the region of 'right': the label's distance
          rcases HZ.out.cases with rfl | ⟨j, rfl, hj⟩
          · have hz : decide ((-1 : Int) < 0) = true := by decide
            by_cases hd : (f[i]).dist = 0
            · have HZ2 := Lib.hid (HZ.out.hit hlt hd)
              have hd' : (((f[i]).dist : Int) == 0) = true := by simp; omega
              clear hd
              generalize (f[i]).dist = d at *
              go_wp2
              go_roundw
              case rel => exact ⟨i + 1, _, _, by omega, rfl, rfl, by go_num, ⟨fun _ => HR2.out, (fun h => by cases h)⟩, HZ2.out, _, rfl⟩
              case measure => simp [intOf]; omega
            · have HZ2 := Lib.hid (HZ.out.miss hlt hd)
              have hd' : (((f[i]).dist : Int) == 0) = false := by simp; omega
              clear hd
              generalize (f[i]).dist = d at *
              go_wp2
              go_roundw
              case rel => exact ⟨i + 1, _, _, by omega, rfl, rfl, by go_num, ⟨fun _ => HR2.out, (fun h => by cases h)⟩, HZ2.out, _, rfl⟩
              case measure => simp [intOf]; omega
          · have HZ2 := Lib.hid HZ.out.keep
            have hz : decide ((j : Int) < 0) = false := by simp
            go_wp2
            go_roundw
            case rel => exact ⟨i + 1, _, _, by omega, rfl, rfl, by go_num, ⟨fun _ => HR2.out, (fun h => by cases h)⟩, HZ2.out, _, rfl⟩
            case measure => simp [intOf]; omega
        · obtain ⟨p', o', ha', _, g2, _, _⟩ := SL.at' HF.out (i - 1) (by omega)
          obtain ⟨rfl, rfl⟩ : p = p' ∧ o = o' := by simpa using ha'
          clear ha'
          have HN : Hid ((f[i - 1]'(by omega)).hub < (f[i]).hub → RisesTo f (i + 1)) := RisesTo.next (HR.out.1 rfl) hlt (by omega)
          have HX : Hid ((f[i]).hub ≤ (f[i - 1]'(by omega)).hub → rightB f = false) := rightB_not' hlt (by omega)
          have e6 : ((i:Int) == 0) = false := by simp; omega
          have e3 : IntKind.i64.wrap ((i:Int) - 1) = (i:Int) - 1 := IntWalk.i64_in _ (by omega)
          have e4 : (0:Int) ≤ (i:Int) - 1 := by omega
          have e5 : (i:Int) - 1 < f.length := by omega
          have e7 : ((i:Int) - 1).toNat = i - 1 := by omega
          generalize (f[i - 1]'(by omega)).hub = u at *
          generalize (f[i]).hub = v at *
          by_cases hlt2 : u < v
          · have hc : decide ((u:Int) < (v:Int)) = true := by simp; omega
            have HR2 := Lib.hid (HN.out hlt2)
            go_wp2
            go_quiet (fail)
            clear e3 e4 e5 e6 e7
            -- behind the region of 'right': the label's distance
            rcases HZ.out.cases with rfl | ⟨j, rfl, hj⟩
            · have hz : decide ((-1 : Int) < 0) = true := by decide
              by_cases hd : (f[i]).dist = 0
              · have HZ2 := Lib.hid (HZ.out.hit hlt hd)
                have hd' : (((f[i]).dist : Int) == 0) = true := by simp; omega
                clear hd
                generalize (f[i]).dist = d at *
                go_wp2
                go_roundw
                case rel => exact ⟨i + 1, _, _, by omega, rfl, rfl, by go_num, ⟨fun _ => HR2.out, (fun h => by cases h)⟩, HZ2.out, _, rfl⟩
                case measure => simp [intOf]; omega
              · have HZ2 := Lib.hid (HZ.out.miss hlt hd)
                have hd' : (((f[i]).dist : Int) == 0) = false := by simp; omega
                clear hd
                generalize (f[i]).dist = d at *
                go_wp2
                go_roundw
                case rel => exact ⟨i + 1, _, _, by omega, rfl, rfl, by go_num, ⟨fun _ => HR2.out, (fun h => by cases h)⟩, HZ2.out, _, rfl⟩
                case measure => simp [intOf]; omega
            · have HZ2 := Lib.hid HZ.out.keep
              have hz : decide ((j : Int) < 0) = false := by simp
              go_wp2
              go_roundw
              case rel => exact ⟨i + 1, _, _, by omega, rfl, rfl, by go_num, ⟨fun _ => HR2.out, (fun h => by cases h)⟩, HZ2.out, _, rfl⟩
              case measure => simp [intOf]; omega
          · have hc : decide ((u:Int) < (v:Int)) = false := by simp; omega
            have HR2 := Lib.hid (HX.out (by omega))
            go_wp2
            go_quiet (fail)
            clear e3 e4 e5 e6 e7
            -- behind the region of 'right': the label's distance
            rcases HZ.out.cases with rfl | ⟨j, rfl, hj⟩
            · have hz : decide ((-1 : Int) < 0) = true := by decide
              by_cases hd : (f[i]).dist = 0
              · have HZ2 := Lib.hid (HZ.out.hit hlt hd)
                have hd' : (((f[i]).dist : Int) == 0) = true := by simp; omega
                clear hd
                generalize (f[i]).dist = d at *
                go_wp2
                go_roundw
                case rel => exact ⟨i + 1, _, _, by omega, rfl, rfl, by go_num, ⟨(fun h => by cases h), fun _ => HR2.out⟩, HZ2.out, _, rfl⟩
                case measure => simp [intOf]; omega
              · have HZ2 := Lib.hid (HZ.out.miss hlt hd)
                have hd' : (((f[i]).dist : Int) == 0) = false := by simp; omega
                clear hd
                generalize (f[i]).dist = d at *
                go_wp2
                go_roundw
                case rel => exact ⟨i + 1, _, _, by omega, rfl, rfl, by go_num, ⟨(fun h => by cases h), fun _ => HR2.out⟩, HZ2.out, _, rfl⟩
                case measure => simp [intOf]; omega
            · have HZ2 := Lib.hid HZ.out.keep
              have hz : decide ((j : Int) < 0) = false := by simp
              go_wp2
              go_roundw
              case rel => exact ⟨i + 1, _, _, by omega, rfl, rfl, by go_num, ⟨(fun h => by cases h), fun _ => HR2.out⟩, HZ2.out, _, rfl⟩
              case measure => simp [intOf]; omega
    · obtain rfl : i = f.length := by omega
      cases r with
      | false =>
        go_wp2_with fail
        refine (works_any _).mono ?_
        rintro e w3 ⟨rfl, hb3⟩
        go_wp2_with fail
        go_ret
        exact ⟨rfl, ((Drew.refl _).drewN _ |>.below _).trans hb3⟩
      | true =>
        have hr : rightB f = true := (HR.out.1 rfl).all (Nat.le_refl _)
        rcases HZ.out with ⟨rfl, _⟩ | ⟨j, rfl, _, hj, hd, hk⟩
        · go_wp2_with fail
          refine (works_any _).mono ?_
          rintro e w3 ⟨rfl, hb3⟩
          go_wp2_with fail
          go_ret
          exact ⟨rfl, ((Drew.refl _).drewN _ |>.below _).trans hb3⟩
        · have HM := Lib.hid (meet_self hr hj hd hk)
          clear HR HZ hr hd hk
          have e1 : (0:Int) ≤ (j:Int) := by omega
          have e2 : (j:Int) < f.length := by omega
          have e3 : ¬ (j:Int) < 0 := by omega
          go_wp2_with fail
          refine (meet_any w.heap.size A A f f c c (w.drewN n) (HF.out.drew ⟨n, rfl⟩) (HF.out.drew ⟨n, rfl⟩) (Nat.le_refl _)).mono ?_
          rintro e w3 ⟨rfl, hb3⟩
          rw [HM.out]
          have HB3 : Hid (Below w.heap.size w w3) := (Drew.below ⟨n, rfl⟩ _).trans hb3
          clear hb3 HM
          obtain ⟨p, o, rfl, _, g1, _, _⟩ := SL.at' (HF.out.below HB3.out) j hj
          generalize (f[j]).hub = u at *
          go_wp2_with fail
          refine (works_any _).mono ?_
          rintro e w4 ⟨rfl, hb4⟩
          go_wp2_with fail
          go_ret
          exact ⟨rfl, HB3.out.trans (hb4.mono HB3.out.size)⟩

theorem walk (A : Option Addr) (n c : Nat) (w : World) (hn : n ≤ maxLen) (hf : n ≤ 4611686018427387904 → ∃ l : List Lbl, l.length = n ∧ SL w.heap.size w A l) :
    Calls Try.prog 8 #[.slice A n c] w (LawOk w) := by
  unfold maxLen at hn
  by_cases h : 300 < n
  · exact far1 A n c w h hn
  · obtain ⟨f, rfl, hf'⟩ := hf (by omega)
    exact near A f c w hf' (by omega)


set_option maxRecDepth 100000 in
theorem lifted (os : Os) (started : os.Started) (H : Type) (enc : TypeId × Value → H) :
    ReturnsInHanded {} Try.checked os 8 .any (Rows.meetSelfSpec.pre6 enc Try.prog Try.f8 Rows.meetSelfRow.domain false) (Rows.meetSelfSpec.post enc Try.prog Try.f8 false true false false) := by
  refine returnsInHanded_of_change (C := Try.checked) own_knob started (by kernel_rfl) Try.func8
    (ChangeSpec.witness6 (enc := enc) (C := Try.checked) false ⟨#[], #[.slice none 0 0], []⟩ 8 (by kernel_rfl) (by kernel_rfl) (by kernel_rfl) (by kernel_rfl)) ?_
  intro W base args ds gs before hval0 hW _ _
  have hval : ∀ (j : Nat) t v, Try.f8.params[j]? = some t → args[j]? = some v → Value.okWide Try.prog W .any base t v := hval0
  have hW' := hW
  obtain ⟨p, q, hA0, hV, rfl, _, _⟩ := hW
  have hA : DataW.TrodAll enc Try.prog W 0 (fun _ => true) true Try.f8.params.toList args.toList ds p := hA0
  rw [Try.params8] at hA hval
  obtain ⟨v0, vs0, d0, ds0, p0, q0, hargs, rfl, rfl, h0, r0⟩ := trodAll_cons hA
  obtain ⟨rfl, rfl, rfl⟩ := trodAll_nil r0
  obtain rfl : args = #[v0] := by cases args; simp_all
  obtain ⟨rfl, rfl⟩ := trodVars_none hV
  have hlt : ∀ x ∈ p0, x.block < W.heap.size := fun x hx => hW'.lt x (by simpa using hx)
  obtain ⟨A0, n0, c0, rfl, hn0, hl0⟩ := open_labels (okWide_slice Try.underlying22 (hval 0 22 v0 rfl rfl)) h0 (fun x hx => hlt x (by simp [hx]))
  refine (walk A0 n0 c0 W hn0 hl0).mono fun e W' ⟨he, hg⟩ => ?_
  subst he
  exact ⟨_, rfl, law_post hW' rfl (by kernel_rfl) rfl (by kernel_rfl) hg⟩

theorem proved : Rows.MeetSelfSaid :=
  OpenClaim.holds_of_wide 8 Try.f8 rfl rfl rfl rfl rfl rfl rfl ⟨rfl, rfl, rfl, rfl, rfl⟩ rfl rfl rfl rfl rfl (by kernel_rfl) Try.func8 (by kernel_rfl)
    (of_decide_eq_true (by kernel_rfl)) (by unfold Func.isWrapper; first | (rw [if_pos (by decide +kernel)]; kernel_rfl) | (rw [if_neg (by decide +kernel)]; exact ⟨rfl, rfl⟩))
    (fun os started H enc _ => lifted os started H enc)

end Go.Proofs.Ytajepjfohdlgdaa.meetSelf
