/- MeetLeast: for any two lists of labels the call returns true: what Meet tells is the way over a hub of both, none is nearer, and where nothing is told there is none. No condition. -/
import Derived.Test.YtajepjfohdlgdaaMb
import Derived.Test.YtajepjfohdlgdaaMw
import Derived.Test.YtajepjfohdlgdaaMo
namespace Go.Proofs.Ytajepjfohdlgdaa.meetLeast
open Go.ChangeShapes Go.WideShapes Go.ChangeAt Go.RowKit

theorem far1 (A A' : Option Addr) (n n' c c' : Nat) (w : World) (h : 300 < n) (hn : n ≤ 9223372036854775807) :
    Calls Try.prog 4 #[.slice A n c, .slice A' n' c'] w (LawOk w) := by
  have h1 : (300 : Int) < (n : Int) := by omega
  have HW := Lib.hid works_any
  go_enter Try.func4, Try.ntmps4
  go_wp2_with (go_at_call 9; refine (HW.out _).mono ?_; rintro e w1 ⟨rfl, hb1⟩)
  go_ret
  exact ⟨rfl, hb1⟩
theorem far2 (A A' : Option Addr) (n n' c c' : Nat) (w : World) (h0 : n ≤ 300) (h : 300 < n') (hn : n' ≤ 9223372036854775807) :
    Calls Try.prog 4 #[.slice A n c, .slice A' n' c'] w (LawOk w) := by
  have h1 : (300 : Int) < (n' : Int) := by omega
  have h2 : ¬ (300 : Int) < (n : Int) := by omega
  have HW := Lib.hid works_any
  go_enter Try.func4, Try.ntmps4
  go_wp2_with (go_at_call 9; refine (HW.out _).mono ?_; rintro e w1 ⟨rfl, hb1⟩)
  go_ret
  exact ⟨rfl, hb1⟩

set_option maxHeartbeats 4000000 in
/-- one of both is not right -/
theorem wrong (A A' : Option Addr) (f b : List Lbl) (c c' : Nat) (w : World) (hf : SL w.heap.size w A f) (hb : SL w.heap.size w A' b) (h0 : f.length ≤ 300) (h : b.length ≤ 300) (hr : rightB f = false ∨ rightB b = false) :
    Calls Try.prog 4 #[.slice A f.length c, .slice A' b.length c'] w (LawOk w) := by
  have h1 : ¬ (300 : Int) < (f.length : Int) := by omega
  have h2 : ¬ (300 : Int) < (b.length : Int) := by omega
  have hM := fun W h1 h2 h3 => meet_any w.heap.size A A' f b c c' W h1 h2 h3
  rw [meet_not hr] at hM
  have HM := Lib.hid hM
  have HF := Lib.hid hf
  have HB := Lib.hid hb
  have HR := Lib.hid hr
  clear hf hb hM hr
  go_enter Try.func4, Try.ntmps4
  go_wp2_with fail
  refine (HM.out w HF.out HB.out (Nat.le_refl _)).mono ?_
  rintro e w1 ⟨rfl, hb1⟩
  dsimp only [St.none]
  go_wp2_with fail
  refine (refRight_any w.heap.size A f c w1 (HF.out.below hb1)).mono ?_
  rintro e w2 ⟨rfl, n2, rfl⟩
  cases hq : rightB f with
  | false =>
    go_wp2_with fail
    refine (works_any _).mono ?_
    rintro e w3 ⟨rfl, hb3⟩
    go_wp2_with fail
    go_ret
    exact ⟨rfl, (below_drewN hb1 n2).trans (hb3.mono hb1.size)⟩
  | true =>
    have hq2 : rightB b = false := by rcases HR.out with h | h; (rw [hq] at h; cases h); exact h
    go_wp2_with fail
    refine (refRight_any w.heap.size A' b c' _ ((HB.out.below hb1).drew ⟨n2, rfl⟩)).mono ?_
    rintro e w3 ⟨rfl, n3, rfl⟩
    rw [hq2]
    go_wp2_with fail
    refine (works_any _).mono ?_
    rintro e w3 ⟨rfl, hb3⟩
    go_wp2_with fail
    go_ret
    exact ⟨rfl, (below_drewN hb1 (n2 + n3)).trans (hb3.mono hb1.size)⟩

theorem add_swap (a b : Nat) (w : World) : Calls Try.prog 16 #[.int .u64 a, .int .u64 b] w fun e w' => e = .returned (.tuple #[.int .u64 (sumV a b : Nat), .bool (fitsB a b)]) ∧ w = w' := refAdd_any a b w

set_option maxRecDepth 100000 in
set_option maxHeartbeats 8000000 in
/-- both are right -/
theorem right (A A' : Option Addr) (f b : List Lbl) (c c' : Nat) (w : World) (hf : SL w.heap.size w A f) (hb : SL w.heap.size w A' b) (h0 : f.length ≤ 300) (h : b.length ≤ 300) (hr1 : rightB f = true) (hr2 : rightB b = true) :
    Calls Try.prog 4 #[.slice A f.length c, .slice A' b.length c'] w (LawOk w) := by
  have h1 : ¬ (300 : Int) < (f.length : Int) := by omega
  have h2 : ¬ (300 : Int) < (b.length : Int) := by omega
  have HM := Lib.hid fun W h1 h2 h3 => meet_any w.heap.size A A' f b c c' W h1 h2 h3
  have HT := Lib.hid fun h => least_told hr1 hr2 h
  have HN := Lib.hid fun (x : Lbl) hx hh hfit => least_none hr1 hr2 (x := x) hx hh hfit
  have HZ := Lib.hid fun h => none_zero (f := f) (b := b) h
  have HF := Lib.hid hf
  have HB := Lib.hid hb
  have HR := Lib.hid (And.intro hr1 hr2)
  clear hf hb hr1 hr2
  go_enter Try.func4, Try.ntmps4
  go_wp2_with fail
  refine (HM.out w HF.out HB.out (Nat.le_refl _)).mono ?_
  rintro e w1 ⟨rfl, hb1⟩
  generalize meetV f b = s at HT HN HZ
  obtain ⟨sd, sh, sk⟩ := s
  dsimp only at HT HN HZ
  have HB1 := Lib.hid hb1
  clear hb1 HM
  go_wp2_with fail
  refine (refRight_any w.heap.size A f c w1 (HF.out.below HB1.out)).mono ?_
  rintro e w2 ⟨rfl, n2, rfl⟩
  rw [HR.out.1]
  go_wp2_with fail
  refine (refRight_any w.heap.size A' b c' _ ((HB.out.below HB1.out).drew ⟨n2, rfl⟩)).mono ?_
  rintro e w3 ⟨rfl, n3, rfl⟩
  rw [HR.out.2]
  obtain ⟨W, hW⟩ : ∃ W, (w1.drewN n2).drewN n3 = W := ⟨_, rfl⟩
  have HBW : Hid (Below w.heap.size w W) := by rw [← hW]; exact below_drewN (below_drewN HB1.out n2) n3
  rw [hW]
  clear hW HB1
  cases sk with
  | false =>
    have hz := HZ.out rfl
    simp only [St.none, St.mk.injEq] at hz
    obtain ⟨rfl, rfl, _⟩ := hz
    go_wp2_with fail
    clear HT HZ
    have hlf : f.length ≤ 300 := h0
    go_loopw [14] (fun vi wr => ∃ i : Nat, i ≤ f.length ∧ vi = .int .i64 i ∧ Hid (Below w.heap.size w wr)) (fun vi _ => f.length - (intOf vi).toNat)
    case atStart => exact ⟨0, by omega, rfl, HBW⟩
    case round =>
      obtain ⟨i, hi, rfl, HI⟩ := hrel
      by_cases hlt : i < f.length
      · obtain ⟨p, o, hA, hpb, g1, g2, g3⟩ := SL.at' (HF.out.below HI.out) i hlt
        subst hA
        have HN2 : Hid (hasB b (f[i]).hub = true → fitsB (f[i]).dist (distV b (f[i]).hub) = true → False) :=
          fun h1 h2 => by have := HN.out f[i] (List.getElem_mem hlt) h1 h2; simp at this
        have e1 : (0:Int) ≤ (i:Int) := by omega
        have e2 : (i:Int) < f.length := by omega
        have HD := Lib.hid fun q W hs => dist_any w.heap.size A' b c' q W hs
        generalize f[i] = x at *
        obtain ⟨xh, xn, xd, hxh, hxn, hxd⟩ := x
        dsimp only at g1 g2 g3 HN2
        go_wp2_with fail
        refine (HD.out xh wr (HB.out.below HI.out)).mono ?_
        rintro e wa ⟨rfl, na, rfl⟩
        have k1 : (wr.drewN na).cell? ⟨p, o + i * 3, none⟩ = some (.int .u32 (xh : Int)) := g1
        have k3 : (wr.drewN na).cell? ⟨p, o + i * 3 + 2, none⟩ = some (.int .u64 (xd : Int)) := g3
        have HIa : Hid (Below w.heap.size w (wr.drewN na)) := below_drewN HI.out na
        clear g1 g2 g3 HI
        generalize wr.drewN na = wa at *
        generalize distV b xh = yd at *
        go_wp2_with fail
        refine (refAdd_any xd yd wa).mono ?_
        rintro e wb ⟨rfl, rfl⟩
        generalize sumV xd yd = u at *
        cases hh : hasB b xh with
        | false =>
          clear HN2
          go_wp2_with fail
          go_roundw
          case rel => exact ⟨i + 1, by omega, by go_num, HIa⟩
          case measure => simp [intOf]; omega
        | true =>
          cases hk : fitsB xd yd with
          | false =>
            clear HN2
            go_wp2_with fail
            go_roundw
            case rel => exact ⟨i + 1, by omega, by go_num, HIa⟩
            case measure => simp [intOf]; omega
          | true =>
            have hbo := HN2.out hh hk
            clear HN2
            exact hbo.elim
      · have hnl : ¬ (i : Int) < (f.length : Int) := by omega
        go_wp2_with fail
        refine (works_any _).mono ?_
        rintro e w9 ⟨rfl, hb9⟩
        go_wp2_with fail
        go_ret
        exact ⟨rfl, HI.out.trans (hb9.mono HI.out.size)⟩
  | true =>
    have HT' := Lib.hid (HT.out rfl)
    clear HT HZ
    go_wp2_with fail
    refine (dist_any w.heap.size A f c sh W (HF.out.below HBW.out)).mono ?_
    rintro e w4 ⟨rfl, n4, rfl⟩
    go_wp2_with fail
    refine (dist_any w.heap.size A' b c' sh _ ((HB.out.below HBW.out).drew ⟨n4, rfl⟩)).mono ?_
    rintro e w5 ⟨rfl, n5, rfl⟩
    rw [HT'.out.1, HT'.out.2.1]
    obtain ⟨V, hV⟩ : ∃ V, (W.drewN n4).drewN n5 = V := ⟨_, rfl⟩
    have HBV : Hid (Below w.heap.size w V) := by rw [← hV]; exact below_drewN (below_drewN HBW.out n4) n5
    rw [hV]
    clear hV HBW
    have HBW := HBV
    clear HBV
    go_wp2_with fail
    refine (refAdd_any _ _ V).mono ?_
    rintro e w6 ⟨rfl, rfl⟩
    rw [HT'.out.2.2.1, HT'.out.2.2.2]
    go_wp2_with fail
    have hlf : f.length ≤ 300 := h0
    go_loopw [14] (fun vi wr => ∃ i : Nat, i ≤ f.length ∧ vi = .int .i64 i ∧ Hid (Below w.heap.size w wr)) (fun vi _ => f.length - (intOf vi).toNat)
    case atStart => exact ⟨0, by omega, rfl, HBW⟩
    case round =>
      obtain ⟨i, hi, rfl, HI⟩ := hrel
      by_cases hlt : i < f.length
      · obtain ⟨p, o, hA, hpb, g1, g2, g3⟩ := SL.at' (HF.out.below HI.out) i hlt
        subst hA
        have HN2 : Hid (hasB b (f[i]).hub = true → fitsB (f[i]).dist (distV b (f[i]).hub) = true → sd ≤ sumV (f[i]).dist (distV b (f[i]).hub) ∧ (sd = sumV (f[i]).dist (distV b (f[i]).hub) → sh ≤ (f[i]).hub)) :=
          fun h1 h2 => (HN.out f[i] (List.getElem_mem hlt) h1 h2).2
        have e1 : (0:Int) ≤ (i:Int) := by omega
        have e2 : (i:Int) < f.length := by omega
        have HD := Lib.hid fun q W hs => dist_any w.heap.size A' b c' q W hs
        generalize f[i] = x at *
        obtain ⟨xh, xn, xd, hxh, hxn, hxd⟩ := x
        dsimp only at g1 g2 g3 HN2
        go_wp2_with fail
        refine (HD.out xh wr (HB.out.below HI.out)).mono ?_
        rintro e wa ⟨rfl, na, rfl⟩
        have k1 : (wr.drewN na).cell? ⟨p, o + i * 3, none⟩ = some (.int .u32 (xh : Int)) := g1
        have k3 : (wr.drewN na).cell? ⟨p, o + i * 3 + 2, none⟩ = some (.int .u64 (xd : Int)) := g3
        have HIa : Hid (Below w.heap.size w (wr.drewN na)) := below_drewN HI.out na
        clear g1 g2 g3 HI
        generalize wr.drewN na = wa at *
        generalize distV b xh = yd at *
        go_wp2_with fail
        refine (refAdd_any xd yd wa).mono ?_
        rintro e wb ⟨rfl, rfl⟩
        generalize sumV xd yd = u at *
        cases hh : hasB b xh with
        | false =>
          clear HN2
          go_wp2_with fail
          go_roundw
          case rel => exact ⟨i + 1, by omega, by go_num, HIa⟩
          case measure => simp [intOf]; omega
        | true =>
          cases hk : fitsB xd yd with
          | false =>
            clear HN2
            go_wp2_with fail
            go_roundw
            case rel => exact ⟨i + 1, by omega, by go_num, HIa⟩
            case measure => simp [intOf]; omega
          | true =>
            have hbo := HN2.out hh hk
            clear HN2
            obtain ⟨hle, heq⟩ := hbo
            have HE := Lib.hid heq
            clear heq
            have hnu : ¬ u < sd := by omega
            by_cases hue : u = sd
            · have hq : ((u : Int) == (sd : Int)) = true := by simp; omega
              have hqn : ¬ xh < sh := by have := HE.out hue.symm; omega
              clear hue
              go_wp2_with fail
              go_roundw
              case rel => exact ⟨i + 1, by omega, by go_num, HIa⟩
              case measure => simp [intOf]; omega
            · have hq : ((u : Int) == (sd : Int)) = false := by simp; omega
              clear hue
              go_wp2_with fail
              go_roundw
              case rel => exact ⟨i + 1, by omega, by go_num, HIa⟩
              case measure => simp [intOf]; omega
      · have hnl : ¬ (i : Int) < (f.length : Int) := by omega
        go_wp2_with fail
        refine (works_any _).mono ?_
        rintro e w9 ⟨rfl, hb9⟩
        go_wp2_with fail
        go_ret
        exact ⟨rfl, HI.out.trans (hb9.mono HI.out.size)⟩

theorem walk (A : Option Addr) (n c : Nat) (A' : Option Addr) (n' c' : Nat) (w : World) (hn : n ≤ maxLen) (hf : n ≤ 4611686018427387904 → ∃ l : List Lbl, l.length = n ∧ SL w.heap.size w A l) (hn' : n' ≤ maxLen) (hb : n' ≤ 4611686018427387904 → ∃ l : List Lbl, l.length = n' ∧ SL w.heap.size w A' l) :
    Calls Try.prog 4 #[.slice A n c, .slice A' n' c'] w (LawOk w) := by
  unfold maxLen at hn hn'
  by_cases h : 300 < n
  · exact far1 A A' n n' c c' w h hn
  · by_cases h' : 300 < n'
    · exact far2 A A' n n' c c' w (by omega) h' hn'
    · obtain ⟨f, rfl, hf'⟩ := hf (by omega)
      obtain ⟨b, rfl, hb'⟩ := hb (by omega)
      by_cases hr : rightB f = true ∧ rightB b = true
      · exact right A A' f b c c' w hf' hb' (by omega) (by omega) hr.1 hr.2
      · refine wrong A A' f b c c' w hf' hb' (by omega) (by omega) ?_
        cases h1 : rightB f
        · exact .inl rfl
        · cases h2 : rightB b
          · exact .inr rfl
          · exact absurd ⟨h1, h2⟩ hr


set_option maxRecDepth 100000 in
theorem lifted (os : Os) (started : os.Started) (H : Type) (enc : TypeId × Value → H) :
    ReturnsInHanded {} Try.checked os 4 .any (Rows.meetLeastSpec.pre6 enc Try.prog Try.f4 Rows.meetLeastRow.domain false) (Rows.meetLeastSpec.post enc Try.prog Try.f4 false true false false) := by
  refine returnsInHanded_of_change (C := Try.checked) own_knob started (by kernel_rfl) Try.func4
    (ChangeSpec.witness6 (enc := enc) (C := Try.checked) false ⟨#[], #[.slice none 0 0, .slice none 0 0], []⟩ 8 (by kernel_rfl) (by kernel_rfl) (by kernel_rfl) (by kernel_rfl)) ?_
  intro W base args ds gs before hval0 hW _ _
  have hval : ∀ (j : Nat) t v, Try.f4.params[j]? = some t → args[j]? = some v → Value.okWide Try.prog W .any base t v := hval0
  have hW' := hW
  obtain ⟨p, q, hA0, hV, rfl, _, _⟩ := hW
  have hA : DataW.TrodAll enc Try.prog W 0 (fun _ => true) true Try.f4.params.toList args.toList ds p := hA0
  rw [Try.params4] at hA hval
  obtain ⟨v0, vs0, d0, ds0, p0, q0, hargs, rfl, rfl, h0, r0⟩ := trodAll_cons hA
  obtain ⟨v1, vs1, d1, ds1, p1, q1, rfl, rfl, rfl, h1, r1⟩ := trodAll_cons r0
  obtain ⟨rfl, rfl, rfl⟩ := trodAll_nil r1
  obtain rfl : args = #[v0, v1] := by cases args; simp_all
  obtain ⟨rfl, rfl⟩ := trodVars_none hV
  have hlt : ∀ x ∈ p0 ++ (p1), x.block < W.heap.size := fun x hx => hW'.lt x (by simpa using hx)
  obtain ⟨A0, n0, c0, rfl, hn0, hl0⟩ := open_labels (okWide_slice Try.underlying22 (hval 0 22 v0 rfl rfl)) h0 (fun x hx => hlt x (by simp [hx]))
  obtain ⟨A1, n1, c1, rfl, hn1, hl1⟩ := open_labels (okWide_slice Try.underlying22 (hval 1 22 v1 rfl rfl)) h1 (fun x hx => hlt x (by simp [hx]))
  refine (walk A0 n0 c0 A1 n1 c1 W hn0 hl0 hn1 hl1).mono fun e W' ⟨he, hg⟩ => ?_
  subst he
  exact ⟨_, rfl, law_post hW' rfl (by kernel_rfl) rfl (by kernel_rfl) hg⟩

theorem proved : Rows.MeetLeastSaid :=
  OpenClaim.holds_of_wide 4 Try.f4 rfl rfl rfl rfl rfl rfl rfl ⟨rfl, rfl, rfl, rfl, rfl⟩ rfl rfl rfl rfl rfl (by kernel_rfl) Try.func4 (by kernel_rfl)
    (of_decide_eq_true (by kernel_rfl)) (by unfold Func.isWrapper; first | (rw [if_pos (by decide +kernel)]; kernel_rfl) | (rw [if_neg (by decide +kernel)]; exact ⟨rfl, rfl⟩))
    (fun os started H enc _ => lifted os started H enc)

end Go.Proofs.Ytajepjfohdlgdaa.meetLeast
