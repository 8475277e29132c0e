/- MeetWrong: lists in which a hub stands twice, or behind a greater one, meet nothing. No condition. -/
import Derived.Test.YtajepjfohdlgdaaMb
import Derived.Test.YtajepjfohdlgdaaMw
import Derived.Test.YtajepjfohdlgdaaMo
import Derived.Test.YtajepjfohdlgdaaOc
namespace Go.Proofs.Ytajepjfohdlgdaa.meetWrong
open Go.ChangeShapes Go.WideShapes Go.ChangeAt Go.RowKit

/-- the first k+1 labels and, behind them, those from the k-th on -/
def dup (f : List Lbl) (k : Nat) : List Lbl := f.take (k + 1) ++ f.drop k
theorem dup_wrong {f : List Lbl} {k : Nat} (hk : k < f.length) : rightB (dup f k) = false := by
  have hl : (dup f k).length = k + 1 + (f.length - k) := by simp [dup]; omega
  refine rightB_not k (by rw [hl]; omega) ?_
  have e1 : (dup f k)[k]'(by rw [hl]; omega) = f[k] := by simp only [dup]; rw [List.getElem_append_left (by simp; omega)]; simp
  have e2 : (dup f k)[k + 1]'(by rw [hl]; omega) = f[k] := by simp only [dup]; rw [List.getElem_append_right (by simp; omega)]; simp [Nat.min_eq_left (show k + 1 ≤ f.length by omega)]
  rw [e1, e2]
  exact Nat.le_refl _

theorem far1 (A A' : Option Addr) (n n' c c' : Nat) (at_ : Int) (w : World) (h : 300 < n) (hn : n ≤ 9223372036854775807) :
    Calls Try.prog 7 #[.slice A n c, .slice A' n' c', .int .i64 at_] w (LawOk w) := by
  have h1 : (300 : Int) < (n : Int) := by omega
  have HW := Lib.hid works_any
  go_enter Try.func7, Try.ntmps7
  go_wp2_with (go_at_call 9; refine (HW.out _).mono ?_; rintro e w1 ⟨rfl, hb1⟩)
  go_ret
  exact ⟨rfl, hb1⟩
theorem far2 (A A' : Option Addr) (n n' c c' : Nat) (at_ : Int) (w : World) (h0 : n ≤ 300) (h : 300 < n') (hn : n' ≤ 9223372036854775807) :
    Calls Try.prog 7 #[.slice A n c, .slice A' n' c', .int .i64 at_] w (LawOk w) := by
  have h1 : (300 : Int) < (n' : Int) := by omega
  have h2 : ¬ (300 : Int) < (n : Int) := by omega
  have HW := Lib.hid works_any
  go_enter Try.func7, Try.ntmps7
  go_wp2_with (go_at_call 9; refine (HW.out _).mono ?_; rintro e w1 ⟨rfl, hb1⟩)
  go_ret
  exact ⟨rfl, hb1⟩
theorem empty (A A' : Option Addr) (n n' c c' : Nat) (at_ : Int) (w : World) (h0 : n = 0) (h : n' ≤ 300) :
    Calls Try.prog 7 #[.slice A n c, .slice A' n' c', .int .i64 at_] w (LawOk w) := by
  have h1 : ¬ (300 : Int) < (n' : Int) := by omega
  have h2 : ¬ (300 : Int) < (n : Int) := by omega
  have h3 : ((n : Int) == 0) = true := by simp; omega
  have HW := Lib.hid works_any
  go_enter Try.func7, Try.ntmps7
  go_wp2_with (go_at_call 9; refine (HW.out _).mono ?_; rintro e w1 ⟨rfl, hb1⟩)
  go_ret
  exact ⟨rfl, hb1⟩

theorem sl_part {B : Nat} {w : World} {A : Option Addr} {l : List Lbl} (h : SL B w A l) (n : Nat) : SL B w A (l.take n) := by
  refine ⟨by have := h.len; simp; omega, fun i hi => ?_⟩
  have hil : i < l.length := by simp at hi; omega
  obtain ⟨b, o, h1, h2, h3⟩ := h.at_ i hil
  refine ⟨b, o, h1, h2, fun j v hv => h3 j v ?_⟩
  simpa using hv


theorem sl_drop {B : Nat} {w : World} {A : Option Addr} {l : List Lbl} (h : SL B w A l) (k : Nat) (hk : k < l.length) : ∃ p o : Nat, A = some ⟨p, o, none⟩ ∧ SL B w (some ⟨p, o + k * 3, none⟩) (l.drop k) := by
  obtain ⟨p, o, hA, hpB, _⟩ := h.at_ k hk
  refine ⟨p, o, hA, by have := h.len; simp; omega, fun i hi => ⟨p, o + k * 3, rfl, hpB, fun j v hv => ?_⟩⟩
  have hil : k + i < l.length := by simp at hi; omega
  obtain ⟨b', o', h1, h2, h3⟩ := h.at_ (k + i) hil
  obtain ⟨rfl, rfl⟩ : p = b' ∧ o = o' := by simpa using hA.symm.trans h1
  have := h3 j v (by simpa using hv)
  rwa [show o + (k + i) * 3 + j = o + k * 3 + i * 3 + j by omega] at this

set_option maxHeartbeats 8000000 in
theorem near (A A' : Option Addr) (f b : List Lbl) (c c' : Nat) (z : Int) (w : World) (hf : SL w.heap.size w A f) (hb : SL w.heap.size w A' b) (h0 : f.length ≤ 300) (h : b.length ≤ 300) (hp : 0 < f.length) (hc : f.length ≤ c) :
    Calls Try.prog 7 #[.slice A f.length c, .slice A' b.length c', .int .i64 z] w (LawOk w) := by
  have h1 : ¬ (300 : Int) < (f.length : Int) := by omega
  have h2 : ¬ (300 : Int) < (b.length : Int) := by omega
  have h3 : ((f.length : Int) == 0) = false := by rw [beq_eq_false_iff_ne]; omega
  have HF := Lib.hid hf
  have HB := Lib.hid hb
  clear hf hb
  have hq1 : -(f.length : Int) < z.tmod f.length := by
    have h4 := Int.tmod_lt_of_pos (-z) (show (0:Int) < f.length by omega)
    rw [Int.neg_tmod] at h4
    omega
  have hq2 : z.tmod f.length < f.length := Int.tmod_lt_of_pos z (by omega)
  by_cases hneg : z.tmod f.length < 0
  · obtain ⟨k, hk⟩ : ∃ k : Nat, z.tmod f.length = (k : Int) - f.length := ⟨(z.tmod f.length + f.length).toNat, by omega⟩
    have hkl : k < f.length := by omega
    have g0 : (k : Int) - f.length < 0 := by omega
    have g1 : wrap64 ((k : Int) - f.length + f.length) = k := by rw [Int.sub_add_cancel]; exact IntWalk.wrap64_in _ (by omega)
    have g2 : wrap64 ((k : Int) + 1) = ((k + 1 : Nat) : Int) := IntWalk.wrap64_in _ (by omega)
    have g3 : ((k + 1 : Nat) : Int) ≤ c := by omega
    have g4 : (0:Int) ≤ ((k + 1 : Nat) : Int) := by omega
    have g5 : (0:Int) ≤ (k : Int) := by omega
    have g6 : (k:Int) ≤ f.length := by omega
    have g7 : ((k:Int) + 1) ≤ c := by omega
    have g8 : ¬ c = k := by omega
    clear hneg hq1 hq2
    have HT : Hid (SL w.heap.size w A (f.take (k + 1))) := sl_part HF.out (k + 1)
    have HD : Hid (∃ p o : Nat, A = some ⟨p, o, none⟩ ∧ SL w.heap.size w (some ⟨p, o + k * 3, none⟩) (f.drop k)) := sl_drop HF.out k hkl
    have htl : (f.take (k + 1)).length = k + 1 := by simp; omega
    have hdl : (f.drop k).length = f.length - k := by simp
    obtain ⟨p, o, rfl, HD⟩ := HD
    go_enter Try.func7, Try.ntmps7
    go_wp2_with fail
    rw [← htl]
    refine (copied_any w.heap.size (some ⟨p, o, none⟩) (f.take (k + 1)) c w HT.out (by omega)).mono ?_
    rintro e w1 ⟨P, cp, rfl, own1, hb1⟩
    have HB1 := Lib.hid hb1
    rw [htl] at own1
    have HO1 := Lib.hid own1
    clear own1 hb1 HT
    go_wp2_with (at_builtin; refine wpList_append_sr _ rfl (.tmp 44) (.tmp 47) label_ety rfl w.heap.size (.slice P (k + 1) cp) (f.take (k + 1)) rfl HO1.out w.heap.size (some ⟨p, o + k * 3, none⟩) (f.length - k) (c - k) (f.drop k) rfl hdl.symm (SR.below HD HB1.out) (by rw [htl, hdl]; simp [maxLen]; omega) (by rw [htl, hdl]; omega) HB1.out.size ?_; intro P' cp' w2 hown hg _)
    have hlen : (f.take (k + 1)).length + (f.drop k).length = (dup f k).length := by simp [dup]
    have hl2 : (dup f k).length ≤ 1000 := by rw [← hlen, htl, hdl]; omega
    rw [hlen] at hown
    rw [show k + 1 + (f.length - k) = (dup f k).length by rw [← hlen, htl, hdl]]
    have hsg : SL w2.heap.size w2 P' (dup f k) := own_sl hown (by omega)
    have HB2 : Hid (Below w.heap.size w w2) := HB1.out.grown hg HB1.out.size (fun r hr => (HO1.out.lt r hr).1)
    have hM1 : meetV (dup f k) b = St.none := meet_not (.inl (dup_wrong hkl))
    have hM2 : meetV b (dup f k) = St.none := meet_not (.inr (dup_wrong hkl))
    clear hown hg hlen HO1 HB1
    generalize dup f k = G at *
    have HG := Lib.hid hsg
    have HM1 := Lib.hid hM1
    have HM2 := Lib.hid hM2
    clear hsg hM1 hM2
    go_wp2_with fail
    refine (meet_any w2.heap.size P' A' G b cp' c' w2 HG.out ((HB.out.below HB2.out).more HB2.out.size) (Nat.le_refl _)).mono ?_
    rintro e w3 ⟨rfl, hb3⟩
    rw [HM1.out]
    dsimp only [St.none]
    go_wp2_with fail
    refine (meet_any w2.heap.size A' P' b G c' cp' w3 (((HB.out.below HB2.out).more HB2.out.size).below hb3) (HG.out.below hb3) hb3.size).mono ?_
    rintro e w4 ⟨rfl, hb4⟩
    rw [HM2.out]
    dsimp only [St.none]
    have HB4 : Hid (Below w.heap.size w w4) := HB2.out.trans ((hb3.trans (hb4.mono hb3.size)).mono HB2.out.size)
    clear hb3 hb4
    go_wp2_with fail
    refine (works_any _).mono ?_
    rintro e w5 ⟨rfl, hb5⟩
    go_wp2_with fail
    go_ret
    exact ⟨rfl, HB4.out.trans (hb5.mono HB4.out.size)⟩
  · obtain ⟨k, hk⟩ : ∃ k : Nat, z.tmod f.length = (k : Int) := ⟨(z.tmod f.length).toNat, by omega⟩
    have hkl : k < f.length := by omega
    have g0 : ¬ (k : Int) < 0 := by omega
    have g2 : wrap64 ((k : Int) + 1) = ((k + 1 : Nat) : Int) := IntWalk.wrap64_in _ (by omega)
    have g3 : ((k + 1 : Nat) : Int) ≤ c := by omega
    have g4 : (0:Int) ≤ ((k + 1 : Nat) : Int) := by omega
    have g5 : (0:Int) ≤ (k : Int) := by omega
    have g6 : (k:Int) ≤ f.length := by omega
    have g7 : ((k:Int) + 1) ≤ c := by omega
    have g8 : ¬ c = k := by omega
    clear hneg hq1 hq2
    have HT : Hid (SL w.heap.size w A (f.take (k + 1))) := sl_part HF.out (k + 1)
    have HD : Hid (∃ p o : Nat, A = some ⟨p, o, none⟩ ∧ SL w.heap.size w (some ⟨p, o + k * 3, none⟩) (f.drop k)) := sl_drop HF.out k hkl
    have htl : (f.take (k + 1)).length = k + 1 := by simp; omega
    have hdl : (f.drop k).length = f.length - k := by simp
    obtain ⟨p, o, rfl, HD⟩ := HD
    go_enter Try.func7, Try.ntmps7
    go_wp2_with fail
    rw [← htl]
    refine (copied_any w.heap.size (some ⟨p, o, none⟩) (f.take (k + 1)) c w HT.out (by omega)).mono ?_
    rintro e w1 ⟨P, cp, rfl, own1, hb1⟩
    have HB1 := Lib.hid hb1
    rw [htl] at own1
    have HO1 := Lib.hid own1
    clear own1 hb1 HT
    go_wp2_with (at_builtin; refine wpList_append_sr _ rfl (.tmp 44) (.tmp 47) label_ety rfl w.heap.size (.slice P (k + 1) cp) (f.take (k + 1)) rfl HO1.out w.heap.size (some ⟨p, o + k * 3, none⟩) (f.length - k) (c - k) (f.drop k) rfl hdl.symm (SR.below HD HB1.out) (by rw [htl, hdl]; simp [maxLen]; omega) (by rw [htl, hdl]; omega) HB1.out.size ?_; intro P' cp' w2 hown hg _)
    have hlen : (f.take (k + 1)).length + (f.drop k).length = (dup f k).length := by simp [dup]
    have hl2 : (dup f k).length ≤ 1000 := by rw [← hlen, htl, hdl]; omega
    rw [hlen] at hown
    rw [show k + 1 + (f.length - k) = (dup f k).length by rw [← hlen, htl, hdl]]
    have hsg : SL w2.heap.size w2 P' (dup f k) := own_sl hown (by omega)
    have HB2 : Hid (Below w.heap.size w w2) := HB1.out.grown hg HB1.out.size (fun r hr => (HO1.out.lt r hr).1)
    have hM1 : meetV (dup f k) b = St.none := meet_not (.inl (dup_wrong hkl))
    have hM2 : meetV b (dup f k) = St.none := meet_not (.inr (dup_wrong hkl))
    clear hown hg hlen HO1 HB1
    generalize dup f k = G at *
    have HG := Lib.hid hsg
    have HM1 := Lib.hid hM1
    have HM2 := Lib.hid hM2
    clear hsg hM1 hM2
    go_wp2_with fail
    refine (meet_any w2.heap.size P' A' G b cp' c' w2 HG.out ((HB.out.below HB2.out).more HB2.out.size) (Nat.le_refl _)).mono ?_
    rintro e w3 ⟨rfl, hb3⟩
    rw [HM1.out]
    dsimp only [St.none]
    go_wp2_with fail
    refine (meet_any w2.heap.size A' P' b G c' cp' w3 (((HB.out.below HB2.out).more HB2.out.size).below hb3) (HG.out.below hb3) hb3.size).mono ?_
    rintro e w4 ⟨rfl, hb4⟩
    rw [HM2.out]
    dsimp only [St.none]
    have HB4 : Hid (Below w.heap.size w w4) := HB2.out.trans ((hb3.trans (hb4.mono hb3.size)).mono HB2.out.size)
    clear hb3 hb4
    go_wp2_with fail
    refine (works_any _).mono ?_
    rintro e w5 ⟨rfl, hb5⟩
    go_wp2_with fail
    go_ret
    exact ⟨rfl, HB4.out.trans (hb5.mono HB4.out.size)⟩

theorem walk (A : Option Addr) (n c : Nat) (A' : Option Addr) (n' c' : Nat) (z : Int) (w : World) (hn : n ≤ maxLen) (hk : n ≤ c ∧ c ≤ maxLen) (hf : n ≤ 4611686018427387904 → ∃ l : List Lbl, l.length = n ∧ SL w.heap.size w A l) (hn' : n' ≤ maxLen) (hb : n' ≤ 4611686018427387904 → ∃ l : List Lbl, l.length = n' ∧ SL w.heap.size w A' l)
    (_hz : -9223372036854775808 ≤ z ∧ z ≤ 9223372036854775807) :
    Calls Try.prog 7 #[.slice A n c, .slice A' n' c', .int .i64 z] w (LawOk w) := by
  unfold maxLen at hn hn'
  by_cases h : 300 < n
  · exact far1 A A' n n' c c' z w h hn
  · by_cases h' : 300 < n'
    · exact far2 A A' n n' c c' z w (by omega) h' hn'
    · by_cases h0 : n = 0
      · exact empty A A' n n' c c' z w h0 (by omega)
      · obtain ⟨f, rfl, hf'⟩ := hf (by omega)
        obtain ⟨b, rfl, hb'⟩ := hb (by omega)
        exact near A A' f b c c' z w hf' hb' (by omega) (by omega) (by omega) hk.1


set_option maxRecDepth 100000 in
theorem lifted (os : Os) (started : os.Started) (H : Type) (enc : TypeId × Value → H) :
    ReturnsInHanded {} Try.checked os 7 .any (Rows.meetWrongSpec.pre6 enc Try.prog Try.f7 Rows.meetWrongRow.domain false) (Rows.meetWrongSpec.post enc Try.prog Try.f7 false true false false) := by
  refine returnsInHanded_of_change (C := Try.checked) own_knob started (by kernel_rfl) Try.func7
    (ChangeSpec.witness6 (enc := enc) (C := Try.checked) false ⟨#[], #[.slice none 0 0, .slice none 0 0, .int .i64 0], []⟩ 8 (by kernel_rfl) (by kernel_rfl) (by kernel_rfl) (by kernel_rfl)) ?_
  intro W base args ds gs before hval0 hW _ _
  have hval : ∀ (j : Nat) t v, Try.f7.params[j]? = some t → args[j]? = some v → Value.okWide Try.prog W .any base t v := hval0
  have hW' := hW
  obtain ⟨p, q, hA0, hV, rfl, _, _⟩ := hW
  have hA : DataW.TrodAll enc Try.prog W 0 (fun _ => true) true Try.f7.params.toList args.toList ds p := hA0
  rw [Try.params7] at hA hval
  obtain ⟨v0, vs0, d0, ds0, p0, q0, hargs, rfl, rfl, h0, r0⟩ := trodAll_cons hA
  obtain ⟨v1, vs1, d1, ds1, p1, q1, rfl, rfl, rfl, h1, r1⟩ := trodAll_cons r0
  obtain ⟨v2, vs2, d2, ds2, p2, q2, rfl, rfl, rfl, h2, r2⟩ := trodAll_cons r1
  obtain ⟨rfl, rfl, rfl⟩ := trodAll_nil r2
  obtain rfl : args = #[v0, v1, v2] := by cases args; simp_all
  obtain ⟨rfl, rfl⟩ := trodVars_none hV
  have hlt : ∀ x ∈ p0 ++ (p1 ++ (p2)), x.block < W.heap.size := fun x hx => hW'.lt x (by simpa using hx)
  obtain ⟨A0, n0, c0, rfl, hn0, hl0⟩ := open_labels (okWide_slice Try.underlying22 (hval 0 22 v0 rfl rfl)) h0 (fun x hx => hlt x (by simp [hx]))
  have hk0 := slice_cap Try.underlying22 h0
  obtain ⟨A1, n1, c1, rfl, hn1, hl1⟩ := open_labels (okWide_slice Try.underlying22 (hval 1 22 v1 rfl rfl)) h1 (fun x hx => hlt x (by simp [hx]))
  obtain ⟨z2, rfl, rfl, rfl, w2⟩ := open_int Try.underlying3 (hval 2 3 v2 rfl rfl) h2
  have hz2 := bounds_i64 w2
  refine (walk A0 n0 c0 A1 n1 c1 z2 W hn0 hk0 hl0 hn1 hl1 hz2).mono fun e W' ⟨he, hg⟩ => ?_
  subst he
  exact ⟨_, rfl, law_post hW' rfl (by kernel_rfl) rfl (by kernel_rfl) hg⟩

theorem proved : Rows.MeetWrongSaid :=
  OpenClaim.holds_of_wide 7 Try.f7 rfl rfl rfl rfl rfl rfl rfl ⟨rfl, rfl, rfl, rfl, rfl⟩ rfl rfl rfl rfl rfl (by kernel_rfl) Try.func7 (by kernel_rfl)
    (of_decide_eq_true (by kernel_rfl)) (by unfold Func.isWrapper; first | (rw [if_pos (by decide +kernel)]; kernel_rfl) | (rw [if_neg (by decide +kernel)]; exact ⟨rfl, rfl⟩))
    (fun os started H enc _ => lifted os started H enc)

end Go.Proofs.Ytajepjfohdlgdaa.meetWrong
