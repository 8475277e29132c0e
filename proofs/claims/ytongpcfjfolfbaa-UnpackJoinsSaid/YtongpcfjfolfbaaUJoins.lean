/- UnpackJoins: for any two rows of edges the call returns true: one behind the other they come to the sum of both. No condition. -/
import Derived.Test.YtongpcfjfolfbaaWk
import Derived.Test.YtongpcfjfolfbaaEp
namespace Go.Proofs.Ytongpcfjfolfbaa.unpackJoins
open Go.ChangeShapes Go.WideShapes Go.ChangeAt Go.RowKit Go.Deep

theorem far (A A' : Option Addr) (n n' c c' : Nat) (w : World) (h : 200 < n ∨ 200 < n') (hn : n ≤ 9223372036854775807) (hn' : n' ≤ 9223372036854775807) : Calls Try.prog 10 #[.slice A n c, .slice A' n' c'] w (LawOk w) := by
  have HW := Lib.hid works_any
  by_cases h1 : 200 < n
  · have g1 : (200 : Int) < (n : Int) := by omega
    clear h h1
    go_enter Try.func10, Try.ntmps10
    go_wp2_with (go_at_call 12; refine (HW.out _).mono ?_; rintro e w1 ⟨rfl, hb1⟩)
    go_ret
    exact ⟨rfl, hb1⟩
  · have g1 : ¬ (200 : Int) < (n : Int) := by omega
    have g2 : (200 : Int) < (n' : Int) := by omega
    clear h h1
    go_enter Try.func10, Try.ntmps10
    go_wp2_with (go_at_call 12; refine (HW.out _).mono ?_; rintro e w1 ⟨rfl, hb1⟩)
    go_ret
    exact ⟨rfl, hb1⟩
theorem meets_mid {l m : List Edg} (h1 : l.length - 1 < l.length) (h2 : 0 < m.length) : meetsB l m = decide ((l[l.length - 1]'h1).head = (m[0]'h2).tail) := by
  unfold meetsB
  rw [List.getLast?_eq_getElem?, List.getElem?_eq_getElem (by omega), List.head?_eq_getElem?, List.getElem?_eq_getElem h2]
  rfl
theorem meets_end {l m : List Edg} (h : l.length = 0 ∨ m.length = 0) : meetsB l m = true := by
  unfold meetsB
  rcases h with h | h
  · rw [List.eq_nil_of_length_eq_zero h]; rfl
  · rw [List.eq_nil_of_length_eq_zero h]; cases l.getLast? <;> rfl

set_option maxHeartbeats 8000000 in
theorem near_l (A A' : Option Addr) (l m : List Edg) (c c' : Nat) (w : World) (hs : ELs w.heap.size w A l) (hs' : ELs w.heap.size w A' m) (hl : l.length ≤ 200) (hm : m.length ≤ 200) (h0 : l.length = 0) : Calls Try.prog 10 #[.slice A l.length c, .slice A' m.length c'] w (LawOk w) := by
  have HM := Lib.hid (meets_end (l := l) (m := m) (.inl h0))
  have g3 : ((l.length : Int) == 0) = true := by rw [h0]; rfl
  clear h0
  have HW := Lib.hid works_any
  have HS := Lib.hid hs
  have HS' := Lib.hid hs'
  have g1 : ¬ (200 : Int) < (l.length : Int) := by omega
  have g2 : ¬ (200 : Int) < (m.length : Int) := by omega
  clear hs hs'
  go_enter Try.func10, Try.ntmps10
  go_wp2_with (at_builtin; first
    | (refine wpList_append_sr _ rfl (.tmp 24) (.tmp 25) edge_ety rfl w.heap.size (.slice none 0 0) [] rfl (OwnS.nil _ _ _ _ _) w.heap.size A l.length c l rfl rfl HS.out (by simp [maxLen]; omega) (by simp; omega) (Nat.le_refl _) ?_; intro A1 c1 w1 hown1 hg1 hx1; have HO1 := Lib.hid (show OwnS w1 w.heap.size 42 4 Edg.enc (.slice A1 l.length c1) l by simpa using hown1); have HB1 := Lib.hid ((Below.refl _ _).grown hg1 (Nat.le_refl _) (by simp [Value.ownBlock])); clear hown1 hg1 hx1)
    | (refine wpList_append_sr _ rfl (.tmp 27) (.tmp 28) edge_ety rfl w.heap.size (.slice A1 l.length c1) l rfl HO1.out w.heap.size A' m.length c' m rfl rfl (HS'.out.below HB1.out) (by simp [maxLen]; omega) (by omega) HB1.out.size ?_; intro A2 c2 w2 hown2 hg2 hx2; have HO2 := Lib.hid hown2; have HB2 := Lib.hid (HB1.out.grown hg2 HB1.out.size (fun k hk => (HO1.out.lt k hk).1)); clear hown2 hg2 hx2))
  have HL := Lib.hid (HS.out.below HB2.out)
  have HL' := Lib.hid (HS'.out.below HB2.out)
  have hall := sum_any _ A2 (l ++ m) c2 w2 (own_els HO2.out (by rw [List.length_append]; omega))
  rw [List.length_append] at hall
  have HAll := Lib.hid (fun n => (show ELs w2.heap.size (w2.drewN n) A2 (l ++ m) from (own_els HO2.out (by rw [List.length_append]; omega)).drew ⟨n, rfl⟩))
  clear hall HS HS' HO1 HB1 HO2
  refine (sum_any _ A l c w2 HL.out).mono ?_
  rintro e w3 ⟨rfl, n3, rfl⟩
  go_wp2_with fail
  refine (sum_any _ A' m c' _ (HL'.out.drew ⟨n3, rfl⟩)).mono ?_
  rintro e w4 ⟨rfl, n4, rfl⟩
  go_wp2_with fail
  have hsum := sum_any _ A2 (l ++ m) c2 _ (HAll.out (n3 + n4))
  rw [List.length_append] at hsum
  refine hsum.mono ?_
  rintro e w5 ⟨rfl, n5, rfl⟩
  clear hsum HAll
  have HJ := Lib.hid (sum_join l m)
  have HZ := Lib.hid (fun h => sum_no (l := l ++ m) h)
  have HX := Lib.hid (fun h => sum_join_of l m h)
  have HV := Lib.hid (fun h => sumV_yes (a := sumOf l) (b := sumOf m) h)
  go_wp2_with fail
  refine (refAdd_any (sumOf l) (sumOf m) _).mono ?_
  rintro e w6 ⟨rfl, rfl⟩
  generalize sumOf (l ++ m) = ca at *
  generalize sumOk (l ++ m) = isA at *
  generalize sumV (sumOf l) (sumOf m) = x at *
  generalize fitsB (sumOf l) (sumOf m) = ft at *
  generalize sumOf l = sa at *
  generalize sumOf m = sb at *
  generalize sumOk l = ol at *
  generalize sumOk m = om at *
  clear HL HL'
  go_wp2_with fail
  go_quiet (fail)
  cases ol with
  | false =>
    have hi : isA = false := by rw [HJ.out, HM.out]; simp
    have hc : ca = 0 := HZ.out hi
    subst hi hc
    clear HJ HZ HX HV HM
    go_wp2_with (go_at_call 12; with_reducible refine (HW.out _).mono ?_; rintro e w7 ⟨rfl, hb7⟩)
    go_ret
    exact ⟨rfl, (below_drewN HB2.out _).trans (hb7.mono HB2.out.size)⟩
  | true =>
    cases om with
    | false =>
      have hi : isA = false := by rw [HJ.out, HM.out]; simp
      have hc : ca = 0 := HZ.out hi
      subst hi hc
      clear HJ HZ HX HV HM
      go_wp2_with (go_at_call 12; with_reducible refine (HW.out _).mono ?_; rintro e w7 ⟨rfl, hb7⟩)
      go_ret
      exact ⟨rfl, (below_drewN HB2.out _).trans (hb7.mono HB2.out.size)⟩
    | true =>
      cases ft with
      | false =>
        have hi : isA = false := by rw [HJ.out, HM.out]; simp
        have hc : ca = 0 := HZ.out hi
        subst hi hc
        clear HJ HZ HX HV HM
        go_wp2_with (go_at_call 12; with_reducible refine (HW.out _).mono ?_; rintro e w7 ⟨rfl, hb7⟩)
        go_ret
        exact ⟨rfl, (below_drewN HB2.out _).trans (hb7.mono HB2.out.size)⟩
      | true =>
        have hi : isA = true := by rw [HJ.out, HM.out]; simp
        have hx : x = ca := by rw [HX.out hi, HV.out rfl]
        subst hi hx
        clear HJ HZ HX HV HM
        go_wp2_with (go_at_call 12; with_reducible refine (HW.out _).mono ?_; rintro e w7 ⟨rfl, hb7⟩)
        go_ret
        exact ⟨rfl, (below_drewN HB2.out _).trans (hb7.mono HB2.out.size)⟩
set_option maxHeartbeats 8000000 in
theorem near_m (A A' : Option Addr) (l m : List Edg) (c c' : Nat) (w : World) (hs : ELs w.heap.size w A l) (hs' : ELs w.heap.size w A' m) (hl : l.length ≤ 200) (hm : m.length ≤ 200) (h0 : ¬ l.length = 0) (h1 : m.length = 0) : Calls Try.prog 10 #[.slice A l.length c, .slice A' m.length c'] w (LawOk w) := by
  have HM := Lib.hid (meets_end (l := l) (m := m) (.inr h1))
  have g3 : ((l.length : Int) == 0) = false := by rw [beq_eq_false_iff_ne]; omega
  have g4 : ((m.length : Int) == 0) = true := by rw [h1]; rfl
  clear h0 h1
  have HW := Lib.hid works_any
  have HS := Lib.hid hs
  have HS' := Lib.hid hs'
  have g1 : ¬ (200 : Int) < (l.length : Int) := by omega
  have g2 : ¬ (200 : Int) < (m.length : Int) := by omega
  clear hs hs'
  go_enter Try.func10, Try.ntmps10
  go_wp2_with (at_builtin; first
    | (refine wpList_append_sr _ rfl (.tmp 24) (.tmp 25) edge_ety rfl w.heap.size (.slice none 0 0) [] rfl (OwnS.nil _ _ _ _ _) w.heap.size A l.length c l rfl rfl HS.out (by simp [maxLen]; omega) (by simp; omega) (Nat.le_refl _) ?_; intro A1 c1 w1 hown1 hg1 hx1; have HO1 := Lib.hid (show OwnS w1 w.heap.size 42 4 Edg.enc (.slice A1 l.length c1) l by simpa using hown1); have HB1 := Lib.hid ((Below.refl _ _).grown hg1 (Nat.le_refl _) (by simp [Value.ownBlock])); clear hown1 hg1 hx1)
    | (refine wpList_append_sr _ rfl (.tmp 27) (.tmp 28) edge_ety rfl w.heap.size (.slice A1 l.length c1) l rfl HO1.out w.heap.size A' m.length c' m rfl rfl (HS'.out.below HB1.out) (by simp [maxLen]; omega) (by omega) HB1.out.size ?_; intro A2 c2 w2 hown2 hg2 hx2; have HO2 := Lib.hid hown2; have HB2 := Lib.hid (HB1.out.grown hg2 HB1.out.size (fun k hk => (HO1.out.lt k hk).1)); clear hown2 hg2 hx2))
  have HL := Lib.hid (HS.out.below HB2.out)
  have HL' := Lib.hid (HS'.out.below HB2.out)
  have hall := sum_any _ A2 (l ++ m) c2 w2 (own_els HO2.out (by rw [List.length_append]; omega))
  rw [List.length_append] at hall
  have HAll := Lib.hid (fun n => (show ELs w2.heap.size (w2.drewN n) A2 (l ++ m) from (own_els HO2.out (by rw [List.length_append]; omega)).drew ⟨n, rfl⟩))
  clear hall HS HS' HO1 HB1 HO2
  refine (sum_any _ A l c w2 HL.out).mono ?_
  rintro e w3 ⟨rfl, n3, rfl⟩
  go_wp2_with fail
  refine (sum_any _ A' m c' _ (HL'.out.drew ⟨n3, rfl⟩)).mono ?_
  rintro e w4 ⟨rfl, n4, rfl⟩
  go_wp2_with fail
  have hsum := sum_any _ A2 (l ++ m) c2 _ (HAll.out (n3 + n4))
  rw [List.length_append] at hsum
  refine hsum.mono ?_
  rintro e w5 ⟨rfl, n5, rfl⟩
  clear hsum HAll
  have HJ := Lib.hid (sum_join l m)
  have HZ := Lib.hid (fun h => sum_no (l := l ++ m) h)
  have HX := Lib.hid (fun h => sum_join_of l m h)
  have HV := Lib.hid (fun h => sumV_yes (a := sumOf l) (b := sumOf m) h)
  go_wp2_with fail
  refine (refAdd_any (sumOf l) (sumOf m) _).mono ?_
  rintro e w6 ⟨rfl, rfl⟩
  generalize sumOf (l ++ m) = ca at *
  generalize sumOk (l ++ m) = isA at *
  generalize sumV (sumOf l) (sumOf m) = x at *
  generalize fitsB (sumOf l) (sumOf m) = ft at *
  generalize sumOf l = sa at *
  generalize sumOf m = sb at *
  generalize sumOk l = ol at *
  generalize sumOk m = om at *
  clear HL HL'
  go_wp2_with fail
  go_quiet (fail)
  cases ol with
  | false =>
    have hi : isA = false := by rw [HJ.out, HM.out]; simp
    have hc : ca = 0 := HZ.out hi
    subst hi hc
    clear HJ HZ HX HV HM
    go_wp2_with (go_at_call 12; with_reducible refine (HW.out _).mono ?_; rintro e w7 ⟨rfl, hb7⟩)
    go_ret
    exact ⟨rfl, (below_drewN HB2.out _).trans (hb7.mono HB2.out.size)⟩
  | true =>
    cases om with
    | false =>
      have hi : isA = false := by rw [HJ.out, HM.out]; simp
      have hc : ca = 0 := HZ.out hi
      subst hi hc
      clear HJ HZ HX HV HM
      go_wp2_with (go_at_call 12; with_reducible refine (HW.out _).mono ?_; rintro e w7 ⟨rfl, hb7⟩)
      go_ret
      exact ⟨rfl, (below_drewN HB2.out _).trans (hb7.mono HB2.out.size)⟩
    | true =>
      cases ft with
      | false =>
        have hi : isA = false := by rw [HJ.out, HM.out]; simp
        have hc : ca = 0 := HZ.out hi
        subst hi hc
        clear HJ HZ HX HV HM
        go_wp2_with (go_at_call 12; with_reducible refine (HW.out _).mono ?_; rintro e w7 ⟨rfl, hb7⟩)
        go_ret
        exact ⟨rfl, (below_drewN HB2.out _).trans (hb7.mono HB2.out.size)⟩
      | true =>
        have hi : isA = true := by rw [HJ.out, HM.out]; simp
        have hx : x = ca := by rw [HX.out hi, HV.out rfl]
        subst hi hx
        clear HJ HZ HX HV HM
        go_wp2_with (go_at_call 12; with_reducible refine (HW.out _).mono ?_; rintro e w7 ⟨rfl, hb7⟩)
        go_ret
        exact ⟨rfl, (below_drewN HB2.out _).trans (hb7.mono HB2.out.size)⟩
set_option maxHeartbeats 8000000 in
theorem near_lm (A A' : Option Addr) (l m : List Edg) (c c' : Nat) (w : World) (hs : ELs w.heap.size w A l) (hs' : ELs w.heap.size w A' m) (hl : l.length ≤ 200) (hm : m.length ≤ 200) (h0 : ¬ l.length = 0) (h1 : ¬ m.length = 0) : Calls Try.prog 10 #[.slice A l.length c, .slice A' m.length c'] w (LawOk w) := by
  have hj : l.length - 1 < l.length := by omega
  have hj' : 0 < m.length := by omega
  have HMM := Lib.hid (meets_mid hj hj')
  have g3 : ((l.length : Int) == 0) = false := by rw [beq_eq_false_iff_ne]; omega
  have g4 : ((m.length : Int) == 0) = false := by rw [beq_eq_false_iff_ne]; omega
  have HJ1 := Lib.hid hj
  have HJ2 := Lib.hid hj'
  have HW := Lib.hid works_any
  have HS := Lib.hid hs
  have HS' := Lib.hid hs'
  have g1 : ¬ (200 : Int) < (l.length : Int) := by omega
  have g2 : ¬ (200 : Int) < (m.length : Int) := by omega
  clear hs hs'
  go_enter Try.func10, Try.ntmps10
  go_wp2_with (at_builtin; first
    | (refine wpList_append_sr _ rfl (.tmp 24) (.tmp 25) edge_ety rfl w.heap.size (.slice none 0 0) [] rfl (OwnS.nil _ _ _ _ _) w.heap.size A l.length c l rfl rfl HS.out (by simp [maxLen]; omega) (by simp; omega) (Nat.le_refl _) ?_; intro A1 c1 w1 hown1 hg1 hx1; have HO1 := Lib.hid (show OwnS w1 w.heap.size 42 4 Edg.enc (.slice A1 l.length c1) l by simpa using hown1); have HB1 := Lib.hid ((Below.refl _ _).grown hg1 (Nat.le_refl _) (by simp [Value.ownBlock])); clear hown1 hg1 hx1)
    | (refine wpList_append_sr _ rfl (.tmp 27) (.tmp 28) edge_ety rfl w.heap.size (.slice A1 l.length c1) l rfl HO1.out w.heap.size A' m.length c' m rfl rfl (HS'.out.below HB1.out) (by simp [maxLen]; omega) (by omega) HB1.out.size ?_; intro A2 c2 w2 hown2 hg2 hx2; have HO2 := Lib.hid hown2; have HB2 := Lib.hid (HB1.out.grown hg2 HB1.out.size (fun k hk => (HO1.out.lt k hk).1)); clear hown2 hg2 hx2))
  have HL := Lib.hid (HS.out.below HB2.out)
  have HL' := Lib.hid (HS'.out.below HB2.out)
  have hall := sum_any _ A2 (l ++ m) c2 w2 (own_els HO2.out (by rw [List.length_append]; omega))
  rw [List.length_append] at hall
  have HAll := Lib.hid (fun n => (show ELs w2.heap.size (w2.drewN n) A2 (l ++ m) from (own_els HO2.out (by rw [List.length_append]; omega)).drew ⟨n, rfl⟩))
  clear hall HS HS' HO1 HB1 HO2
  refine (sum_any _ A l c w2 HL.out).mono ?_
  rintro e w3 ⟨rfl, n3, rfl⟩
  go_wp2_with fail
  refine (sum_any _ A' m c' _ (HL'.out.drew ⟨n3, rfl⟩)).mono ?_
  rintro e w4 ⟨rfl, n4, rfl⟩
  go_wp2_with fail
  have hsum := sum_any _ A2 (l ++ m) c2 _ (HAll.out (n3 + n4))
  rw [List.length_append] at hsum
  refine hsum.mono ?_
  rintro e w5 ⟨rfl, n5, rfl⟩
  clear hsum HAll
  have HJ := Lib.hid (sum_join l m)
  have HZ := Lib.hid (fun h => sum_no (l := l ++ m) h)
  have HX := Lib.hid (fun h => sum_join_of l m h)
  have HV := Lib.hid (fun h => sumV_yes (a := sumOf l) (b := sumOf m) h)
  go_wp2_with fail
  refine (refAdd_any (sumOf l) (sumOf m) _).mono ?_
  rintro e w6 ⟨rfl, rfl⟩
  generalize sumOf (l ++ m) = ca at *
  generalize sumOk (l ++ m) = isA at *
  generalize sumV (sumOf l) (sumOf m) = x at *
  generalize fitsB (sumOf l) (sumOf m) = ft at *
  generalize sumOf l = sa at *
  generalize sumOf m = sb at *
  generalize sumOk l = ol at *
  generalize sumOk m = om at *
  obtain ⟨p, o, rfl, _, c0, c1', c2', c3⟩ := ELs.at' HL.out (l.length - 1) (by omega)
  obtain ⟨p', o', rfl, _, d0, d1, d2, d3⟩ := ELs.at' HL'.out 0 (by omega)
  simp only [Nat.zero_mul, Nat.add_zero] at d0 d1 d2 d3
  have e6 : (0:Int) < (m.length:Int) := by omega
  have e1 : IntKind.i64.wrap ((l.length:Int) - 1) = (l.length:Int) - 1 := IntWalk.i64_in _ (by omega)
  have e3 : (0:Int) ≤ (l.length:Int) - 1 := by omega
  have e4 : (l.length:Int) - 1 < l.length := by omega
  have e5 : ((l.length:Int) - 1).toNat = l.length - 1 := by omega
  clear HL HL' h0 h1
  generalize (l[l.length - 1]'hj).head = hd at *
  generalize (m[0]'hj').tail = tl at *
  by_cases ht : hd = tl
  · have g5 : ((hd : Int) == (tl : Int)) = true := by rw [ht]; exact beq_self_eq_true _
    have HM := Lib.hid (show meetsB l m = true by rw [HMM.out, ht]; simp)
    clear HMM ht
    go_wp2_with fail
    go_quiet (fail)
    clear e1 e3 e4 e5 c0 c1' c2' c3 d0 d1 d2 d3
    cases ol with
    | false =>
      have hi : isA = false := by rw [HJ.out, HM.out]; simp
      have hc : ca = 0 := HZ.out hi
      subst hi hc
      clear HJ HZ HX HV HM
      go_wp2_with (go_at_call 12; with_reducible refine (HW.out _).mono ?_; rintro e w7 ⟨rfl, hb7⟩)
      go_ret
      exact ⟨rfl, (below_drewN HB2.out _).trans (hb7.mono HB2.out.size)⟩
    | true =>
      cases om with
      | false =>
        have hi : isA = false := by rw [HJ.out, HM.out]; simp
        have hc : ca = 0 := HZ.out hi
        subst hi hc
        clear HJ HZ HX HV HM
        go_wp2_with (go_at_call 12; with_reducible refine (HW.out _).mono ?_; rintro e w7 ⟨rfl, hb7⟩)
        go_ret
        exact ⟨rfl, (below_drewN HB2.out _).trans (hb7.mono HB2.out.size)⟩
      | true =>
        cases ft with
        | false =>
          have hi : isA = false := by rw [HJ.out, HM.out]; simp
          have hc : ca = 0 := HZ.out hi
          subst hi hc
          clear HJ HZ HX HV HM
          go_wp2_with (go_at_call 12; with_reducible refine (HW.out _).mono ?_; rintro e w7 ⟨rfl, hb7⟩)
          go_ret
          exact ⟨rfl, (below_drewN HB2.out _).trans (hb7.mono HB2.out.size)⟩
        | true =>
          have hi : isA = true := by rw [HJ.out, HM.out]; simp
          have hx : x = ca := by rw [HX.out hi, HV.out rfl]
          subst hi hx
          clear HJ HZ HX HV HM
          go_wp2_with (go_at_call 12; with_reducible refine (HW.out _).mono ?_; rintro e w7 ⟨rfl, hb7⟩)
          go_ret
          exact ⟨rfl, (below_drewN HB2.out _).trans (hb7.mono HB2.out.size)⟩
  · have g5 : ((hd : Int) == (tl : Int)) = false := by rw [beq_eq_false_iff_ne]; omega
    have HM := Lib.hid (show meetsB l m = false by rw [HMM.out]; simp [ht])
    clear HMM ht
    go_wp2_with fail
    go_quiet (fail)
    clear e1 e3 e4 e5 c0 c1' c2' c3 d0 d1 d2 d3
    cases ol with
    | false =>
      have hi : isA = false := by rw [HJ.out, HM.out]; simp
      have hc : ca = 0 := HZ.out hi
      subst hi hc
      clear HJ HZ HX HV HM
      go_wp2_with (go_at_call 12; with_reducible refine (HW.out _).mono ?_; rintro e w7 ⟨rfl, hb7⟩)
      go_ret
      exact ⟨rfl, (below_drewN HB2.out _).trans (hb7.mono HB2.out.size)⟩
    | true =>
      cases om with
      | false =>
        have hi : isA = false := by rw [HJ.out, HM.out]; simp
        have hc : ca = 0 := HZ.out hi
        subst hi hc
        clear HJ HZ HX HV HM
        go_wp2_with (go_at_call 12; with_reducible refine (HW.out _).mono ?_; rintro e w7 ⟨rfl, hb7⟩)
        go_ret
        exact ⟨rfl, (below_drewN HB2.out _).trans (hb7.mono HB2.out.size)⟩
      | true =>
        cases ft with
        | false =>
          have hi : isA = false := by rw [HJ.out, HM.out]; simp
          have hc : ca = 0 := HZ.out hi
          subst hi hc
          clear HJ HZ HX HV HM
          go_wp2_with (go_at_call 12; with_reducible refine (HW.out _).mono ?_; rintro e w7 ⟨rfl, hb7⟩)
          go_ret
          exact ⟨rfl, (below_drewN HB2.out _).trans (hb7.mono HB2.out.size)⟩
        | true =>
          have hi : isA = false := by rw [HJ.out, HM.out]; simp
          have hc : ca = 0 := HZ.out hi
          subst hi hc
          clear HJ HZ HX HV HM
          go_wp2_with (go_at_call 12; with_reducible refine (HW.out _).mono ?_; rintro e w7 ⟨rfl, hb7⟩)
          go_ret
          exact ⟨rfl, (below_drewN HB2.out _).trans (hb7.mono HB2.out.size)⟩
theorem walk (A : Option Addr) (n c : Nat) (A' : Option Addr) (n' c' : Nat) (w : World) (hn : n ≤ maxLen) (hf : n ≤ 4611686018427387904 → ∃ l : List Edg, l.length = n ∧ ELs w.heap.size w A l) (hn' : n' ≤ maxLen) (hf' : n' ≤ 4611686018427387904 → ∃ l : List Edg, l.length = n' ∧ ELs w.heap.size w A' l) : Calls Try.prog 10 #[.slice A n c, .slice A' n' c'] w (LawOk w) := by
  unfold maxLen at hn hn'
  by_cases h : 200 < n ∨ 200 < n'
  · exact far A A' n n' c c' w h hn hn'
  · obtain ⟨l, rfl, hl⟩ := hf (by omega)
    obtain ⟨m, rfl, hm⟩ := hf' (by omega)
    by_cases h0 : l.length = 0
    · exact near_l A A' l m c c' w hl hm (by omega) (by omega) h0
    · by_cases h1 : m.length = 0
      · exact near_m A A' l m c c' w hl hm (by omega) (by omega) h0 h1
      · exact near_lm A A' l m c c' w hl hm (by omega) (by omega) h0 h1

set_option maxRecDepth 100000 in
theorem lifted (os : Os) (started : os.Started) (H : Type) (enc : TypeId × Value → H) :
    ReturnsInHanded {} Try.checked os 10 .any (Rows.unpackJoinsSpec.pre6 enc Try.prog Try.f10 Rows.unpackJoinsRow.domain false) (Rows.unpackJoinsSpec.post enc Try.prog Try.f10 false true false false) := by
  refine returnsInHanded_of_change (C := Try.checked) own_knob started (by kernel_rfl) Try.func10
    (ChangeSpec.witness6 (enc := enc) (C := Try.checked) false ⟨#[], #[.slice none 0 0, .slice none 0 0], []⟩ 8 (by kernel_rfl) (by kernel_rfl) (by kernel_rfl) (by kernel_rfl)) ?_
  intro W base args ds gs before hval0 hW _ _
  have hval : ∀ (j : Nat) t v, Try.f10.params[j]? = some t → args[j]? = some v → Value.okWide Try.prog W .any base t v := hval0
  have hW' := hW
  obtain ⟨p, q, hA0, hV, rfl, _, _⟩ := hW
  have hA : DataW.TrodAll enc Try.prog W 0 (fun _ => true) true Try.f10.params.toList args.toList ds p := hA0
  rw [Try.params10] at hA hval
  obtain ⟨v0, vs0, d0, ds0, p0, q0, hargs, rfl, rfl, h0, r0⟩ := trodAll_cons hA
  obtain ⟨v1, vs1, d1, ds1, p1, q1, rfl, rfl, rfl, h1, r1⟩ := trodAll_cons r0
  obtain ⟨rfl, rfl, rfl⟩ := trodAll_nil r1
  obtain rfl : args = #[v0, v1] := by cases args; simp_all
  obtain ⟨rfl, rfl⟩ := trodVars_none hV
  have hlt : ∀ x ∈ p0 ++ (p1), x.block < W.heap.size := fun x hx => hW'.lt x (by simpa using hx)
  obtain ⟨A0, n0, c0, rfl, hn0, hl0⟩ := open_edges (okWide_slice Try.underlying27 (hval 0 27 v0 rfl rfl)) h0 (fun x hx => hlt x (by simp [hx]))
  obtain ⟨A1, n1, c1, rfl, hn1, hl1⟩ := open_edges (okWide_slice Try.underlying27 (hval 1 27 v1 rfl rfl)) h1 (fun x hx => hlt x (by simp [hx]))
  refine (walk A0 n0 c0 A1 n1 c1 W hn0 hl0 hn1 hl1).mono fun e W' ⟨he, hg⟩ => ?_
  subst he
  exact ⟨_, rfl, law_post hW' rfl (by kernel_rfl) rfl (by kernel_rfl) hg⟩

theorem proved : Rows.UnpackJoinsSaid :=
  OpenClaim.holds_of_wide 10 Try.f10 rfl rfl rfl rfl rfl rfl rfl ⟨rfl, rfl, rfl, rfl, rfl⟩ rfl rfl rfl rfl rfl (by kernel_rfl) Try.func10 (by kernel_rfl)
    (of_decide_eq_true (by kernel_rfl)) (by unfold Func.isWrapper; first | (rw [if_pos (by decide +kernel)]; kernel_rfl) | (rw [if_neg (by decide +kernel)]; exact ⟨rfl, rfl⟩))
    (fun os started H enc _ => lifted os started H enc)

end Go.Proofs.Ytongpcfjfolfbaa.unpackJoins
