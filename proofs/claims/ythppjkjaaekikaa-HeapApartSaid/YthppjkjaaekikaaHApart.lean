/- HeapApart: for any items the call returns true: two heaps do not see one another. No condition. -/
import Derived.Test.YthppjkjaaekikaaHh
namespace Go.Proofs.Ythppjkjaaekikaa.heapApart
open Go.ChangeShapes Go.WideShapes Go.ChangeAt Go.RowKit Go.Deep
theorem far (A : Option Addr) (n c : Nat) (B : Option Addr) (k d : Nat) (w : World) (h : 600 < n ∨ 600 < k) (hn : n ≤ maxLen) (hk : k ≤ maxLen) : Calls Try.prog 5 #[.slice A n c, .slice B k d] w (LawOk w) := by
  unfold maxLen at hn hk
  have HW := Lib.hid works_any
  by_cases h1 : 600 < n
  · have h2 : (600 : Int) < (n : Int) := by omega
    clear h
    go_enter Try.func5, Try.ntmps5
    go_wp2_with (go_at_call 17; refine (HW.out _).mono ?_; rintro e w1 ⟨rfl, hb1⟩)
    go_ret
    exact ⟨rfl, hb1⟩
  · have h2 : ¬ (600 : Int) < (n : Int) := by omega
    have h3 : (600 : Int) < (k : Int) := by omega
    clear h
    go_enter Try.func5, Try.ntmps5
    go_wp2_with (go_at_call 17; refine (HW.out _).mono ?_; rintro e w1 ⟨rfl, hb1⟩)
    go_ret
    exact ⟨rfl, hb1⟩
def St (G H : Nat) (W : World) (i j : Nat) (w : World) : Prop := ∃ v l u m, Twin G H W w v l u m ∧ l.length = i ∧ m.length = j
set_option maxRecDepth 100000 in
set_option maxHeartbeats 8000000 in
theorem near (A : Option Addr) (L : List Itm) (c : Nat) (B : Option Addr) (M : List Itm) (d : Nat) (w : World) (hs : ILs w.heap.size w A L) (hl : L.length ≤ 600) (hr : ILs w.heap.size w B M) (hm : M.length ≤ 600) :
    Calls Try.prog 5 #[.slice A L.length c, .slice B M.length d] w (LawOk w) := by
  have h1 : ¬ (600 : Int) < (L.length : Int) := by omega
  have h2 : ¬ (600 : Int) < (M.length : Int) := by omega
  have HW := Lib.hid works_any
  have HS := Lib.hid hs
  have HM := Lib.hid hr
  clear hs hr
  go_enter Try.func5, Try.ntmps5
  go_wp2_with fail
  refine (new_hp w).mono ?_
  rintro e w1 ⟨rfl, k1, hb1⟩
  have K1 := Lib.hid k1
  have HB1 := Lib.hid hb1
  clear k1 hb1
  go_wp2_with fail
  refine (new_hp w1).mono ?_
  rintro e w2 ⟨rfl, k2, hb2⟩
  have HST : Hid (St w.heap.size w1.heap.size w 0 0 w2) := Lib.hid ⟨_, _, _, _, Twin.start K1.out HB1.out k2 hb2, rfl, rfl⟩
  have hgh : w.heap.size ≠ w1.heap.size := by have := K1.out.oi.lt; omega
  clear k2 hb2 K1 HB1
  generalize hGe : w.heap.size = G at *
  generalize w1.heap.size = H at *
  have HE := Lib.hid hGe
  clear hGe
  go_wp2_with fail
  go_loopw [7] (fun vi wr => ∃ i : Nat, vi = .int .i64 i ∧ i ≤ L.length ∧ Hid (St G H w i 0 wr)) (fun vi _ => L.length - (intOf vi).toNat)
  case atStart => exact ⟨0, rfl, by omega, HST⟩
  case round =>
    obtain ⟨i, rfl, hi, HSt⟩ := hrel
    clear HST
    by_cases hlt : i < L.length
    · have h3 : (i : Int) < (L.length : Int) := by omega
      have h4 : (0 : Int) ≤ (i : Int) := by omega
      obtain ⟨v, l, u, m, hT, hl, hm⟩ := HSt.out
      have hS0 : ILs w.heap.size w A L := by rw [HE.out]; exact HS.out
      obtain ⟨b, o, hA, hb, c0, c1⟩ := hS0.gt' hT.low i hlt
      subst hA
      generalize gt L i = x at *
      have HT := Lib.hid hT
      have HLl := Lib.hid hl
      have HLm := Lib.hid hm
      have HPu := Lib.hid (push_hp G v l x wr HT.out.one (by rw [hl]; omega))
      dsimp only [Itm.agg] at HPu
      clear hT hl hm hlt hb HSt hS0
      go_wp2_with fail
      refine HPu.out.mono ?_
      rintro e w3 ⟨rfl, v2, l2, k2, p2, s2⟩
      have HSt2 : Hid (St G H w (i + 1) 0 w3) := Lib.hid ⟨v2, l2, u, m, HT.out.step1 k2 s2, by rw [perm_len p2, HLl.out], HLm.out⟩
      clear k2 p2 s2
      go_wp2_with fail
      go_roundw
      case rel => exact ⟨i + 1, by go_num, by omega, HSt2⟩
      case measure => simp [intOf]; omega
    · have h3 : ¬ (i : Int) < (L.length : Int) := by omega
      have hie : i = L.length := by omega
      subst hie
      clear hi hlt
      go_wp2_with fail
      go_loopw [8] (fun vi wr => ∃ i : Nat, vi = .int .i64 i ∧ i ≤ M.length ∧ Hid (St G H w L.length i wr)) (fun vi _ => M.length - (intOf vi).toNat)
      case atStart => exact ⟨0, rfl, by omega, HSt⟩
      case round =>
        clear HSt
        obtain ⟨i, rfl, hi, HSt⟩ := hrel
        by_cases hlt : i < M.length
        · have h3 : (i : Int) < (M.length : Int) := by omega
          have h4 : (0 : Int) ≤ (i : Int) := by omega
          obtain ⟨v, l, u, m, hT, hl, hm⟩ := HSt.out
          have hS0 : ILs w.heap.size w B M := by rw [HE.out]; exact HM.out
          obtain ⟨b, o, hA, hb, c0, c1⟩ := hS0.gt' hT.low i hlt
          subst hA
          generalize gt M i = x at *
          have HT := Lib.hid hT
          have HLl := Lib.hid hl
          have HLm := Lib.hid hm
          have HPu := Lib.hid (push_hp H u m x wr HT.out.two (by rw [hm]; omega))
          dsimp only [Itm.agg] at HPu
          clear hT hl hm hlt hb HSt hS0
          go_wp2_with fail
          refine HPu.out.mono ?_
          rintro e w3 ⟨rfl, v2, l2, k2, p2, s2⟩
          have HSt2 : Hid (St G H w L.length (i + 1) w3) := Lib.hid ⟨v, l, v2, l2, HT.out.step2 k2 s2, HLl.out, by rw [perm_len p2, HLm.out]⟩
          clear k2 p2 s2
          go_wp2_with fail
          go_roundw
          case rel => exact ⟨i + 1, by go_num, by omega, HSt2⟩
          case measure => simp [intOf]; omega
        · have h3 : ¬ (i : Int) < (M.length : Int) := by omega
          have hj6 : i ≤ 600 := by omega
          clear hi hlt
          go_wp2_with fail
          go_loopw [9] (fun _ wr => ∃ j : Nat, j ≤ 600 ∧ Hid (St G H w L.length j wr)) (fun _ wr => lenAt H wr)
          case atStart => exact ⟨i, hj6, HSt⟩
          case round =>
            clear HSt
            obtain ⟨j, hj, HSt⟩ := hrel
            obtain ⟨v, l, u, m, hT, hl, hm⟩ := HSt.out
            subst hm
            have HT := Lib.hid hT
            have HLl := Lib.hid hl
            have HLn := Lib.hid (len_ho H u m wr HT.out.two.oi)
            have HLa := Lib.hid (HT.out.two.lenAt)
            clear hT hl HSt hj6 h3
            by_cases hm0 : m.length = 0
            · have h3 : ¬ (0 : Int) < (m.length : Int) := by omega
              have HLg := Lib.hid (len_ho G v l wr HT.out.one.oi)
              rw [HLl.out] at HLg
              clear hm0
              go_wp2_with fail
              refine HLn.out.mono ?_
              rintro e w3 ⟨rfl, rfl⟩
              go_wp2_with (first | (go_at_call 15; refine HLg.out.mono ?_; rintro e w6 ⟨rfl, rfl⟩) | (go_at_call 17; refine (HW.out _).mono ?_; rintro e w7 ⟨rfl, hb7⟩))
              go_ret
              exact ⟨rfl, HT.out.low.trans (hb7.mono HT.out.low.size)⟩
            · have h3 : (0 : Int) < (m.length : Int) := by omega
              have HPo := Lib.hid (pop_hp H u m wr HT.out.two (by omega) (by omega))
              have h5 : m.length ≤ 600 := hj
              clear hm0 hj
              go_wp2_with fail
              refine HLn.out.mono ?_
              rintro e w3 ⟨rfl, rfl⟩
              go_wp2_with fail
              refine HLn.out.mono ?_
              rintro e w3 ⟨rfl, rfl⟩
              go_wp2_with fail
              refine HPo.out.mono ?_
              rintro e w4 ⟨u4, m4, x, rfl, k4, p4, l4, s4⟩
              have HT4 := Lib.hid (HT.out.step2 k4 s4)
              have e4 : (m.length : Int) - 1 = (m4.length : Int) := by have := perm_len' p4; omega
              have h6 : m4.length < m.length := by have := perm_len' p4; omega
              have HLn4 := Lib.hid (len_ho H u4 m4 w4 k4.oi)
              have HLa4 := Lib.hid (k4.lenAt)
              have HSt4 : Hid (St G H w L.length m4.length w4) := Lib.hid ⟨v, l, u4, m4, HT4.out, HLl.out, rfl⟩
              clear k4 p4 l4 s4
              go_wp2_with fail
              refine HLn4.out.mono ?_
              rintro e w5 ⟨rfl, rfl⟩
              go_wp2_with fail
              go_roundw
              case rel => exact ⟨m4.length, by omega, HSt4⟩
              case measure => rw [HLa4.out, HLa.out]; exact h6
theorem walk (A : Option Addr) (n c : Nat) (B : Option Addr) (k d : Nat) (w : World) (hn : n ≤ maxLen) (hf : n ≤ 4611686018427387904 → ∃ l : List Itm, l.length = n ∧ ILs w.heap.size w A l) (hk : k ≤ maxLen) (hg : k ≤ 4611686018427387904 → ∃ l : List Itm, l.length = k ∧ ILs w.heap.size w B l) :
    Calls Try.prog 5 #[.slice A n c, .slice B k d] w (LawOk w) := by
  by_cases h : 600 < n ∨ 600 < k
  · exact far A n c B k d w h hn hk
  · obtain ⟨l, rfl, hl⟩ := hf (by omega)
    obtain ⟨m, rfl, hm⟩ := hg (by omega)
    exact near A l c B m d w hl (by omega) hm (by omega)

set_option maxRecDepth 100000 in
theorem lifted (os : Os) (started : os.Started) (H : Type) (enc : TypeId × Value → H) :
    ReturnsInHanded {} Try.checked os 5 .any (Rows.heapApartSpec.pre6 enc Try.prog Try.f5 Rows.heapApartRow.domain false) (Rows.heapApartSpec.post enc Try.prog Try.f5 false true false false) := by
  refine returnsInHanded_of_change (C := Try.checked) own_knob started (by kernel_rfl) Try.func5
    (ChangeSpec.witness6 (enc := enc) (C := Try.checked) false ⟨#[], #[.slice none 0 0, .slice none 0 0], []⟩ 8 (by kernel_rfl) (by kernel_rfl) (by kernel_rfl) (by kernel_rfl)) ?_
  intro W base args ds gs before hval0 hW _ _
  have hval : ∀ (j : Nat) t v, Try.f5.params[j]? = some t → args[j]? = some v → Value.okWide Try.prog W .any base t v := hval0
  have hW' := hW
  obtain ⟨p, q, hA0, hV, rfl, _, _⟩ := hW
  have hA : DataW.TrodAll enc Try.prog W 0 (fun _ => true) true Try.f5.params.toList args.toList ds p := hA0
  rw [Try.params5] at hA hval
  obtain ⟨v0, vs0, d0, ds0, p0, q0, hargs, rfl, rfl, h0, r0⟩ := trodAll_cons hA
  obtain ⟨v1, vs1, d1, ds1, p1, q1, rfl, rfl, rfl, h1, r1⟩ := trodAll_cons r0
  obtain ⟨rfl, rfl, rfl⟩ := trodAll_nil r1
  obtain rfl : args = #[v0, v1] := by cases args; simp_all
  obtain ⟨rfl, rfl⟩ := trodVars_none hV
  have hlt : ∀ x ∈ p0 ++ (p1), x.block < W.heap.size := fun x hx => hW'.lt x (by simpa using hx)
  obtain ⟨A0, n0, c0, rfl, hn0, hl0⟩ := open_items (okWide_slice Try.underlying26 (hval 0 26 v0 rfl rfl)) h0 (fun x hx => hlt x (by simp [hx]))
  obtain ⟨A1, n1, c1, rfl, hn1, hl1⟩ := open_items (okWide_slice Try.underlying26 (hval 1 26 v1 rfl rfl)) h1 (fun x hx => hlt x (by simp [hx]))
  refine (walk A0 n0 c0 A1 n1 c1 W hn0 hl0 hn1 hl1).mono fun e W' ⟨he, hg⟩ => ?_
  subst he
  exact ⟨_, rfl, law_post hW' rfl (by kernel_rfl) rfl (by kernel_rfl) hg⟩

theorem proved : Rows.HeapApartSaid :=
  OpenClaim.holds_of_wide 5 Try.f5 rfl rfl rfl rfl rfl rfl rfl ⟨rfl, rfl, rfl, rfl, rfl⟩ rfl rfl rfl rfl rfl (by kernel_rfl) Try.func5 (by kernel_rfl)
    (of_decide_eq_true (by kernel_rfl)) (by unfold Func.isWrapper; first | (rw [if_pos (by decide +kernel)]; kernel_rfl) | (rw [if_neg (by decide +kernel)]; exact ⟨rfl, rfl⟩))
    (fun os started H enc _ => lifted os started H enc)

end Go.Proofs.Ythppjkjaaekikaa.heapApart
