/- HeapTurned: for any items and any turn the call returns true: in whatever order items are pushed, they are popped in one. No condition. -/
import Derived.Test.YthppjkjaaekikaaHh
namespace Go.Proofs.Ythppjkjaaekikaa.heapTurned
open Go.ChangeShapes Go.WideShapes Go.ChangeAt Go.RowKit Go.Deep
theorem far (A : Option Addr) (n c by_ : Nat) (w : World) (h : 600 < n) (hn : n ≤ maxLen) : Calls Try.prog 8 #[.slice A n c, .int .u8 (by_ : Int)] w (LawOk w) := by
  unfold maxLen at hn
  have h1 : (600 : Int) < (n : Int) := by omega
  have HW := Lib.hid works_any
  go_enter Try.func8, Try.ntmps8
  go_wp2_with (go_at_call 17; refine (HW.out _).mono ?_; rintro e w1 ⟨rfl, hb1⟩)
  go_ret
  exact ⟨rfl, hb1⟩
def St (G H : Nat) (L : List Itm) (r : Nat) (W : World) (i : Nat) (w : World) : Prop := ∃ v l u m, Twin G H W w v l u m ∧ l.Perm (L.take i) ∧ m.Perm (turned L r i)
def Sp (G H : Nat) (n : Nat) (W : World) (i : Nat) (w : World) : Prop := ∃ v l u m, Twin G H W w v l u m ∧ l.Perm m ∧ l.length = n - i
set_option maxRecDepth 100000 in
set_option maxHeartbeats 8000000 in
theorem near (A : Option Addr) (L : List Itm) (c r : Nat) (w : World) (hs : ILs w.heap.size w A L) (hl : L.length ≤ 600) (hr : r < 256) : Calls Try.prog 8 #[.slice A L.length c, .int .u8 (r : Int)] w (LawOk w) := by
  have h1 : ¬ (600 : Int) < (L.length : Int) := by omega
  have HW := Lib.hid works_any
  have HS := Lib.hid hs
  clear hs
  go_enter Try.func8, Try.ntmps8
  go_wp2_with fail
  refine (new_hp w).mono ?_
  rintro e w1 ⟨rfl, k1, hb1⟩
  have K1 := Lib.hid k1
  have HB1 := Lib.hid hb1
  clear k1 hb1
  go_wp2_with fail
  refine (new_hp w1).mono ?_
  rintro e w2 ⟨rfl, k2, hb2⟩
  have HST : Hid (St w.heap.size w1.heap.size L r w 0 w2) := Lib.hid ⟨_, _, _, _, Twin.start K1.out HB1.out k2 hb2, List.Perm.refl _, List.Perm.refl _⟩
  have hgh : w.heap.size ≠ w1.heap.size := by have := K1.out.oi.lt; omega
  clear k2 hb2 K1 HB1
  generalize hGe : w.heap.size = G at *
  generalize w1.heap.size = H at *
  have HE := Lib.hid hGe
  clear hGe
  go_wp2_with fail
  go_loopw [7] (fun vi wr => ∃ i : Nat, vi = .int .i64 i ∧ i ≤ L.length ∧ Hid (St G H L r w i wr)) (fun vi _ => L.length - (intOf vi).toNat)
  case atStart => exact ⟨0, rfl, by omega, HST⟩
  case round =>
    obtain ⟨i, rfl, hi, HSt⟩ := hrel
    clear HST
    by_cases hlt : i < L.length
    · have h3 : (i : Int) < (L.length : Int) := by omega
      have h4 : (0 : Int) ≤ (i : Int) := by omega
      obtain ⟨v, l, u, m, hT, hl2, hm2⟩ := HSt.out
      obtain ⟨p, hp⟩ : ∃ p : Nat, p = (L.length - 1 - i + r) % L.length := ⟨_, rfl⟩
      have hpl : p < L.length := by rw [hp]; exact Nat.mod_lt _ (by omega)
      have hS0 : ILs w.heap.size w A L := by rw [HE.out]; exact HS.out
      obtain ⟨b, o, hA, hb, c0, c1⟩ := hS0.gt' hT.low i hlt
      obtain ⟨b', o', hA', hb', d0, d1⟩ := hS0.gt' hT.low p hpl
      have HTn := Lib.hid (turned_next L r i)
      rw [← hp] at HTn
      have HTk := Lib.hid (take_next hlt)
      have HLl := Lib.hid hl2
      have HLm := Lib.hid hm2
      have HT := Lib.hid hT
      have hla : l.length < 65536 := by rw [hl2.length_eq]; simp; omega
      have hma : m.length < 65536 := by rw [hm2.length_eq]; simp [turned]; omega
      have e1 : ((L.length : Int) - 1 - (i : Int) + (r : Int)) % (L.length : Int) = (p : Int) := by
        rw [hp]
        have : ((L.length : Int) - 1 - (i : Int) + (r : Int)) = ((L.length - 1 - i + r : Nat) : Int) := by omega
        rw [this]; rfl
      have e2 : ((L.length : Int) - 1 - (i : Int) + (r : Int)).tmod (L.length : Int) = (p : Int) := by rw [Int.tmod_eq_emod_of_nonneg (by omega)]; exact e1
      have n1 : (0 : Int) ≤ (p : Int) := by omega
      have n2 : (p : Int) < (L.length : Int) := by omega
      have HPl := Lib.hid hpl
      subst hA
      obtain ⟨rfl, rfl⟩ : b = b' ∧ o = o' := by simpa using hA'
      generalize hxe : gt L i = x at *
      have HPu := Lib.hid (push_hp G v l x wr HT.out.one hla)
      dsimp only [Itm.agg] at HPu
      have HMa := Lib.hid hma
      clear hT hl2 hm2 hp hlt hpl hb hb' hA' hS0 hla hma hxe d0 d1 HSt
      go_wp2_with fail
      refine HPu.out.mono ?_
      rintro e w3 ⟨rfl, v2, l2, k2, p2, s2⟩
      have HT3 := Lib.hid (HT.out.step1 k2 s2)
      have HP2 := Lib.hid p2
      have hS0 : ILs w.heap.size w (some ⟨b, o, none⟩) L := by rw [HE.out]; exact HS.out
      obtain ⟨b', o', hA', hb', d0, d1⟩ := hS0.gt' HT3.out.low p HPl.out
      obtain ⟨rfl, rfl⟩ : b = b' ∧ o = o' := by simpa using hA'
      generalize hye : gt L p = y at *
      have HPu2 := Lib.hid (push_hp H u m y w3 HT3.out.two HMa.out)
      dsimp only [Itm.agg] at HPu2
      clear k2 s2 p2 hS0 hA' hb' hye c0 c1
      go_wp2_with fail
      refine HPu2.out.mono ?_
      rintro e w4 ⟨rfl, u2, m2, k4, p4, s4⟩
      have HSt2 : Hid (St G H L r w (i + 1) w4) := Lib.hid ⟨v2, l2, u2, m2, HT3.out.step2 k4 s4, by rw [HTk.out]; exact HP2.out.trans (HLl.out.append_right _), by rw [HTn.out]; exact p4.trans (HLm.out.append_right _)⟩
      clear k4 p4 s4 e1 e2 n1 n2 d0 d1
      go_wp2_with fail
      go_roundw
      case rel => exact ⟨i + 1, by go_num, by omega, HSt2⟩
      case measure => simp [intOf]; omega
    · have h3 : ¬ (i : Int) < (L.length : Int) := by omega
      have hie : i = L.length := by omega
      subst hie
      obtain ⟨v, l, u, m, hT, hl2, hm2⟩ := HSt.out
      rw [List.take_length] at hl2
      have HSp : Hid (Sp G H L.length w 0 wr) := Lib.hid ⟨v, l, u, m, hT, hl2.trans (hm2.trans (turned_all L r)).symm, by rw [hl2.length_eq]; rfl⟩
      clear hi hlt hT hl2 hm2 HSt
      go_wp2_with fail
      go_loopw [8] (fun vi wr => ∃ i : Nat, vi = .int .i64 i ∧ i ≤ L.length + 1 ∧ Hid (Sp G H L.length w i wr)) (fun vi _ => L.length + 1 - (intOf vi).toNat)
      case atStart => exact ⟨0, rfl, by omega, HSp⟩
      case round =>
        clear HSp h3
        obtain ⟨i, rfl, hi, HSt⟩ := hrel
        obtain ⟨v, l, u, m, hT, hlm, hll⟩ := HSt.out
        have HT := Lib.hid hT
        have HLm := Lib.hid hlm
        have HLl := Lib.hid hll
        clear hT hlm hll HSt
        by_cases hlt : i ≤ L.length
        · have h3 : (i : Int) ≤ (L.length : Int) := by omega
          have HPo := Lib.hid (pop_said G v l wr HT.out.one (by rw [HLl.out]; omega))
          go_wp2_with fail
          refine HPo.out.mono ?_
          rintro e w3 ⟨v2, l2, x, q, rfl, k3, s3, r3⟩
          have HT3 := Lib.hid ((HT.out.step1 k3 s3).below ((Below.refl _ _).alloc (Nat.le_refl _) (.cells #[.int .u64 (x.key : Int), .int .u32 (x.id : Int)] 32)))
          have HT30 := Lib.hid (HT.out.step1 k3 s3)
          have HR3 := Lib.hid r3
          have HPo2 := Lib.hid (pop_said H u m _ HT3.out.two (by rw [← HLm.out.length_eq, HLl.out]; omega))
          clear k3 s3 r3 HPo
          dsimp only [Itm.agg]
          go_wp2_with fail
          refine HPo2.out.mono ?_
          rintro e w4 ⟨u4, m4, z, q4, rfl, k4, s4, r4⟩
          obtain ⟨rfl, rfl, hpm⟩ := HR3.out.one r4 HLm.out
          have hX4 : w4.heap[w3.heap.size]? = some (.cells x.cells 32 (0, 0)) := (s4.box (by simp) (by have := HT30.out.two.oi.lt; omega) (HT30.out.two.oi.not_new (Nat.le_refl _))).trans (heap_alloc_new _ _)
          have lx := (Array.getElem?_eq_some_iff.1 hX4).1
          have x0 : ∀ o, (w4.alloc o).cell? ⟨w3.heap.size, 0, none⟩ = some (.int .u64 (x.key : Int)) := fun o => by rw [World.cell?_alloc_past _ _ _ lx]; exact cell_of_row _ _ 0 _ _ _ hX4
          have x1 : ∀ o, (w4.alloc o).cell? ⟨w3.heap.size, 1, none⟩ = some (.int .u32 (x.id : Int)) := fun o => by rw [World.cell?_alloc_past _ _ _ lx]; exact cell_of_row _ _ 1 _ _ _ hX4
          have HT4 := Lib.hid ((HT3.out.step2 k4 s4).below ((Below.refl _ _).alloc (Nat.le_refl _) (.cells #[.int .u64 (x.key : Int), .int .u32 (x.id : Int)] 32)))
          have HSp4 : Hid (Sp G H L.length w (i + 1) (w4.alloc (.cells #[.int .u64 (x.key : Int), .int .u32 (x.id : Int)] 32))) := Lib.hid ⟨v2, l2, u4, m4, HT4.out, hpm, by
            rcases HR3.out with ⟨_, h5, _⟩ | ⟨_, h5, h6, _⟩
            · have := perm_len' h5; have := HLl.out; omega
            · have := HLl.out; rw [h5] at this; rw [h6]; simp at this ⊢; omega⟩
          by_cases hin : i < L.length
          · have hq : q = true := by
              rcases HR3.out with ⟨h5, _⟩ | ⟨_, h5, _⟩
              · exact h5
              · have := HLl.out; rw [h5] at this; simp at this; omega
            subst hq
            have g1 : decide ((i : Int) < (L.length : Int)) = true := by rw [decide_eq_true_iff]; omega
            have g2 : i < L.length := hin
            clear k4 s4 r4 hpm hX4 lx
            dsimp only [Itm.agg]
            go_wp2_with fail
            go_roundw
            case rel => exact ⟨i + 1, by go_num, by omega, HSp4⟩
            case measure => simp [intOf]; omega
          · have hq : q = false := by
              rcases HR3.out with ⟨_, h5, _⟩ | ⟨h5, _⟩
              · have := perm_len' h5; have := HLl.out; omega
              · exact h5
            subst hq
            have g1 : decide ((i : Int) < (L.length : Int)) = false := by rw [decide_eq_false_iff_not]; omega
            have g2 : ¬ (i : Int) < (L.length : Int) := by omega
            clear k4 s4 r4 hpm hX4 lx
            dsimp only [Itm.agg]
            go_wp2_with fail
            go_roundw
            case rel => exact ⟨i + 1, by go_num, by omega, HSp4⟩
            case measure => simp [intOf]; omega
        · have h3 : ¬ (i : Int) ≤ (L.length : Int) := by omega
          clear hlt hi
          go_wp2_with fail
          refine (HW.out _).mono ?_
          rintro e w7 ⟨rfl, hb7⟩
          go_wp2_with fail
          go_ret
          exact ⟨rfl, HT.out.low.trans (hb7.mono HT.out.low.size)⟩
theorem walk (A : Option Addr) (n c r : Nat) (w : World) (hn : n ≤ maxLen) (hf : n ≤ 4611686018427387904 → ∃ l : List Itm, l.length = n ∧ ILs w.heap.size w A l) (hr : r < 256) : Calls Try.prog 8 #[.slice A n c, .int .u8 (r : Int)] w (LawOk w) := by
  by_cases h : 600 < n
  · exact far A n c r w h hn
  · obtain ⟨l, rfl, hl⟩ := hf (by omega)
    exact near A l c r w hl (by omega) hr

set_option maxRecDepth 100000 in
theorem lifted (os : Os) (started : os.Started) (H : Type) (enc : TypeId × Value → H) :
    ReturnsInHanded {} Try.checked os 8 .any (Rows.heapTurnedSpec.pre6 enc Try.prog Try.f8 Rows.heapTurnedRow.domain false) (Rows.heapTurnedSpec.post enc Try.prog Try.f8 false true false false) := by
  refine returnsInHanded_of_change (C := Try.checked) own_knob started (by kernel_rfl) Try.func8
    (ChangeSpec.witness6 (enc := enc) (C := Try.checked) false ⟨#[], #[.slice none 0 0, .int .u8 0], []⟩ 8 (by kernel_rfl) (by kernel_rfl) (by kernel_rfl) (by kernel_rfl)) ?_
  intro W base args ds gs before hval0 hW _ _
  have hval : ∀ (j : Nat) t v, Try.f8.params[j]? = some t → args[j]? = some v → Value.okWide Try.prog W .any base t v := hval0
  have hW' := hW
  obtain ⟨p, q, hA0, hV, rfl, _, _⟩ := hW
  have hA : DataW.TrodAll enc Try.prog W 0 (fun _ => true) true Try.f8.params.toList args.toList ds p := hA0
  rw [Try.params8] at hA hval
  obtain ⟨v0, vs0, d0, ds0, p0, q0, hargs, rfl, rfl, h0, r0⟩ := trodAll_cons hA
  obtain ⟨v1, vs1, d1, ds1, p1, q1, rfl, rfl, rfl, h1, r1⟩ := trodAll_cons r0
  obtain ⟨rfl, rfl, rfl⟩ := trodAll_nil r1
  obtain rfl : args = #[v0, v1] := by cases args; simp_all
  obtain ⟨rfl, rfl⟩ := trodVars_none hV
  have hlt : ∀ x ∈ p0 ++ (p1), x.block < W.heap.size := fun x hx => hW'.lt x (by simpa using hx)
  obtain ⟨A0, n0, c0, rfl, hn0, hl0⟩ := open_items (okWide_slice Try.underlying26 (hval 0 26 v0 rfl rfl)) h0 (fun x hx => hlt x (by simp [hx]))
  obtain ⟨z1, rfl, rfl, rfl, w1⟩ := open_int Try.underlying5 (hval 1 5 v1 rfl rfl) h1
  obtain ⟨x1, rfl, hx1⟩ := u8_bounds w1
  refine (walk A0 n0 c0 x1 W hn0 hl0 hx1).mono fun e W' ⟨he, hg⟩ => ?_
  subst he
  exact ⟨_, rfl, law_post hW' rfl (by kernel_rfl) rfl (by kernel_rfl) hg⟩

theorem proved : Rows.HeapTurnedSaid :=
  OpenClaim.holds_of_wide 8 Try.f8 rfl rfl rfl rfl rfl rfl rfl ⟨rfl, rfl, rfl, rfl, rfl⟩ rfl rfl rfl rfl rfl (by kernel_rfl) Try.func8 (by kernel_rfl)
    (of_decide_eq_true (by kernel_rfl)) (by unfold Func.isWrapper; first | (rw [if_pos (by decide +kernel)]; kernel_rfl) | (rw [if_neg (by decide +kernel)]; exact ⟨rfl, rfl⟩))
    (fun os started H enc _ => lifted os started H enc)

end Go.Proofs.Ythppjkjaaekikaa.heapTurned
