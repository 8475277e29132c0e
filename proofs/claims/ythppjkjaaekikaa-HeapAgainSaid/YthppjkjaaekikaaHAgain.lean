/- HeapAgain: for any items and any number of times the call returns true: what was popped, and is pushed again, is popped again. No condition. -/
import Derived.Test.YthppjkjaaekikaaHh
import Derived.BigQuiet
import Derived.Deep.QuietTactic
namespace Go.Proofs.Ythppjkjaaekikaa.heapAgain
open Go.ChangeShapes Go.WideShapes Go.ChangeAt Go.RowKit Go.Deep
theorem far (A : Option Addr) (n c r : Nat) (w : World) (h : 600 < n ∨ n = 0) (hn : n ≤ maxLen) : Calls Try.prog 9 #[.slice A n c, .int .u8 (r : Int)] w (LawOk w) := by
  unfold maxLen at hn
  have HW := Lib.hid works_any
  by_cases h0 : n = 0
  · subst h0
    clear h
    go_enter Try.func9, Try.ntmps9
    go_wp2_with (go_at_call 17; refine (HW.out _).mono ?_; rintro e w1 ⟨rfl, hb1⟩)
    go_ret
    exact ⟨rfl, hb1⟩
  · have h1 : (600 : Int) < (n : Int) := by omega
    clear h h0
    go_enter Try.func9, Try.ntmps9
    go_wp2_with (go_at_call 17; refine (HW.out _).mono ?_; rintro e w1 ⟨rfl, hb1⟩)
    go_ret
    exact ⟨rfl, hb1⟩
def Pushed (H : Nat) (L : List Itm) (W : World) (i : Nat) (w : World) : Prop := ∃ v l, HP H w v l ∧ l.Perm (L.take i) ∧ Below W.heap.size W w
/-- the least one is out; its box -/
def Out (H B : Nat) (L : List Itm) (x : Itm) (W w : World) : Prop := ∃ v m, HP H w v m ∧ (m ++ [x]).Perm L ∧ Below W.heap.size W w ∧ w.heap[B]? = some (.cells x.cells 32 (0, 0)) ∧ ∀ j, v.ownBlock = some j → j ≠ B
set_option maxRecDepth 100000 in
set_option maxHeartbeats 8000000 in
theorem near (A : Option Addr) (L : List Itm) (c r : Nat) (w : World) (hs : ILs w.heap.size w A L) (hl : L.length ≤ 600) (h0 : L.length ≠ 0) (hr : r < 256) : Calls Try.prog 9 #[.slice A L.length c, .int .u8 (r : Int)] w (LawOk w) := by
  have h1 : ¬ (600 : Int) < (L.length : Int) := by omega
  have g0 : ((L.length : Int) == 0) = false := by rw [beq_eq_false_iff_ne]; omega
  have HW := Lib.hid works_any
  have HS := Lib.hid hs
  have HN0 := Lib.hid h0
  clear hs h0
  go_enter Try.func9, Try.ntmps9
  go_wp2_with fail
  refine (new_hp w).mono ?_
  rintro e w1 ⟨rfl, k1, hb1⟩
  have HST : Hid (Pushed w.heap.size L w 0 w1) := Lib.hid ⟨_, _, k1, List.Perm.refl _, hb1⟩
  clear k1 hb1 g0
  go_wp2_with fail
  go_loopw [6] (fun vi wr => ∃ i : Nat, vi = .int .i64 i ∧ i ≤ L.length ∧ Hid (Pushed w.heap.size L w i wr)) (fun vi _ => L.length - (intOf vi).toNat)
  case atStart => exact ⟨0, rfl, by omega, HST⟩
  case round =>
    obtain ⟨i, rfl, hi, HPd⟩ := hrel
    clear HST
    by_cases hlt : i < L.length
    · have h2 : (i : Int) < (L.length : Int) := by omega
      have h4 : (0 : Int) ≤ (i : Int) := by omega
      obtain ⟨v, l, hp, hpm, hlow⟩ := HPd.out
      obtain ⟨b, o, hA, hb, c0, c1⟩ := HS.out.gt' hlow i hlt
      subst hA
      have HT := Lib.hid (take_next hlt)
      have HL6 := Lib.hid (show l.length < 65536 by rw [hpm.length_eq]; simp; omega)
      generalize gt L i = x at *
      have HQ := Lib.hid hp
      have HPm := Lib.hid hpm
      have HLow := Lib.hid hlow
      have HPu := Lib.hid (push_hp _ v l x wr HQ.out HL6.out)
      dsimp only [Itm.agg] at HPu
      clear hp hpm hlow hlt hb HPd
      generalize hHe : w.heap.size = H at *
      have HE := Lib.hid hHe
      clear hHe
      go_wp2_with fail
      refine HPu.out.mono ?_
      rintro e w2 ⟨rfl, v2, l2, k2, p2, s2⟩
      have HPd2 : Hid (Pushed H L w (i + 1) w2) := Lib.hid ⟨v2, l2, k2, by rw [HT.out]; exact p2.trans (HPm.out.append_right _), s2.low (by rw [HE.out]; exact HLow.out) HQ.out.oi (Nat.le_of_eq HE.out)⟩
      clear k2 p2 s2
      go_wp2_with fail
      go_roundw
      case rel => exact ⟨i + 1, by go_num, by omega, HPd2⟩
      case measure => simp [intOf]; omega
    · have h2 : ¬ (i : Int) < (L.length : Int) := by omega
      have hie : i = L.length := by omega
      subst hie
      obtain ⟨v, l, hp, hpm, hlow⟩ := HPd.out
      rw [List.take_length] at hpm
      have HQ := Lib.hid hp
      have HPm := Lib.hid hpm
      have HLow := Lib.hid hlow
      have HPo := Lib.hid (pop_hp _ v l wr hp (by rw [hpm.length_eq]; have := HN0.out; omega) (by rw [hpm.length_eq]; omega))
      clear hp hpm hlow hi hlt HPd
      go_wp2_with fail
      refine HPo.out.mono ?_
      rintro e w3 ⟨v3, m3, x, rfl, k3, p3, l3, s3⟩
      have HLe : Hid (Least L x) := Lib.hid ⟨HPm.out.mem_iff.1 l3.1, fun y hy => l3.2 y (HPm.out.mem_iff.2 hy)⟩
      have HO0 : Hid (Out w.heap.size w3.heap.size L x w (w3.alloc (.cells #[.int .u64 (x.key : Int), .int .u32 (x.id : Int)] 32))) := Lib.hid ⟨v3, m3, k3.below ((Below.refl _ _).alloc (Nat.le_refl _) _), p3.trans HPm.out, (s3.low HLow.out HQ.out.oi (Nat.le_refl _)).alloc (s3.low HLow.out HQ.out.oi (Nat.le_refl _)).size _, heap_alloc_new _ _, k3.oi.not_new (Nat.le_refl _)⟩
      have hHB : w.heap.size < w3.heap.size := k3.oi.lt
      clear k3 p3 l3 s3 HPo HQ HPm HLow h2
      dsimp only [Itm.agg]
      go_wp2_with fail
      generalize hBe : w3.heap.size = B at *
      have HBe := Lib.hid hBe
      clear hBe
      generalize hHe : w.heap.size = H at *
      have HE := Lib.hid hHe
      clear hHe
      go_loopw [9] (fun vi wr => ∃ i : Nat, vi = .int .i64 i ∧ i ≤ r ∧ Hid (Out H B L x w wr)) (fun vi _ => r - (intOf vi).toNat)
      case atStart => exact ⟨0, rfl, by omega, HO0⟩
      case round =>
        clear HO0
        obtain ⟨i, rfl, hi, HOu⟩ := hrel
        obtain ⟨v, m, k, hp, hlow, hbox, hnb⟩ := HOu.out
        have hml : m.length + 1 = L.length := perm_len' hp
        have HK := Lib.hid k
        have HPm := Lib.hid hp
        have HLow := Lib.hid hlow
        have HBox := Lib.hid hbox
        have HNb := Lib.hid hnb
        have b0 : wr.cell? ⟨B, 0, none⟩ = some (.int .u64 (x.key : Int)) := cell_of_row _ _ 0 _ _ _ hbox
        have b1 : wr.cell? ⟨B, 1, none⟩ = some (.int .u32 (x.id : Int)) := cell_of_row _ _ 1 _ _ _ hbox
        have HOw := HOu
        clear k hp hlow hbox hnb HOu
        by_cases hlt : i < r
        · have h2 : (i : Int) < (r : Int) := by omega
          have HPu := Lib.hid (push_hp H v m x wr HK.out (by omega))
          dsimp only [Itm.agg] at HPu
          have HML := Lib.hid hml
          clear hml HOw
          go_wp2_with fail
          refine HPu.out.mono ?_
          rintro e w4 ⟨rfl, v4, l4, k4, p4, s4⟩
          have HP4 : Hid (l4.Perm L) := Lib.hid (p4.trans HPm.out)
          have HK4 := Lib.hid k4
          have HLow4 := Lib.hid (s4.low HLow.out HK.out.oi (Nat.le_of_eq HE.out))
          have HBox4 := Lib.hid ((s4.box (Array.getElem?_eq_some_iff.1 HBox.out).1 (by omega) HNb.out).trans HBox.out)
          have HNb4 := Lib.hid (s4.not_old (Array.getElem?_eq_some_iff.1 HBox.out).1 HNb.out)
          have HLn4 := Lib.hid (len_ho H v4 l4 w4 k4.oi)
          rw [HP4.out.length_eq] at HLn4
          have HPo4 := Lib.hid (pop_hp H v4 l4 w4 k4 (by rw [HP4.out.length_eq]; have := HML.out; omega) (by rw [HP4.out.length_eq]; omega))
          clear k4 p4 s4 HPu b0 b1
          go_wp2_with (go_at_call 15; refine HLn4.out.mono ?_; rintro e w7 ⟨rfl, rfl⟩)
          refine HPo4.out.mono ?_
          rintro e w5 ⟨v5, m5, y, rfl, k5, p5, l5, s5⟩
          have hy : y = x := least_one HP4.out l5 HLe.out
          subst hy
          have hbox5 := (s5.box (Array.getElem?_eq_some_iff.1 HBox4.out).1 (by omega) HNb4.out).trans HBox4.out
          have lb5 := (Array.getElem?_eq_some_iff.1 hbox5).1
          have b0 : ∀ o, (w5.alloc o).cell? ⟨B, 0, none⟩ = some (.int .u64 (y.key : Int)) := fun o => by rw [World.cell?_alloc_past _ _ _ lb5]; exact cell_of_row _ _ 0 _ _ _ hbox5
          have b1 : ∀ o, (w5.alloc o).cell? ⟨B, 1, none⟩ = some (.int .u32 (y.id : Int)) := fun o => by rw [World.cell?_alloc_past _ _ _ lb5]; exact cell_of_row _ _ 1 _ _ _ hbox5
          have hlo5 := s5.low HLow4.out HK4.out.oi (Nat.le_of_eq HE.out)
          have HO5 : Hid (Out H B L y w (w5.alloc (.cells #[.int .u64 (y.key : Int), .int .u32 (y.id : Int)] 32))) := Lib.hid ⟨v5, m5, k5.below ((Below.refl _ _).alloc (Nat.le_refl _) _), p5.trans HP4.out, hlo5.alloc hlo5.size _,
            (((Below.refl _ _).alloc (Nat.le_refl _) _).block B lb5).trans hbox5, s5.not_old (Array.getElem?_eq_some_iff.1 HBox4.out).1 HNb4.out⟩
          clear k5 p5 l5 s5 hbox5 lb5 hlo5 HPo4 HLn4
          dsimp only [Itm.agg]
          go_wp2_with fail
          go_roundw
          case rel => exact ⟨i + 1, by go_num, by omega, HO5⟩
          case measure => simp [intOf]; omega
        · have h2 : ¬ (i : Int) < (r : Int) := by omega
          clear hlt hi b0 b1 hml HK HPm HLow HBox HNb
          go_wp2_with fail
          go_loopw [12] (fun vi wr => ∃ i : Nat, vi = .int .i64 i ∧ i ≤ L.length ∧ Hid (Out H B L x w wr)) (fun vi _ => L.length - (intOf vi).toNat)
          case atStart => exact ⟨0, rfl, by omega, HOw⟩
          case round =>
            clear HOw h2
            obtain ⟨i, rfl, hi, HOu⟩ := hrel
            obtain ⟨v, m, k, hp, hlow, hbox, hnb⟩ := HOu.out
            have hml : m.length + 1 = L.length := perm_len' hp
            by_cases hlt : i < L.length
            · have h2 : (i : Int) < (L.length : Int) := by omega
              have h4 : (0 : Int) ≤ (i : Int) := by omega
              have hS0 : ILs w.heap.size w A L := by rw [HE.out]; exact HS.out
              obtain ⟨b, o, hA, hb, c0, c1⟩ := hS0.gt' hlow i hlt
              subst hA
              have b0 : wr.cell? ⟨B, 0, none⟩ = some (.int .u64 (x.key : Int)) := cell_of_row _ _ 0 _ _ _ hbox
              have b1 : wr.cell? ⟨B, 1, none⟩ = some (.int .u32 (x.id : Int)) := cell_of_row _ _ 1 _ _ _ hbox
              have hle : x.r ≤ (gt L i).r := HLe.out.2 _ (by rw [gt_eq hlt]; exact List.getElem_mem hlt)
              generalize gt L i = y at *
              have hyk : x.key ≤ y.key := by have := x.hid; have := y.hid; unfold Itm.r at hle; omega
              have g2 : decide ((y.key : Int) < (x.key : Int)) = false := by rw [decide_eq_false_iff_not]; omega
              have g2n : decide (y.key < x.key) = false := by rw [decide_eq_false_iff_not]; omega
              have HON : ∀ n, Hid (Out H B L x w (wr.drewN n)) := fun n => Lib.hid ⟨v, m, k.below (below_drewN (Below.refl _ _) n), hp, below_drewN hlow n, hbox, hnb⟩
              have HON' := Lib.hid HON
              clear HON hS0 hb hlow hbox hnb k hp HOu hml
              by_cases hk : y.key = x.key
              · have hyi : x.id ≤ y.id := by unfold Itm.r at hle; omega
                have g3 : ((y.key : Int) == (x.key : Int)) = true := by rw [beq_iff_eq]; omega
                have g4 : decide ((y.id : Int) < (x.id : Int)) = false := by rw [decide_eq_false_iff_not]; omega
                have g4n : decide (y.id < x.id) = false := by rw [decide_eq_false_iff_not]; omega
                clear hle hk hlt
                go_wp2_with fail
                go_quiet (fail)
                go_wp2_with fail
                go_roundw
                case rel => exact ⟨i + 1, by go_num, by omega, HON'.out _⟩
                case measure => simp [intOf]; omega
              · have g3 : ((y.key : Int) == (x.key : Int)) = false := by rw [beq_eq_false_iff_ne]; omega
                clear hle hk hlt
                go_wp2_with fail
                go_quiet (fail)
                go_wp2_with fail
                go_roundw
                case rel => exact ⟨i + 1, by go_num, by omega, HON'.out _⟩
                case measure => simp [intOf]; omega
            · have h2 : ¬ (i : Int) < (L.length : Int) := by omega
              have e4 : (L.length : Int) - 1 = (m.length : Int) := by omega
              have HLn := Lib.hid (len_ho H v m wr k.oi)
              have HLow := Lib.hid hlow
              clear k hp hlow hbox hnb hlt hi HOu hml
              go_wp2_with (first | (go_at_call 15; refine HLn.out.mono ?_; rintro e w7 ⟨rfl, rfl⟩) | (go_at_call 17; refine (HW.out _).mono ?_; rintro e w8 ⟨rfl, hb8⟩))
              go_ret
              exact ⟨rfl, HLow.out.trans (hb8.mono HLow.out.size)⟩
theorem walk (A : Option Addr) (n c r : Nat) (w : World) (hn : n ≤ maxLen) (hf : n ≤ 4611686018427387904 → ∃ l : List Itm, l.length = n ∧ ILs w.heap.size w A l) (hr : r < 256) : Calls Try.prog 9 #[.slice A n c, .int .u8 (r : Int)] w (LawOk w) := by
  by_cases h : 600 < n ∨ n = 0
  · exact far A n c r w h hn
  · obtain ⟨l, rfl, hl⟩ := hf (by omega)
    exact near A l c r w hl (by omega) (by omega) hr

set_option maxRecDepth 100000 in
theorem lifted (os : Os) (started : os.Started) (H : Type) (enc : TypeId × Value → H) :
    ReturnsInHanded {} Try.checked os 9 .any (Rows.heapAgainSpec.pre6 enc Try.prog Try.f9 Rows.heapAgainRow.domain false) (Rows.heapAgainSpec.post enc Try.prog Try.f9 false true false false) := by
  refine returnsInHanded_of_change (C := Try.checked) own_knob started (by kernel_rfl) Try.func9
    (ChangeSpec.witness6 (enc := enc) (C := Try.checked) false ⟨#[], #[.slice none 0 0, .int .u8 0], []⟩ 8 (by kernel_rfl) (by kernel_rfl) (by kernel_rfl) (by kernel_rfl)) ?_
  intro W base args ds gs before hval0 hW _ _
  have hval : ∀ (j : Nat) t v, Try.f9.params[j]? = some t → args[j]? = some v → Value.okWide Try.prog W .any base t v := hval0
  have hW' := hW
  obtain ⟨p, q, hA0, hV, rfl, _, _⟩ := hW
  have hA : DataW.TrodAll enc Try.prog W 0 (fun _ => true) true Try.f9.params.toList args.toList ds p := hA0
  rw [Try.params9] at hA hval
  obtain ⟨v0, vs0, d0, ds0, p0, q0, hargs, rfl, rfl, h0, r0⟩ := trodAll_cons hA
  obtain ⟨v1, vs1, d1, ds1, p1, q1, rfl, rfl, rfl, h1, r1⟩ := trodAll_cons r0
  obtain ⟨rfl, rfl, rfl⟩ := trodAll_nil r1
  obtain rfl : args = #[v0, v1] := by cases args; simp_all
  obtain ⟨rfl, rfl⟩ := trodVars_none hV
  have hlt : ∀ x ∈ p0 ++ (p1), x.block < W.heap.size := fun x hx => hW'.lt x (by simpa using hx)
  obtain ⟨A0, n0, c0, rfl, hn0, hl0⟩ := open_items (okWide_slice Try.underlying26 (hval 0 26 v0 rfl rfl)) h0 (fun x hx => hlt x (by simp [hx]))
  obtain ⟨z1, rfl, rfl, rfl, w1⟩ := open_int Try.underlying5 (hval 1 5 v1 rfl rfl) h1
  obtain ⟨x1, rfl, hx1⟩ := u8_bounds w1
  refine (walk A0 n0 c0 x1 W hn0 hl0 hx1).mono fun e W' ⟨he, hg⟩ => ?_
  subst he
  exact ⟨_, rfl, law_post hW' rfl (by kernel_rfl) rfl (by kernel_rfl) hg⟩

theorem proved : Rows.HeapAgainSaid :=
  OpenClaim.holds_of_wide 9 Try.f9 rfl rfl rfl rfl rfl rfl rfl ⟨rfl, rfl, rfl, rfl, rfl⟩ rfl rfl rfl rfl rfl (by kernel_rfl) Try.func9 (by kernel_rfl)
    (of_decide_eq_true (by kernel_rfl)) (by unfold Func.isWrapper; first | (rw [if_pos (by decide +kernel)]; kernel_rfl) | (rw [if_neg (by decide +kernel)]; exact ⟨rfl, rfl⟩))
    (fun os started H enc _ => lifted os started H enc)

end Go.Proofs.Ythppjkjaaekikaa.heapAgain
