/- HeapSorts: for any items the call returns true: what was pushed is popped in order, each item as often as it was pushed, and then nothing. No condition. -/
import Derived.Test.YthppjkjaaekikaaHx
import Derived.BigQuiet
import Derived.Deep.QuietTactic
namespace Go.Proofs.Ythppjkjaaekikaa.heapSorts
open Go.ChangeShapes Go.WideShapes Go.ChangeAt Go.RowKit Go.Deep
theorem far (A : Option Addr) (n c : Nat) (w : World) (h : 600 < n) (hn : n ≤ maxLen) : Calls Try.prog 4 #[.slice A n c] w (LawOk w) := by
  unfold maxLen at hn
  have h1 : (600 : Int) < (n : Int) := by omega
  have HW := Lib.hid works_any
  go_enter Try.func4, Try.ntmps4
  go_wp2_with (go_at_call 17; refine (HW.out _).mono ?_; rintro e w1 ⟨rfl, hb1⟩)
  go_ret
  exact ⟨rfl, hb1⟩
/-- behind so many Pushes -/
def Pushed (H : Nat) (L : List Itm) (W : World) (i : Nat) (w : World) : Prop := ∃ v l, HP H w v l ∧ l.Perm (L.take i) ∧ Below W.heap.size W w
/-- behind so many Pops: of the heap is left what is not taken; the last one is ahead of all -/
structure Popped (H G B : Nat) (L : List Itm) (W : World) (i : Nat) (w : World) (v : Value) (m : List Itm) (t : List Bool) (y : Itm) : Prop where
  hp : HP H w v m
  row : BLs w (H + 1) (.slice (some ⟨G, 0, none⟩) L.length L.length) t
  box : w.heap[B]? = some (.cells y.cells 32 (0, 0))
  len : t.length = L.length
  perm : m.Perm (untaken L t)
  left : m.length + i = L.length
  order : 0 < i → ∀ x ∈ m, y.r ≤ x.r
  notB : ∀ j, v.ownBlock = some j → j ≠ B
  notG : ∀ j, v.ownBlock = some j → j ≠ G
  low : Below W.heap.size W w
theorem Popped.next {H G B a i : Nat} {L : List Itm} {W wr V : World} {v5 v6 : Value} {m m6 : List Itm} {t : List Bool} {x y : Itm} (h0 : Popped H G B L W i wr v5 m t y)
    (hp : HP H V v6 m6) (row : BLs V (H + 1) (.slice (some ⟨G, 0, none⟩) t.length L.length) t) (box : V.heap[B]? = some (.cells y.cells 32 (0, 0)))
    (hperm : (m6 ++ [x]).Perm m) (hleast : Least m x) (ha : a < L.length) (ht : gtB t a = false) (hx : gt L a = x) (notB : ∀ j, v6.ownBlock = some j → j ≠ B) (notG : ∀ j, v6.ownBlock = some j → j ≠ G)
    (low : Below W.heap.size W V) (hH : W.heap.size ≤ H) (hHG : H < G) (hGB : G < B) :
    Popped H G B L W (i + 1) (((V.setCell ⟨G, a, none⟩ (.bool true)).setCell ⟨B, 0, none⟩ (.int .u64 (x.key : Int))).setCell ⟨B, 1, none⟩ (.int .u32 (x.id : Int))) v6 m6 (t.set a true) x := by
  have hu := untaken_set L t a ha ht
  rw [hx] at hu
  have h1 : (x :: m6).Perm (x :: untaken L (t.set a true)) := (List.perm_append_singleton x m6).symm.trans (hperm.trans (h0.perm.trans hu.symm))
  have e0 := heap_setCell_same _ B 0 _ _ (.int .u64 (x.key : Int)) ((heap_setCell_other V ⟨G, a, none⟩ B (.bool true) (by show B ≠ G; omega)).trans box)
  have e1 := heap_setCell_same _ B 1 _ _ (.int .u32 (x.id : Int)) e0
  refine ⟨((hp.set (by omega) notG a _).set (by omega) notB 0 _).set (by omega) notB 1 _, ?_, e1, by rw [List.length_set]; exact h0.len, (List.perm_cons x).1 h1, ?_, fun _ z hz => hleast.2 z (hperm.mem_iff.1 (List.mem_append_left _ hz)), notB, notG,
    ((low.setCell (p := ⟨G, a, none⟩) (by show W.heap.size ≤ G; omega) _).setCell (p := ⟨B, 0, none⟩) (by show W.heap.size ≤ B; omega) _).setCell (p := ⟨B, 1, none⟩) (by show W.heap.size ≤ B; omega) _⟩
  · have h2 := row.set a true
    rw [h0.len] at h2
    refine OwnS.same h2 fun k hk => ?_
    have : k = G := by simpa [Value.ownBlock] using hk.symm
    subst this
    rw [heap_setCell_other _ _ _ _ (by show k ≠ B; omega), heap_setCell_other _ _ _ _ (by show k ≠ B; omega)]
  · have := perm_len' hperm; have := h0.left; omega
set_option maxRecDepth 100000 in
set_option maxHeartbeats 8000000 in
theorem near (A : Option Addr) (L : List Itm) (c : Nat) (w : World) (hs : ILs w.heap.size w A L) (hl : L.length ≤ 600) : Calls Try.prog 4 #[.slice A L.length c] w (LawOk w) := by
  have h1 : ¬ (600 : Int) < (L.length : Int) := by omega
  have HW := Lib.hid works_any
  have HS := Lib.hid hs
  clear hs
  go_enter Try.func4, Try.ntmps4
  go_wp2_with fail
  refine (new_hp w).mono ?_
  rintro e w1 ⟨rfl, h1, hb1⟩
  have HST : Hid (Pushed w.heap.size L w 0 w1) := Lib.hid ⟨_, _, h1, List.Perm.refl _, hb1⟩
  clear h1 hb1
  go_wp2_with fail
  go_loopw [4] (fun vi wr => ∃ i : Nat, vi = .int .i64 i ∧ i ≤ L.length ∧ Hid (Pushed w.heap.size L w i wr)) (fun vi _ => L.length - (intOf vi).toNat)
  case atStart => exact ⟨0, rfl, by omega, HST⟩
  case round =>
    obtain ⟨i, rfl, hi, HPd⟩ := hrel
    clear HST
    by_cases hlt : i < L.length
    · have h2 : (i : Int) < (L.length : Int) := by omega
      have h4 : (0 : Int) ≤ (i : Int) := by omega
      obtain ⟨v, l, hp, hpm, hlow⟩ := HPd.out
      obtain ⟨b, o, hA, hb, c0, c1⟩ := HS.out.gt' hlow i hlt
      subst hA
      have HT := Lib.hid (take_next hlt)
      have HL6 := Lib.hid (show l.length < 65536 by rw [hpm.length_eq]; simp; omega)
      generalize gt L i = x at *
      have HQ := Lib.hid hp
      have HPm := Lib.hid hpm
      have HLow := Lib.hid hlow
      have HPu := Lib.hid (push_hp _ v l x wr HQ.out HL6.out)
      dsimp only [Itm.agg] at HPu
      clear hp hpm hlow hlt hb HPd
      generalize hHe : w.heap.size = H at *
      have HE := Lib.hid hHe
      clear hHe
      go_wp2_with fail
      refine HPu.out.mono ?_
      rintro e w2 ⟨rfl, v2, l2, k2, p2, s2⟩
      have HPd2 : Hid (Pushed H L w (i + 1) w2) := Lib.hid ⟨v2, l2, k2, by rw [HT.out]; exact p2.trans (HPm.out.append_right _), s2.low (by rw [HE.out]; exact HLow.out) HQ.out.oi (Nat.le_of_eq HE.out)⟩
      clear k2 p2 s2
      go_wp2_with fail
      go_roundw
      case rel => exact ⟨i + 1, by go_num, by omega, HPd2⟩
      case measure => simp [intOf]; omega
    · have h2 : ¬ (i : Int) < (L.length : Int) := by omega
      have hie : i = L.length := by omega
      subst hie
      obtain ⟨i0, hi0, hz0, hz1, hz2⟩ := info_parts bool_info
      have HI := Lib.hid hi0
      have HZ := Lib.hid hz0
      have HZ1 := Lib.hid hz1
      have HZ2 := Lib.hid hz2
      clear hi0 hz0 hz1 hz2 hi hlt
      obtain ⟨v, l, hp, hpm, hlow⟩ := HPd.out
      have HQ := Lib.hid hp
      have HPm : Hid (l.Perm L) := Lib.hid (by rw [List.take_length] at hpm; exact hpm)
      have HLow := Lib.hid hlow
      have hlt := hp.oi.lt
      clear hp hpm hlow HPd
      generalize hHe : w.heap.size = H at *
      have HE := Lib.hid hHe
      clear hHe
      go_wp2_with (at_make; refine wpList_make_full _ rfl _ _ 42 rfl (H + 1) 4 i0 (.bool false) 1 Try.underlying42 HI.out HZ.out HZ1.out .i64 .i64 _ _ L.length rfl rfl rfl rfl (by rw [HZ2.out]; omega) (by simp only [maxLen]; omega) (by omega) ?_; intro w3 hown hgrow)
      have hb3 : Below wr.heap.size wr w3 := ⟨hgrow.os, hgrow.tape, hgrow.output, hgrow.size, fun k hk => hgrow.block k hk (by simp)⟩
      have hG3 : wr.heap.size < w3.heap.size := (World.ownsRow.lt hown _ rfl).2
      have hLw : Below w.heap.size w wr := by rw [HE.out]; exact HLow.out
      have hPP : Popped H wr.heap.size w3.heap.size L w 0 (w3.alloc (.cells #[.int .u64 0, .int .u32 0] 32)) v l (List.replicate L.length false) Itm.nil :=
        ⟨(HQ.out.below hb3).below ((Below.refl _ _).alloc (Nat.le_refl _) _), (BLs.made hown).alloc _, heap_alloc_new _ _, by simp, by rw [untaken_none]; exact HPm.out, by rw [HPm.out.length_eq]; rfl, (fun h => absurd h (by omega)),
          HQ.out.oi.not_new (by omega), HQ.out.oi.not_new (Nat.le_refl _), (hLw.trans (hb3.mono hLw.size)).alloc (Nat.le_trans hLw.size hb3.size) _⟩
      have HPP := Lib.hid hPP
      have hGB : wr.heap.size < w3.heap.size := hG3
      have hHG : H < wr.heap.size := hlt
      clear hown hgrow hb3 hPP hG3 hLw HQ HPm HLow HI HZ HZ1 HZ2 hlt h2
      generalize hGe : wr.heap.size = G at *
      generalize hBe : w3.heap.size = B at *
      clear hGe hBe
      go_loopw [7] (fun vi wq => ∃ i : Nat, vi = .int .i64 i ∧ i ≤ L.length ∧ Hid (∃ v m t y, Popped H G B L w i wq v m t y)) (fun vi _ => L.length - (intOf vi).toNat)
      case atStart => exact ⟨0, rfl, by omega, _, _, _, _, HPP.out⟩
      case round =>
        obtain ⟨i, rfl, hi, HPQ⟩ := hrel
        clear HPP
        by_cases hlt : i < L.length
        · have h2 : (i : Int) < (L.length : Int) := by omega
          have h4 : (0 : Int) ≤ (i : Int) := by omega
          obtain ⟨v5, m, t, y, hP⟩ := HPQ.out
          have HP0 := Lib.hid hP
          have hml : m.length ≤ 600 := by have := hP.left; omega
          have hm0 : 0 < m.length := by have := hP.left; omega
          have HQ := Lib.hid hP.hp
          have HPop := Lib.hid (pop_hp H v5 m wr HQ.out hm0 (by omega))
          clear hP HPQ hml hm0
          go_wp2_with fail
          refine HPop.out.mono ?_
          rintro e w5 ⟨v6, m6, x, rfl, k6, p6, l6, s6⟩
          have hbox : w5.heap[B]? = some (.cells y.cells 32 (0, 0)) := (s6.box (Array.getElem?_eq_some_iff.1 HP0.out.box).1 (by omega) HP0.out.notB).trans HP0.out.box
          have lb := (Array.getElem?_eq_some_iff.1 hbox).1
          have b0 : ∀ o, (w5.alloc o).cell? ⟨B, 0, none⟩ = some (.int .u64 (y.key : Int)) := fun o => by rw [World.cell?_alloc_past _ _ _ lb]; exact cell_of_row _ _ 0 _ _ _ hbox
          have b1 : ∀ o, (w5.alloc o).cell? ⟨B, 1, none⟩ = some (.int .u32 (y.id : Int)) := fun o => by rw [World.cell?_alloc_past _ _ _ lb]; exact cell_of_row _ _ 1 _ _ _ hbox
          have HK6 := Lib.hid k6
          have HP6 := Lib.hid p6
          have HL6 := Lib.hid l6
          have HS6 := Lib.hid s6
          have HBox := Lib.hid hbox
          clear k6 p6 l6 s6 hbox HPop
          dsimp only [Itm.agg]
          by_cases hi0 : i = 0
          · have g0 : decide ((0 : Int) < (i : Int)) = false := by rw [decide_eq_false_iff_not]; omega
            have g1 : ¬ (0 : Int) < (i : Int) := by omega
            clear hi0
            go_wp2_with fail
            obtain ⟨W6, hW6⟩ : ∃ W6, w5.alloc (.cells #[.int .u64 (x.key : Int), .int .u32 (x.id : Int)] 32) = W6 := ⟨_, rfl⟩
            have hb6 : Below w5.heap.size w5 W6 := by rw [← hW6]; exact (Below.refl _ _).alloc (Nat.le_refl _) _
            have hX6 : W6.heap[w5.heap.size]? = some (.cells x.cells 32 (0, 0)) := by rw [← hW6]; exact heap_alloc_new _ _
            rw [hW6]
            have hGw : G < wr.heap.size := (HP0.out.row.lt G rfl).2
            have HR6 : Hid (BLs W6 (H + 1) (.slice (some ⟨G, 0, none⟩) L.length L.length) t) := Lib.hid ((HP0.out.row.same (fun k hk => by
              have : k = G := by simpa [Value.ownBlock] using hk.symm
              subst this
              exact (HS6.out.box hGw (by omega) HP0.out.notG))).below hb6 (fun k hk => by
              have : k = G := by simpa [Value.ownBlock] using hk.symm
              subst this
              exact Nat.lt_of_lt_of_le hGw HS6.out.keeps.size))
            have HLw6 := Lib.hid ((HS6.out.low HP0.out.low HP0.out.hp.oi (Nat.le_of_eq HE.out)).trans (hb6.mono (by have := HP0.out.low.size; have := HS6.out.keeps.size; omega)))
            have HH6 := Lib.hid (HK6.out.below hb6)
            have HB6 := Lib.hid ((hb6.block _ lb).trans HBox.out)
            have HX6 := Lib.hid hX6
            have lX6 := (Array.getElem?_eq_some_iff.1 hX6).1
            have HnB := Lib.hid (HS6.out.not_old (Array.getElem?_eq_some_iff.1 HP0.out.box).1 HP0.out.notB)
            have HnG := Lib.hid (HS6.out.not_old hGw HP0.out.notG)
            have HmX := Lib.hid (HK6.out.oi.not_new (Nat.le_refl _))
            clear hW6 hb6 hX6 hGw b0 b1
            generalize hXe : w5.heap.size = X at *
            clear hXe
            go_loopw [10] (fun va wr => ∃ a : Nat, va = .int .i64 a ∧ a ≤ L.length ∧ Hid (∀ j, j < a → gtB t j = true ∨ gt L j ≠ x) ∧ Hid (Drew W6 wr)) (fun va _ => L.length - (intOf va).toNat)
            case atStart => exact ⟨0, rfl, by omega, (fun j hj => absurd hj (by omega)), Drew.refl _⟩
            case round =>
              obtain ⟨a, rfl, ha, HA, HD⟩ := hrel
              by_cases hla : a < L.length
              · have n1 : (a : Int) < (L.length : Int) := by omega
                have n2 : (0 : Int) ≤ (a : Int) := by omega
                have hS0 : ILs w.heap.size w A L := by rw [HE.out]; exact HS.out
                obtain ⟨b, o, hA, hb, c0, c1⟩ := hS0.gt' (HLw6.out.trans ((HD.out.below _).mono HLw6.out.size)) a hla
                have e0 : wr.cell? ⟨G, a, none⟩ = some (.bool (gtB t a)) := by
                  have h1 := HR6.out
                  rw [← HP0.out.len] at h1
                  exact (HD.out.cell _).trans (BLs.cell h1 a (by rw [HP0.out.len]; exact hla)).1
                have x0 : wr.cell? ⟨X, 0, none⟩ = some (.int .u64 (x.key : Int)) := (HD.out.cell _).trans (cell_of_row _ _ 0 _ _ _ HX6.out)
                have x1 : wr.cell? ⟨X, 1, none⟩ = some (.int .u32 (x.id : Int)) := (HD.out.cell _).trans (cell_of_row _ _ 1 _ _ _ HX6.out)
                clear hb hS0
                subst hA
                cases hta : gtB t a with
                | true =>
                  rw [hta] at e0
                  have HT := Lib.hid hta
                  clear hta
                  go_wp2_with fail
                  have HA2 : Hid (∀ j, j < a + 1 → gtB t j = true ∨ gt L j ≠ x) := Lib.hid (fun j hj => by
                    by_cases e : j = a
                    · rw [e]; exact .inl HT.out
                    · exact HA.out j (by omega))
                  go_quiet (fail)
                  go_wp2_with fail
                  go_roundw
                  case rel => exact ⟨a + 1, by go_num, by omega, HA2, HD.out.drewN _⟩
                  case measure => simp [intOf]; omega
                | false =>
                  rw [hta] at e0
                  have HT := Lib.hid hta
                  clear hta
                  by_cases hk : (gt L a).key = x.key
                  · have g5 : (((gt L a).key : Int) == (x.key : Int)) = true := by rw [beq_iff_eq]; omega
                    by_cases hid : (gt L a).id = x.id
                    · have g6 : (((gt L a).id : Int) == (x.id : Int)) = true := by rw [beq_iff_eq]; omega
                      have HE2 := Lib.hid (Itm.ext_ hk hid)
                      clear hk hid
                      go_wp2_with fail
                      go_quiet (fail)
                      obtain ⟨V, hV⟩ : ∃ V, wr.drewN nq = V := ⟨_, rfl⟩
                      have hDV : Drew W6 V := by rw [← hV]; exact HD.out.drewN _
                      have hbV : Below W6.heap.size W6 V := hDV.below _
                      have hRV : BLs V (H + 1) (.slice (some ⟨G, 0, none⟩) t.length L.length) t := by
                        rw [HP0.out.len]
                        exact HR6.out.below hbV (fun k hk => (HR6.out.lt k hk).2)
                      have hBV := (hbV.block B (Array.getElem?_eq_some_iff.1 HB6.out).1).trans HB6.out
                      have hXV := (hbV.block X lX6).trans HX6.out
                      have HPV := Lib.hid (HH6.out.below hbV)
                      have HLV := Lib.hid (HLw6.out.trans (hbV.mono HLw6.out.size))
                      have f0 := (BLs.cell hRV a (by rw [HP0.out.len]; exact hla)).2
                      have e1 : V.cell? ⟨G, a, none⟩ = some (.bool false) := by rw [(BLs.cell hRV a (by rw [HP0.out.len]; exact hla)).1, HT.out]
                      have b0 : V.cell? ⟨B, 0, none⟩ = some (.int .u64 (y.key : Int)) := cell_of_row _ _ 0 _ _ _ hBV
                      have b1 : V.cell? ⟨B, 1, none⟩ = some (.int .u32 (y.id : Int)) := cell_of_row _ _ 1 _ _ _ hBV
                      have fb0 : V.frozen? ⟨B, 0, none⟩ = false := frozen_of_row _ _ _ _ _ hBV
                      have fb1 : V.frozen? ⟨B, 1, none⟩ = false := frozen_of_row _ _ _ _ _ hBV
                      have y0 : V.cell? ⟨X, 0, none⟩ = some (.int .u64 (x.key : Int)) := cell_of_row _ _ 0 _ _ _ hXV
                      have y1 : V.cell? ⟨X, 1, none⟩ = some (.int .u32 (x.id : Int)) := cell_of_row _ _ 1 _ _ _ hXV
                      have hXG : X ≠ G := by omega
                      have hXB : X ≠ B := by omega
                      have hBG : B ≠ G := by omega
                      have g7 : ((a : Int) == (L.length : Int)) = false := by rw [beq_eq_false_iff_ne]; omega
                      have HRV := Lib.hid hRV
                      have HBV := Lib.hid hBV
                      have hal := HP0.out.len
                      have HAL := Lib.hid hla
                      rw [hV]
                      clear hV hDV hbV hRV hBV hXV e0 x0 x1 c0 c1 hal
                      go_wp2_with fail
                      go_roundw
                      case rel => exact ⟨i + 1, by go_num, by omega, v6, m6, t.set a true, x, HP0.out.next HPV.out HRV.out HBV.out HP6.out HL6.out HAL.out HT.out HE2.out HnB.out HnG.out HLV.out (Nat.le_of_eq HE.out) hHG hGB⟩
                      case measure => simp [intOf]; omega
                    · have g6 : (((gt L a).id : Int) == (x.id : Int)) = false := by rw [beq_eq_false_iff_ne]; omega
                      have HA2 : Hid (∀ j, j < a + 1 → gtB t j = true ∨ gt L j ≠ x) := Lib.hid (fun j hj => by
                        by_cases e : j = a
                        · rw [e]; exact .inr (fun e => hid (by rw [e]))
                        · exact HA.out j (by omega))
                      clear hk hid
                      go_wp2_with fail
                      go_quiet (fail)
                      go_wp2_with fail
                      go_roundw
                      case rel => exact ⟨a + 1, by go_num, by omega, HA2, HD.out.drewN _⟩
                      case measure => simp [intOf]; omega
                  · have g5 : (((gt L a).key : Int) == (x.key : Int)) = false := by rw [beq_eq_false_iff_ne]; omega
                    have HA2 : Hid (∀ j, j < a + 1 → gtB t j = true ∨ gt L j ≠ x) := Lib.hid (fun j hj => by
                      by_cases e : j = a
                      · rw [e]; exact .inr (fun e => hk (by rw [e]))
                      · exact HA.out j (by omega))
                    clear hk
                    go_wp2_with fail
                    go_quiet (fail)
                    go_wp2_with fail
                    go_roundw
                    case rel => exact ⟨a + 1, by go_num, by omega, HA2, HD.out.drewN _⟩
                    case measure => simp [intOf]; omega
              · exfalso
                obtain ⟨j, h1, h2, h3⟩ := untaken_mem L t x (HP0.out.perm.mem_iff.1 HL6.out.1)
                rcases HA.out j (by omega) with h4 | h4
                · rw [h2] at h4; cases h4
                · exact h4 h3
          · have hle : y.r ≤ x.r := HP0.out.order (by omega) x (HL6.out.1)
            have g0 : decide ((0 : Int) < (i : Int)) = true := by rw [decide_eq_true_iff]; omega
            have g1 : 0 < i := by omega
            have hyk : y.key ≤ x.key := by have := x.hid; have := y.hid; unfold Itm.r at hle; omega
            have g2 : decide ((x.key : Int) < (y.key : Int)) = false := by rw [decide_eq_false_iff_not]; omega
            by_cases hk : x.key = y.key
            · have hyi : y.id ≤ x.id := by unfold Itm.r at hle; omega
              have g3 : ((x.key : Int) == (y.key : Int)) = true := by rw [beq_iff_eq]; omega
              have g4 : decide ((x.id : Int) < (y.id : Int)) = false := by rw [decide_eq_false_iff_not]; omega
              clear hle hk hi0
              go_wp2_with fail
              obtain ⟨W6, hW6⟩ : ∃ W6, w5.alloc (.cells #[.int .u64 (x.key : Int), .int .u32 (x.id : Int)] 32) = W6 := ⟨_, rfl⟩
              have hb6 : Below w5.heap.size w5 W6 := by rw [← hW6]; exact (Below.refl _ _).alloc (Nat.le_refl _) _
              have hX6 : W6.heap[w5.heap.size]? = some (.cells x.cells 32 (0, 0)) := by rw [← hW6]; exact heap_alloc_new _ _
              rw [hW6]
              have hGw : G < wr.heap.size := (HP0.out.row.lt G rfl).2
              have HR6 : Hid (BLs W6 (H + 1) (.slice (some ⟨G, 0, none⟩) L.length L.length) t) := Lib.hid ((HP0.out.row.same (fun k hk => by
                have : k = G := by simpa [Value.ownBlock] using hk.symm
                subst this
                exact (HS6.out.box hGw (by omega) HP0.out.notG))).below hb6 (fun k hk => by
                have : k = G := by simpa [Value.ownBlock] using hk.symm
                subst this
                exact Nat.lt_of_lt_of_le hGw HS6.out.keeps.size))
              have HLw6 := Lib.hid ((HS6.out.low HP0.out.low HP0.out.hp.oi (Nat.le_of_eq HE.out)).trans (hb6.mono (by have := HP0.out.low.size; have := HS6.out.keeps.size; omega)))
              have HH6 := Lib.hid (HK6.out.below hb6)
              have HB6 := Lib.hid ((hb6.block _ lb).trans HBox.out)
              have HX6 := Lib.hid hX6
              have lX6 := (Array.getElem?_eq_some_iff.1 hX6).1
              have HnB := Lib.hid (HS6.out.not_old (Array.getElem?_eq_some_iff.1 HP0.out.box).1 HP0.out.notB)
              have HnG := Lib.hid (HS6.out.not_old hGw HP0.out.notG)
              have HmX := Lib.hid (HK6.out.oi.not_new (Nat.le_refl _))
              clear hW6 hb6 hX6 hGw b0 b1
              generalize hXe : w5.heap.size = X at *
              clear hXe
              go_loopw [10] (fun va wr => ∃ a : Nat, va = .int .i64 a ∧ a ≤ L.length ∧ Hid (∀ j, j < a → gtB t j = true ∨ gt L j ≠ x) ∧ Hid (Drew W6 wr)) (fun va _ => L.length - (intOf va).toNat)
              case atStart => exact ⟨0, rfl, by omega, (fun j hj => absurd hj (by omega)), Drew.refl _⟩
              case round =>
                obtain ⟨a, rfl, ha, HA, HD⟩ := hrel
                by_cases hla : a < L.length
                · have n1 : (a : Int) < (L.length : Int) := by omega
                  have n2 : (0 : Int) ≤ (a : Int) := by omega
                  have hS0 : ILs w.heap.size w A L := by rw [HE.out]; exact HS.out
                  obtain ⟨b, o, hA, hb, c0, c1⟩ := hS0.gt' (HLw6.out.trans ((HD.out.below _).mono HLw6.out.size)) a hla
                  have e0 : wr.cell? ⟨G, a, none⟩ = some (.bool (gtB t a)) := by
                    have h1 := HR6.out
                    rw [← HP0.out.len] at h1
                    exact (HD.out.cell _).trans (BLs.cell h1 a (by rw [HP0.out.len]; exact hla)).1
                  have x0 : wr.cell? ⟨X, 0, none⟩ = some (.int .u64 (x.key : Int)) := (HD.out.cell _).trans (cell_of_row _ _ 0 _ _ _ HX6.out)
                  have x1 : wr.cell? ⟨X, 1, none⟩ = some (.int .u32 (x.id : Int)) := (HD.out.cell _).trans (cell_of_row _ _ 1 _ _ _ HX6.out)
                  clear hb hS0
                  subst hA
                  cases hta : gtB t a with
                  | true =>
                    rw [hta] at e0
                    have HT := Lib.hid hta
                    clear hta
                    go_wp2_with fail
                    have HA2 : Hid (∀ j, j < a + 1 → gtB t j = true ∨ gt L j ≠ x) := Lib.hid (fun j hj => by
                      by_cases e : j = a
                      · rw [e]; exact .inl HT.out
                      · exact HA.out j (by omega))
                    go_quiet (fail)
                    go_wp2_with fail
                    go_roundw
                    case rel => exact ⟨a + 1, by go_num, by omega, HA2, HD.out.drewN _⟩
                    case measure => simp [intOf]; omega
                  | false =>
                    rw [hta] at e0
                    have HT := Lib.hid hta
                    clear hta
                    by_cases hk : (gt L a).key = x.key
                    · have g5 : (((gt L a).key : Int) == (x.key : Int)) = true := by rw [beq_iff_eq]; omega
                      by_cases hid : (gt L a).id = x.id
                      · have g6 : (((gt L a).id : Int) == (x.id : Int)) = true := by rw [beq_iff_eq]; omega
                        have HE2 := Lib.hid (Itm.ext_ hk hid)
                        clear hk hid
                        go_wp2_with fail
                        go_quiet (fail)
                        obtain ⟨V, hV⟩ : ∃ V, wr.drewN nq = V := ⟨_, rfl⟩
                        have hDV : Drew W6 V := by rw [← hV]; exact HD.out.drewN _
                        have hbV : Below W6.heap.size W6 V := hDV.below _
                        have hRV : BLs V (H + 1) (.slice (some ⟨G, 0, none⟩) t.length L.length) t := by
                          rw [HP0.out.len]
                          exact HR6.out.below hbV (fun k hk => (HR6.out.lt k hk).2)
                        have hBV := (hbV.block B (Array.getElem?_eq_some_iff.1 HB6.out).1).trans HB6.out
                        have hXV := (hbV.block X lX6).trans HX6.out
                        have HPV := Lib.hid (HH6.out.below hbV)
                        have HLV := Lib.hid (HLw6.out.trans (hbV.mono HLw6.out.size))
                        have f0 := (BLs.cell hRV a (by rw [HP0.out.len]; exact hla)).2
                        have e1 : V.cell? ⟨G, a, none⟩ = some (.bool false) := by rw [(BLs.cell hRV a (by rw [HP0.out.len]; exact hla)).1, HT.out]
                        have b0 : V.cell? ⟨B, 0, none⟩ = some (.int .u64 (y.key : Int)) := cell_of_row _ _ 0 _ _ _ hBV
                        have b1 : V.cell? ⟨B, 1, none⟩ = some (.int .u32 (y.id : Int)) := cell_of_row _ _ 1 _ _ _ hBV
                        have fb0 : V.frozen? ⟨B, 0, none⟩ = false := frozen_of_row _ _ _ _ _ hBV
                        have fb1 : V.frozen? ⟨B, 1, none⟩ = false := frozen_of_row _ _ _ _ _ hBV
                        have y0 : V.cell? ⟨X, 0, none⟩ = some (.int .u64 (x.key : Int)) := cell_of_row _ _ 0 _ _ _ hXV
                        have y1 : V.cell? ⟨X, 1, none⟩ = some (.int .u32 (x.id : Int)) := cell_of_row _ _ 1 _ _ _ hXV
                        have hXG : X ≠ G := by omega
                        have hXB : X ≠ B := by omega
                        have hBG : B ≠ G := by omega
                        have g7 : ((a : Int) == (L.length : Int)) = false := by rw [beq_eq_false_iff_ne]; omega
                        have HRV := Lib.hid hRV
                        have HBV := Lib.hid hBV
                        have hal := HP0.out.len
                        have HAL := Lib.hid hla
                        rw [hV]
                        clear hV hDV hbV hRV hBV hXV e0 x0 x1 c0 c1 hal
                        go_wp2_with fail
                        go_roundw
                        case rel => exact ⟨i + 1, by go_num, by omega, v6, m6, t.set a true, x, HP0.out.next HPV.out HRV.out HBV.out HP6.out HL6.out HAL.out HT.out HE2.out HnB.out HnG.out HLV.out (Nat.le_of_eq HE.out) hHG hGB⟩
                        case measure => simp [intOf]; omega
                      · have g6 : (((gt L a).id : Int) == (x.id : Int)) = false := by rw [beq_eq_false_iff_ne]; omega
                        have HA2 : Hid (∀ j, j < a + 1 → gtB t j = true ∨ gt L j ≠ x) := Lib.hid (fun j hj => by
                          by_cases e : j = a
                          · rw [e]; exact .inr (fun e => hid (by rw [e]))
                          · exact HA.out j (by omega))
                        clear hk hid
                        go_wp2_with fail
                        go_quiet (fail)
                        go_wp2_with fail
                        go_roundw
                        case rel => exact ⟨a + 1, by go_num, by omega, HA2, HD.out.drewN _⟩
                        case measure => simp [intOf]; omega
                    · have g5 : (((gt L a).key : Int) == (x.key : Int)) = false := by rw [beq_eq_false_iff_ne]; omega
                      have HA2 : Hid (∀ j, j < a + 1 → gtB t j = true ∨ gt L j ≠ x) := Lib.hid (fun j hj => by
                        by_cases e : j = a
                        · rw [e]; exact .inr (fun e => hk (by rw [e]))
                        · exact HA.out j (by omega))
                      clear hk
                      go_wp2_with fail
                      go_quiet (fail)
                      go_wp2_with fail
                      go_roundw
                      case rel => exact ⟨a + 1, by go_num, by omega, HA2, HD.out.drewN _⟩
                      case measure => simp [intOf]; omega
                · exfalso
                  obtain ⟨j, h1, h2, h3⟩ := untaken_mem L t x (HP0.out.perm.mem_iff.1 HL6.out.1)
                  rcases HA.out j (by omega) with h4 | h4
                  · rw [h2] at h4; cases h4
                  · exact h4 h3
            · have g3 : ((x.key : Int) == (y.key : Int)) = false := by rw [beq_eq_false_iff_ne]; omega
              clear hle hk hi0
              go_wp2_with fail
              obtain ⟨W6, hW6⟩ : ∃ W6, w5.alloc (.cells #[.int .u64 (x.key : Int), .int .u32 (x.id : Int)] 32) = W6 := ⟨_, rfl⟩
              have hb6 : Below w5.heap.size w5 W6 := by rw [← hW6]; exact (Below.refl _ _).alloc (Nat.le_refl _) _
              have hX6 : W6.heap[w5.heap.size]? = some (.cells x.cells 32 (0, 0)) := by rw [← hW6]; exact heap_alloc_new _ _
              rw [hW6]
              have hGw : G < wr.heap.size := (HP0.out.row.lt G rfl).2
              have HR6 : Hid (BLs W6 (H + 1) (.slice (some ⟨G, 0, none⟩) L.length L.length) t) := Lib.hid ((HP0.out.row.same (fun k hk => by
                have : k = G := by simpa [Value.ownBlock] using hk.symm
                subst this
                exact (HS6.out.box hGw (by omega) HP0.out.notG))).below hb6 (fun k hk => by
                have : k = G := by simpa [Value.ownBlock] using hk.symm
                subst this
                exact Nat.lt_of_lt_of_le hGw HS6.out.keeps.size))
              have HLw6 := Lib.hid ((HS6.out.low HP0.out.low HP0.out.hp.oi (Nat.le_of_eq HE.out)).trans (hb6.mono (by have := HP0.out.low.size; have := HS6.out.keeps.size; omega)))
              have HH6 := Lib.hid (HK6.out.below hb6)
              have HB6 := Lib.hid ((hb6.block _ lb).trans HBox.out)
              have HX6 := Lib.hid hX6
              have lX6 := (Array.getElem?_eq_some_iff.1 hX6).1
              have HnB := Lib.hid (HS6.out.not_old (Array.getElem?_eq_some_iff.1 HP0.out.box).1 HP0.out.notB)
              have HnG := Lib.hid (HS6.out.not_old hGw HP0.out.notG)
              have HmX := Lib.hid (HK6.out.oi.not_new (Nat.le_refl _))
              clear hW6 hb6 hX6 hGw b0 b1
              generalize hXe : w5.heap.size = X at *
              clear hXe
              go_loopw [10] (fun va wr => ∃ a : Nat, va = .int .i64 a ∧ a ≤ L.length ∧ Hid (∀ j, j < a → gtB t j = true ∨ gt L j ≠ x) ∧ Hid (Drew W6 wr)) (fun va _ => L.length - (intOf va).toNat)
              case atStart => exact ⟨0, rfl, by omega, (fun j hj => absurd hj (by omega)), Drew.refl _⟩
              case round =>
                obtain ⟨a, rfl, ha, HA, HD⟩ := hrel
                by_cases hla : a < L.length
                · have n1 : (a : Int) < (L.length : Int) := by omega
                  have n2 : (0 : Int) ≤ (a : Int) := by omega
                  have hS0 : ILs w.heap.size w A L := by rw [HE.out]; exact HS.out
                  obtain ⟨b, o, hA, hb, c0, c1⟩ := hS0.gt' (HLw6.out.trans ((HD.out.below _).mono HLw6.out.size)) a hla
                  have e0 : wr.cell? ⟨G, a, none⟩ = some (.bool (gtB t a)) := by
                    have h1 := HR6.out
                    rw [← HP0.out.len] at h1
                    exact (HD.out.cell _).trans (BLs.cell h1 a (by rw [HP0.out.len]; exact hla)).1
                  have x0 : wr.cell? ⟨X, 0, none⟩ = some (.int .u64 (x.key : Int)) := (HD.out.cell _).trans (cell_of_row _ _ 0 _ _ _ HX6.out)
                  have x1 : wr.cell? ⟨X, 1, none⟩ = some (.int .u32 (x.id : Int)) := (HD.out.cell _).trans (cell_of_row _ _ 1 _ _ _ HX6.out)
                  clear hb hS0
                  subst hA
                  cases hta : gtB t a with
                  | true =>
                    rw [hta] at e0
                    have HT := Lib.hid hta
                    clear hta
                    go_wp2_with fail
                    have HA2 : Hid (∀ j, j < a + 1 → gtB t j = true ∨ gt L j ≠ x) := Lib.hid (fun j hj => by
                      by_cases e : j = a
                      · rw [e]; exact .inl HT.out
                      · exact HA.out j (by omega))
                    go_quiet (fail)
                    go_wp2_with fail
                    go_roundw
                    case rel => exact ⟨a + 1, by go_num, by omega, HA2, HD.out.drewN _⟩
                    case measure => simp [intOf]; omega
                  | false =>
                    rw [hta] at e0
                    have HT := Lib.hid hta
                    clear hta
                    by_cases hk : (gt L a).key = x.key
                    · have g5 : (((gt L a).key : Int) == (x.key : Int)) = true := by rw [beq_iff_eq]; omega
                      by_cases hid : (gt L a).id = x.id
                      · have g6 : (((gt L a).id : Int) == (x.id : Int)) = true := by rw [beq_iff_eq]; omega
                        have HE2 := Lib.hid (Itm.ext_ hk hid)
                        clear hk hid
                        go_wp2_with fail
                        go_quiet (fail)
                        obtain ⟨V, hV⟩ : ∃ V, wr.drewN nq = V := ⟨_, rfl⟩
                        have hDV : Drew W6 V := by rw [← hV]; exact HD.out.drewN _
                        have hbV : Below W6.heap.size W6 V := hDV.below _
                        have hRV : BLs V (H + 1) (.slice (some ⟨G, 0, none⟩) t.length L.length) t := by
                          rw [HP0.out.len]
                          exact HR6.out.below hbV (fun k hk => (HR6.out.lt k hk).2)
                        have hBV := (hbV.block B (Array.getElem?_eq_some_iff.1 HB6.out).1).trans HB6.out
                        have hXV := (hbV.block X lX6).trans HX6.out
                        have HPV := Lib.hid (HH6.out.below hbV)
                        have HLV := Lib.hid (HLw6.out.trans (hbV.mono HLw6.out.size))
                        have f0 := (BLs.cell hRV a (by rw [HP0.out.len]; exact hla)).2
                        have e1 : V.cell? ⟨G, a, none⟩ = some (.bool false) := by rw [(BLs.cell hRV a (by rw [HP0.out.len]; exact hla)).1, HT.out]
                        have b0 : V.cell? ⟨B, 0, none⟩ = some (.int .u64 (y.key : Int)) := cell_of_row _ _ 0 _ _ _ hBV
                        have b1 : V.cell? ⟨B, 1, none⟩ = some (.int .u32 (y.id : Int)) := cell_of_row _ _ 1 _ _ _ hBV
                        have fb0 : V.frozen? ⟨B, 0, none⟩ = false := frozen_of_row _ _ _ _ _ hBV
                        have fb1 : V.frozen? ⟨B, 1, none⟩ = false := frozen_of_row _ _ _ _ _ hBV
                        have y0 : V.cell? ⟨X, 0, none⟩ = some (.int .u64 (x.key : Int)) := cell_of_row _ _ 0 _ _ _ hXV
                        have y1 : V.cell? ⟨X, 1, none⟩ = some (.int .u32 (x.id : Int)) := cell_of_row _ _ 1 _ _ _ hXV
                        have hXG : X ≠ G := by omega
                        have hXB : X ≠ B := by omega
                        have hBG : B ≠ G := by omega
                        have g7 : ((a : Int) == (L.length : Int)) = false := by rw [beq_eq_false_iff_ne]; omega
                        have HRV := Lib.hid hRV
                        have HBV := Lib.hid hBV
                        have hal := HP0.out.len
                        have HAL := Lib.hid hla
                        rw [hV]
                        clear hV hDV hbV hRV hBV hXV e0 x0 x1 c0 c1 hal
                        go_wp2_with fail
                        go_roundw
                        case rel => exact ⟨i + 1, by go_num, by omega, v6, m6, t.set a true, x, HP0.out.next HPV.out HRV.out HBV.out HP6.out HL6.out HAL.out HT.out HE2.out HnB.out HnG.out HLV.out (Nat.le_of_eq HE.out) hHG hGB⟩
                        case measure => simp [intOf]; omega
                      · have g6 : (((gt L a).id : Int) == (x.id : Int)) = false := by rw [beq_eq_false_iff_ne]; omega
                        have HA2 : Hid (∀ j, j < a + 1 → gtB t j = true ∨ gt L j ≠ x) := Lib.hid (fun j hj => by
                          by_cases e : j = a
                          · rw [e]; exact .inr (fun e => hid (by rw [e]))
                          · exact HA.out j (by omega))
                        clear hk hid
                        go_wp2_with fail
                        go_quiet (fail)
                        go_wp2_with fail
                        go_roundw
                        case rel => exact ⟨a + 1, by go_num, by omega, HA2, HD.out.drewN _⟩
                        case measure => simp [intOf]; omega
                    · have g5 : (((gt L a).key : Int) == (x.key : Int)) = false := by rw [beq_eq_false_iff_ne]; omega
                      have HA2 : Hid (∀ j, j < a + 1 → gtB t j = true ∨ gt L j ≠ x) := Lib.hid (fun j hj => by
                        by_cases e : j = a
                        · rw [e]; exact .inr (fun e => hk (by rw [e]))
                        · exact HA.out j (by omega))
                      clear hk
                      go_wp2_with fail
                      go_quiet (fail)
                      go_wp2_with fail
                      go_roundw
                      case rel => exact ⟨a + 1, by go_num, by omega, HA2, HD.out.drewN _⟩
                      case measure => simp [intOf]; omega
                · exfalso
                  obtain ⟨j, h1, h2, h3⟩ := untaken_mem L t x (HP0.out.perm.mem_iff.1 HL6.out.1)
                  rcases HA.out j (by omega) with h4 | h4
                  · rw [h2] at h4; cases h4
                  · exact h4 h3
        · have h2 : ¬ (i : Int) < (L.length : Int) := by omega
          have hie : i = L.length := by omega
          subst hie
          obtain ⟨v5, m, t, y, hP⟩ := HPQ.out
          have hm0 : m = [] := List.eq_nil_of_length_eq_zero (by have := hP.left; omega)
          subst hm0
          have HQ := Lib.hid hP.hp
          have HLow := Lib.hid hP.low
          clear hP HPQ hi hlt
          go_wp2_with fail
          refine (pop_none H v5 _ HQ.out.oi).mono ?_
          rintro e w5 ⟨rfl, hb5⟩
          have HQ5 := Lib.hid ((HQ.out.below hb5).below ((Below.refl _ _).alloc (Nat.le_refl _) (.cells #[.int .u64 0, .int .u32 0] 32)))
          have HLow5 := Lib.hid ((HLow.out.trans (hb5.mono HLow.out.size)).alloc (Nat.le_trans HLow.out.size hb5.size) (.cells #[.int .u64 0, .int .u32 0] 32))
          clear hb5
          have HLn := Lib.hid (len_ho H v5 [] _ HQ5.out.oi)
          unfold Itm.nil Itm.agg
          go_wp2_with (first | (go_at_call 15; refine HLn.out.mono ?_; rintro e w6 ⟨rfl, rfl⟩) | (go_at_call 17; refine (HW.out _).mono ?_; rintro e w7 ⟨rfl, hb7⟩))
          go_ret
          exact ⟨rfl, HLow5.out.trans (hb7.mono HLow5.out.size)⟩
theorem walk (A : Option Addr) (n c : Nat) (w : World) (hn : n ≤ maxLen) (hf : n ≤ 4611686018427387904 → ∃ l : List Itm, l.length = n ∧ ILs w.heap.size w A l) : Calls Try.prog 4 #[.slice A n c] w (LawOk w) := by
  by_cases h : 600 < n
  · exact far A n c w h hn
  · obtain ⟨l, rfl, hl⟩ := hf (by omega)
    exact near A l c w hl (by omega)

set_option maxRecDepth 100000 in
theorem lifted (os : Os) (started : os.Started) (H : Type) (enc : TypeId × Value → H) :
    ReturnsInHanded {} Try.checked os 4 .any (Rows.heapSortsSpec.pre6 enc Try.prog Try.f4 Rows.heapSortsRow.domain false) (Rows.heapSortsSpec.post enc Try.prog Try.f4 false true false false) := by
  refine returnsInHanded_of_change (C := Try.checked) own_knob started (by kernel_rfl) Try.func4
    (ChangeSpec.witness6 (enc := enc) (C := Try.checked) false ⟨#[], #[.slice none 0 0], []⟩ 8 (by kernel_rfl) (by kernel_rfl) (by kernel_rfl) (by kernel_rfl)) ?_
  intro W base args ds gs before hval0 hW _ _
  have hval : ∀ (j : Nat) t v, Try.f4.params[j]? = some t → args[j]? = some v → Value.okWide Try.prog W .any base t v := hval0
  have hW' := hW
  obtain ⟨p, q, hA0, hV, rfl, _, _⟩ := hW
  have hA : DataW.TrodAll enc Try.prog W 0 (fun _ => true) true Try.f4.params.toList args.toList ds p := hA0
  rw [Try.params4] at hA hval
  obtain ⟨v0, vs0, d0, ds0, p0, q0, hargs, rfl, rfl, h0, r0⟩ := trodAll_cons hA
  obtain ⟨rfl, rfl, rfl⟩ := trodAll_nil r0
  obtain rfl : args = #[v0] := by cases args; simp_all
  obtain ⟨rfl, rfl⟩ := trodVars_none hV
  have hlt : ∀ x ∈ p0, x.block < W.heap.size := fun x hx => hW'.lt x (by simpa using hx)
  obtain ⟨A0, n0, c0, rfl, hn0, hl0⟩ := open_items (okWide_slice Try.underlying26 (hval 0 26 v0 rfl rfl)) h0 (fun x hx => hlt x (by simp [hx]))
  refine (walk A0 n0 c0 W hn0 hl0).mono fun e W' ⟨he, hg⟩ => ?_
  subst he
  exact ⟨_, rfl, law_post hW' rfl (by kernel_rfl) rfl (by kernel_rfl) hg⟩

theorem proved : Rows.HeapSortsSaid :=
  OpenClaim.holds_of_wide 4 Try.f4 rfl rfl rfl rfl rfl rfl rfl ⟨rfl, rfl, rfl, rfl, rfl⟩ rfl rfl rfl rfl rfl (by kernel_rfl) Try.func4 (by kernel_rfl)
    (of_decide_eq_true (by kernel_rfl)) (by unfold Func.isWrapper; first | (rw [if_pos (by decide +kernel)]; kernel_rfl) | (rw [if_neg (by decide +kernel)]; exact ⟨rfl, rfl⟩))
    (fun os started H enc _ => lifted os started H enc)

end Go.Proofs.Ythppjkjaaekikaa.heapSorts
