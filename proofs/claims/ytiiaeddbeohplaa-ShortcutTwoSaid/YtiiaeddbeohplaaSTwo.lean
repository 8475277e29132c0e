/- ShortcutTwo: for any net and any vertex the call returns true: each shortcut is two edges by the vertex, and no edge between its ends is as short. No condition. -/
import Derived.Test.YtiiaeddbeohplaaL7
import Derived.Test.YtiiaeddbeohplaaTw
import Derived.Deep.QuietTactic
import Derived.BigQuiet
namespace Go.Proofs.Ytiiaeddbeohplaa.shortcutTwo
open Go.ChangeShapes Go.WideShapes Go.ChangeAt Go.RowKit Go.Deep
set_option maxRecDepth 100000 in
theorem large (A B C : Option Addr) (n c m d k e : Nat) (v : Nat) (w : World) (h : largeB n m k = true) : Calls Try.prog 4 #[.agg #[.slice A n c, .slice B m d, .slice C k e], .int .u32 (v : Int)] w (LawOk w) := by
  have HW := Lib.hid works_any
  have HL := Lib.hid h
  clear h
  go_enter Try.func4, Try.ntmps4
  go_wp2_with fail
  refine (large_any A B C n c m d k e _).mono ?_
  rw [HL.out]
  rintro e1 w1 ⟨rfl, hb1⟩
  have HB1 : Hid (Below w.heap.size w w1) := Lib.hid (((Below.refl _ _).alloc (Nat.le_refl _) _).trans (hb1.mono (by simp)))
  clear hb1
  go_wp2_with (go_at_call 11; with_reducible refine (HW.out _).mono ?_; rintro e w9 ⟨rfl, hb9⟩)
  go_ret
  exact ⟨rfl, HB1.out.trans (hb9.mono HB1.out.size)⟩
theorem six (p1 p2 p3 p4 p5 p6 : Bool) : p1 = false ∨ (p1 = true ∧ p2 = false) ∨ (p1 = true ∧ p2 = true ∧ p3 = false) ∨ (p1 = true ∧ p2 = true ∧ p3 = true ∧ p4 = false) ∨ (p1 = true ∧ p2 = true ∧ p3 = true ∧ p4 = true ∧ p5 = false) ∨
    (p1 = true ∧ p2 = true ∧ p3 = true ∧ p4 = true ∧ p5 = true ∧ p6 = false) ∨ (p1 = true ∧ p2 = true ∧ p3 = true ∧ p4 = true ∧ p5 = true ∧ p6 = true) := by
  cases p1 <;> cases p2 <;> cases p3 <;> cases p4 <;> cases p5 <;> cases p6 <;> simp
theorem beqI {a b : Nat} (h : a = b) : ((a : Int) == (b : Int)) = true := by rw [h]; exact beq_self_eq_true _
theorem beqN {a b : Nat} (h : a ≠ b) : ((a : Int) == (b : Int)) = false := by rw [beq_eq_false_iff_ne]; omega
set_option maxRecDepth 100000 in
set_option maxHeartbeats 16000000 in
theorem walk (A B C : Option Addr) (n c m d k e : Nat) (v : Nat) (w : World) (hn : NetIn w A B C n m k) (hv : v < 4294967296) :
    Calls Try.prog 4 #[.agg #[.slice A n c, .slice B m d, .slice C k e], .int .u32 (v : Int)] w (LawOk w) := by
  cases hL : largeB n m k with
  | true => exact large A B C n c m d k e v w hL
  | false =>
  have HW := Lib.hid works_any
  obtain ⟨E, bad, shun, rfl, rfl, rfl, hE, _, _, h0, h1, h2⟩ := hn.lists hL
  have HL := Lib.hid hL
  obtain ⟨W1, hW1, k1, k2, k3, k4⟩ := boxed_net c d e h0 h1 h2
  have HW1 := Lib.hid hW1
  have HK1 := Lib.hid k1
  have HK2 := Lib.hid k2
  have HLG := Lib.hid (large_any A B C E.length c bad.length d shun.length e W1)
  clear hn hL h0 h1 h2 k1 k2 k3 k4 hW1
  go_enter Try.func4, Try.ntmps4
  go_wp2_with fail
  rw [HW1.out]
  clear HW1
  refine HLG.out.mono ?_
  rw [HL.out]
  rintro e1 w1 ⟨rfl, hb1⟩
  clear HLG HL
  have HN1 := Lib.hid (HK1.out.nets (Nat.le_refl _) hb1 hb1.size)
  have HB1 : Hid (Below w.heap.size w w1) := Lib.hid (HK2.out.trans (hb1.mono HK2.out.size))
  clear hb1 HK1 HK2
  have HMk := Lib.hid (make_net w.heap.size E bad shun v hv w1 (HN1.out.more (Nat.le_refl _)) (by omega))
  have HEr := Lib.hid (fun h => makeR_err (out := netOut E bad) (inn := netIn E bad) (av := inB shun) (v := v) (hv := hv) h)
  have HTwo := Lib.hid (fun x h => make_two (E := E) (bad := bad) (shun := shun) (v := v) (hv := hv) (x := x) h)
  generalize (makeR (netOut E bad) (netIn E bad) (inB shun) v hv).1 = L at *
  generalize (makeR (netOut E bad) (netIn E bad) (inB shun) v hv).2 = er at *
  go_wp2_with fail
  refine HMk.out.mono ?_
  rintro e1 w2 ⟨P, pc, rfl, hl2, hb2⟩
  clear HMk
  have HL2 := Lib.hid hl2
  have HN2 := Lib.hid (HN1.out.nets (Nat.le_refl _) hb2 hb2.size)
  have HB2 : Hid (Below w.heap.size w w2) := Lib.hid (HB1.out.trans (hb2.mono HB1.out.size))
  clear hl2 hb2 HN1 HB1
  by_cases he : er = 0
  · subst he
    clear HEr
    have hsz2 : w.heap.size < w2.heap.size := HN2.out.lt
    have hLl : L.length ≤ 4611686018427387904 := HL2.out.1
    have HE80 := Lib.hid hE
    go_wp2_with fail
    go_loopw [7] (fun vi wr => ∃ i : Nat, vi = .int .i64 i ∧ i ≤ L.length ∧ Hid (Below w2.heap.size w2 wr)) (fun vi _ => L.length - (intOf vi).toNat)
    case atStart => exact ⟨0, rfl, by omega, Lib.hid (Below.refl _ _)⟩
    case round =>
      obtain ⟨i, rfl, hi, HB⟩ := hrel
      by_cases hil : i < L.length
      · have i1 : (i : Int) < (L.length : Int) := by omega
        have i2 : (0 : Int) ≤ (i : Int) := by omega
        have HN3 := Lib.hid (HN2.out.below (Nat.le_refl _) HB.out)
        obtain ⟨p, o, rfl, _, x0, x1, x2, x3⟩ := ELs.at' (HL2.out.below HB.out) i hil
        obtain ⟨ka, jb, T⟩ := HTwo.out L[i] (List.getElem_mem hil)
        obtain ⟨la, lb, t1, t2, t3, t4, t5, t6, t7, t8, t9, t10, t11, t12, t13⟩ := T
        have HA : Hid (∀ k (h : k < E.length), k = ka → E[k].tail = L[i].tail ∧ E[k].head = v ∧ E[k].weight = E[ka].weight) := Lib.hid (fun k h e => by subst e; exact ⟨t1, t2, rfl⟩)
        have HJ : Hid (∀ k (h : k < E.length), k = jb → E[k].tail = v ∧ E[k].head = L[i].head ∧ E[k].weight = E[jb].weight) := Lib.hid (fun k h e => by subst e; exact ⟨t3, t4, rfl⟩)
        have HF := Lib.hid t5
        have HS := Lib.hid t6
        have HFar := Lib.hid t7
        rw [t8] at x3
        clear t1 t2 t3 t4 t5 t6 t7 t8
        generalize E[ka].weight = wa at *
        generalize E[jb].weight = wb at *
        have HB3 : Hid (Below w.heap.size w wr) := Lib.hid (HB2.out.trans (HB.out.mono HB2.out.size))
        generalize L[i] = x at *
        obtain ⟨W3, hW3⟩ : ∃ W3, wr.alloc (.cells #[.int .u32 (x.tail : Int), .int .u32 (x.head : Int), .int .u64 (x.weight : Int), .int .u32 (v : Int)] 43) = W3 := ⟨_, rfl⟩
        have hx3 : W3.heap[wr.heap.size]? = some (.cells #[.int .u32 (x.tail : Int), .int .u32 (x.head : Int), .int .u64 (x.weight : Int), .int .u32 (v : Int)] 43 (0, 0)) := by rw [← hW3]; exact heap_alloc_new _ _
        have hb3 : Below wr.heap.size wr W3 := by rw [← hW3]; exact (Below.refl _ _).alloc (Nat.le_refl _) _
        have hs3 : W3.heap.size = wr.heap.size + 1 := by rw [← hW3]; simp
        have HX3 := Lib.hid hx3
        have HB4 := Lib.hid (HB.out.trans (hb3.mono HB.out.size))
        have HW3 := Lib.hid hW3
        have hle : w2.heap.size ≤ wr.heap.size := HB.out.size
        clear hx3 hb3 hW3 HB
        go_wp2_with fail
        rw [HW3.out]
        have HN4 := Lib.hid (HN2.out.below (Nat.le_refl _) HB4.out)
        have HB5 : Hid (Below w.heap.size w W3) := Lib.hid (HB2.out.trans (HB4.out.mono HB2.out.size))
        have hle4 : w2.heap.size ≤ W3.heap.size := HB4.out.size
        obtain ⟨A0, c0, A1, c1, A2, c2, hr, he1, _, _⟩ := HN4.out.row
        have d0W := Lib.hid (show W3.cell? ⟨w.heap.size, 0, none⟩ = some (.slice A0 E.length c0) from cell_of_row _ _ 0 _ _ _ hr)
        have HE1 := Lib.hid he1
        have hNB := HN4.out.lt
        clear HW3 x0 x1 x2 x3 HN3 HB3 hr he1
        generalize wr.heap.size = XB at *
        go_wp2_with fail
        go_loopw [9, 10] (fun vt vk wr => ∃ (k : Nat) (t : Bool), vk = .int .i64 k ∧ k ≤ E.length ∧ vt = .bool t ∧ (ka < k → t = true) ∧ Hid (Below W3.heap.size W3 wr)) (fun _ vk _ => E.length - (intOf vk).toNat)
        case atStart => exact ⟨0, false, rfl, by omega, rfl, by omega, Lib.hid (Below.refl _ _)⟩
        case round =>
          obtain ⟨k, t, rfl, hk, rfl, ht, HB⟩ := hrel
          have d0 : wr.cell? ⟨w.heap.size, 0, none⟩ = some (.slice A0 E.length c0) := (HB.out.cell (p := ⟨w.heap.size, 0, none⟩) hNB).trans d0W.out
          have hxr := (HB.out.block XB (by omega)).trans HX3.out
          have y0 : wr.cell? ⟨XB, 0, none⟩ = some (.int .u32 (x.tail : Int)) := cell_of_row _ _ 0 _ _ _ hxr
          have y1 : wr.cell? ⟨XB, 1, none⟩ = some (.int .u32 (x.head : Int)) := cell_of_row _ _ 1 _ _ _ hxr
          have y2 : wr.cell? ⟨XB, 2, none⟩ = some (.int .u64 (x.weight : Int)) := cell_of_row _ _ 2 _ _ _ hxr
          clear hxr
          by_cases hkl : k < E.length
          · have k1 : (k : Int) < (E.length : Int) := by omega
            have k2 : (0 : Int) ≤ (k : Int) := by omega
            obtain ⟨p2, o2, rfl, hp2, z0, z1, z2, z3⟩ := HE1.out.at' k hkl
            have hp3 : p2 < W3.heap.size := by omega
            have a0 := (HB.out.cell (p := ⟨p2, o2 + k * 4, none⟩) hp3).trans z0
            have a1 := (HB.out.cell (p := ⟨p2, o2 + k * 4 + 1, none⟩) hp3).trans z1
            have a2 := (HB.out.cell (p := ⟨p2, o2 + k * 4 + 2, none⟩) hp3).trans z2
            have hA := HA.out k hkl
            have hfar := HFar.out k hkl
            have HE2 := HE1
            have HZ := Lib.hid (And.intro z0 (And.intro z1 (And.intro z2 z3)))
            clear HE1 z0 z1 z2 z3
            generalize E[k] = a at *
            have hq : ((a.tail : Int) == (x.tail : Int)) = false ∨ (((a.tail : Int) == (x.tail : Int)) = true ∧ ((a.head : Int) == (x.head : Int)) = false) ∨ (((a.tail : Int) == (x.tail : Int)) = true ∧ ((a.head : Int) == (x.head : Int)) = true ∧ decide (a.weight ≤ x.weight) = false) := by
              rcases hfar with h | ⟨h, h2⟩ | ⟨h, h2, h3⟩
              · exact .inl (beqN h)
              · exact .inr (.inl ⟨beqI h, beqN h2⟩)
              · exact .inr (.inr ⟨beqI h, beqI h2, by rw [decide_eq_false_iff_not]; omega⟩)
            have HHA := Lib.hid hA
            clear hfar hA
            rcases hq with q1 | ⟨q1, q2⟩ | ⟨q1, q2, q3⟩
            all_goals go_wp2_with fail
            all_goals go_quiet (fail)
            all_goals have HB6 : Hid (Below W3.heap.size W3 (wr.drewN nq)) := Lib.hid (below_drewN HB.out nq)
            all_goals try clear q3
            all_goals try clear q2
            all_goals clear q1 a0 a1 a2 y0 y1 y2 d0 HB
            all_goals generalize wr.drewN nq = wo at *
            all_goals go_wp2_with fail
            all_goals
              go_loopw [9, 11] (fun vt vj wr => ∃ (j : Nat) (t : Bool), vj = .int .i64 j ∧ j ≤ E.length ∧ vt = .bool t ∧ (ka < k ∨ (ka = k ∧ jb < j) → t = true) ∧ Hid (Below W3.heap.size W3 wr)) (fun _ vj _ => E.length - (intOf vj).toNat)
              case atStart => exact ⟨0, t, rfl, by omega, rfl, fun h => ht (by omega), HB6⟩
              case round =>
                obtain ⟨j, t', rfl, hj, rfl, ht', HB7⟩ := hrel
                have d0 : wr.cell? ⟨w.heap.size, 0, none⟩ = some (.slice (some ⟨p2, o2, none⟩) E.length c0) := (HB7.out.cell (p := ⟨w.heap.size, 0, none⟩) hNB).trans d0W.out
                have lN : w.heap.size < wr.heap.size := Nat.lt_of_lt_of_le hNB HB7.out.size
                have lP : p2 < wr.heap.size := Nat.lt_of_lt_of_le hp3 HB7.out.size
                have d0' : ∀ o, (wr.alloc o).cell? ⟨w.heap.size, 0, none⟩ = some (.slice (some ⟨p2, o2, none⟩) E.length c0) := fun o => by rw [World.cell?_alloc_past _ _ _ lN]; exact d0
                by_cases hjl : j < E.length
                · have j1 : (j : Int) < (E.length : Int) := by omega
                  have j2 : (0 : Int) ≤ (j : Int) := by omega
                  obtain ⟨z0, z1, z2, z3⟩ := HZ.out
                  have a0 := (HB7.out.cell (p := ⟨p2, o2 + k * 4, none⟩) hp3).trans z0
                  have a1 := (HB7.out.cell (p := ⟨p2, o2 + k * 4 + 1, none⟩) hp3).trans z1
                  have a2 := (HB7.out.cell (p := ⟨p2, o2 + k * 4 + 2, none⟩) hp3).trans z2
                  have a3 := (HB7.out.cell (p := ⟨p2, o2 + k * 4 + 3, none⟩) hp3).trans z3
                  obtain ⟨r0, r1, r2, r3⟩ := ELs.row (HE2.out.below (HB7.out.mono hle4)) j hjl
                  have b0 : ∀ o, (wr.alloc o).cell? ⟨p2, o2 + j * 4, none⟩ = some (.int .u32 (E[j].tail : Int)) := fun o => by rw [World.cell?_alloc_past _ _ _ lP]; exact r0
                  have b1 : ∀ o, (wr.alloc o).cell? ⟨p2, o2 + j * 4 + 1, none⟩ = some (.int .u32 (E[j].head : Int)) := fun o => by rw [World.cell?_alloc_past _ _ _ lP]; exact r1
                  have b2 : ∀ o, (wr.alloc o).cell? ⟨p2, o2 + j * 4 + 2, none⟩ = some (.int .u64 (E[j].weight : Int)) := fun o => by rw [World.cell?_alloc_past _ _ _ lP]; exact r2
                  have b3 : ∀ o, (wr.alloc o).cell? ⟨p2, o2 + j * 4 + 3, none⟩ = some (.int .u32 (E[j].mid : Int)) := fun o => by rw [World.cell?_alloc_past _ _ _ lP]; exact r3
                  have hJ := HJ.out j hjl
                  clear z0 z1 z2 z3 r0 r1 r2 r3
                  generalize E[j] = b at *
                  have HK : Hid (ka = k ∧ jb = j → ((a.tail : Int) == (x.tail : Int)) = true ∧ ((a.head : Int) == (v : Int)) = true ∧ ((b.tail : Int) == (v : Int)) = true ∧ ((b.head : Int) == (x.head : Int)) = true ∧ fitsB a.weight b.weight = true ∧ ((sumV a.weight b.weight : Int) == (x.weight : Int)) = true) := Lib.hid (fun ⟨h1, h2⟩ => by
                    obtain ⟨e1, e2, e3⟩ := HHA.out h1.symm
                    obtain ⟨e4, e5, e6⟩ := hJ h2.symm
                    rw [e3, e6]
                    exact ⟨beqI e1, beqI e2, beqI e4, beqI e5, HF.out, beqI HS.out⟩)
                  clear hJ
                  obtain ⟨W5, hW5⟩ : ∃ W5, (wr.alloc (.cells #[.int .u32 (a.tail : Int), .int .u32 (a.head : Int), .int .u64 (a.weight : Int), .int .u32 (a.mid : Int)] 43)).alloc (.cells #[.int .u32 (b.tail : Int), .int .u32 (b.head : Int), .int .u64 (b.weight : Int), .int .u32 (b.mid : Int)] 43) = W5 := ⟨_, rfl⟩
                  have s4 : (wr.alloc (.cells #[.int .u32 (a.tail : Int), .int .u32 (a.head : Int), .int .u64 (a.weight : Int), .int .u32 (a.mid : Int)] 43)).heap.size = wr.heap.size + 1 := by simp
                  have g1 : Below wr.heap.size wr (wr.alloc (.cells #[.int .u32 (a.tail : Int), .int .u32 (a.head : Int), .int .u64 (a.weight : Int), .int .u32 (a.mid : Int)] 43)) := (Below.refl _ _).alloc (Nat.le_refl _) _
                  have g2 : Below (wr.alloc (.cells #[.int .u32 (a.tail : Int), .int .u32 (a.head : Int), .int .u64 (a.weight : Int), .int .u32 (a.mid : Int)] 43)).heap.size (wr.alloc (.cells #[.int .u32 (a.tail : Int), .int .u32 (a.head : Int), .int .u64 (a.weight : Int), .int .u32 (a.mid : Int)] 43)) W5 := by rw [← hW5]; exact (Below.refl _ _).alloc (Nat.le_refl _) _
                  have ra : W5.heap[wr.heap.size]? = some (.cells #[.int .u32 (a.tail : Int), .int .u32 (a.head : Int), .int .u64 (a.weight : Int), .int .u32 (a.mid : Int)] 43 (0, 0)) := (g2.block _ (by omega)).trans (heap_alloc_new _ _)
                  have rb : W5.heap[wr.heap.size + 1]? = some (.cells #[.int .u32 (b.tail : Int), .int .u32 (b.head : Int), .int .u64 (b.weight : Int), .int .u32 (b.mid : Int)] 43 (0, 0)) := by rw [← hW5, ← s4]; exact heap_alloc_new _ _
                  have g3 : Below wr.heap.size wr W5 := g1.trans (g2.mono (by omega))
                  have HB8 : Hid (Below W3.heap.size W3 W5) := Lib.hid (HB7.out.trans (g3.mono HB7.out.size))
                  have f1 : ((wr.alloc (.cells #[.int .u32 (a.tail : Int), .int .u32 (a.head : Int), .int .u64 (a.weight : Int), .int .u32 (a.mid : Int)] 43)).alloc (.cells #[.int .u32 (b.tail : Int), .int .u32 (b.head : Int), .int .u64 (b.weight : Int), .int .u32 (b.mid : Int)] 43)).cell? ⟨wr.heap.size, 2, none⟩ = some (.int .u64 (a.weight : Int)) := by rw [hW5]; exact cell_of_row _ _ 2 _ _ _ ra
                  have f2 : ((wr.alloc (.cells #[.int .u32 (a.tail : Int), .int .u32 (a.head : Int), .int .u64 (a.weight : Int), .int .u32 (a.mid : Int)] 43)).alloc (.cells #[.int .u32 (b.tail : Int), .int .u32 (b.head : Int), .int .u64 (b.weight : Int), .int .u32 (b.mid : Int)] 43)).cell? ⟨wr.heap.size + 1, 2, none⟩ = some (.int .u64 (b.weight : Int)) := by rw [hW5]; exact cell_of_row _ _ 2 _ _ _ rb
                  have xr := (HB8.out.block XB (by omega)).trans HX3.out
                  have HRa := Lib.hid ra
                  have HRb := Lib.hid rb
                  have HXr := Lib.hid xr
                  have HW5 := Lib.hid hW5
                  have HAd := Lib.hid ((refAdd_any a.weight b.weight W5).mono fun e w' (h : _ ∧ _) => (⟨h.1, h.2.symm⟩ : _ ∧ w' = W5))
                  clear ra rb xr hW5 g1 g2 g3 s4
                  go_wp2_with fail
                  rw [HW5.out]
                  clear HW5 f1 f2
                  refine HAd.out.mono ?_
                  rintro e5 w5 ⟨rfl, hw5⟩
                  subst hw5
                  have m0 : w5.cell? ⟨wr.heap.size, 0, none⟩ = some (.int .u32 (a.tail : Int)) := cell_of_row _ _ 0 _ _ _ HRa.out
                  have m1 : w5.cell? ⟨wr.heap.size, 1, none⟩ = some (.int .u32 (a.head : Int)) := cell_of_row _ _ 1 _ _ _ HRa.out
                  have n0 : w5.cell? ⟨wr.heap.size + 1, 0, none⟩ = some (.int .u32 (b.tail : Int)) := cell_of_row _ _ 0 _ _ _ HRb.out
                  have n1 : w5.cell? ⟨wr.heap.size + 1, 1, none⟩ = some (.int .u32 (b.head : Int)) := cell_of_row _ _ 1 _ _ _ HRb.out
                  have y0 : w5.cell? ⟨XB, 0, none⟩ = some (.int .u32 (x.tail : Int)) := cell_of_row _ _ 0 _ _ _ HXr.out
                  have y1 : w5.cell? ⟨XB, 1, none⟩ = some (.int .u32 (x.head : Int)) := cell_of_row _ _ 1 _ _ _ HXr.out
                  have y2 : w5.cell? ⟨XB, 2, none⟩ = some (.int .u64 (x.weight : Int)) := cell_of_row _ _ 2 _ _ _ HXr.out
                  clear HRa HRb HXr HAd b0 b1 b2 b3 a0 a1 a2 a3 d0 d0'
                  have h6 := six ((a.tail : Int) == (x.tail : Int)) ((a.head : Int) == (v : Int)) ((b.tail : Int) == (v : Int)) ((b.head : Int) == (x.head : Int)) (fitsB a.weight b.weight) ((sumV a.weight b.weight : Int) == (x.weight : Int))
                  generalize fitsB a.weight b.weight = fit at *
                  generalize sumV a.weight b.weight = sm at *
                  generalize wr.heap.size = AB at *
                  cases t' with
                  | true =>
                    clear h6 HK
                    go_wp2_with fail
                    go_roundw
                    case rel => exact ⟨j + 1, true, by go_num, by omega, rfl, fun _ => rfl, HB8⟩
                    case measure => simp [intOf]; omega
                  | false =>
                    have HT2 : Hid (¬ (ka < k ∨ (ka = k ∧ jb < j))) := Lib.hid (fun h => Bool.false_ne_true (ht' h))
                    clear ht'
                    have H6 := Lib.hid h6
                    clear h6
                    rcases H6.out with v1 | ⟨v1, v2⟩ | ⟨v1, v2, v3⟩ | ⟨v1, v2, v3, v4⟩ | ⟨v1, v2, v3, v4, v5⟩ | ⟨v1, v2, v3, v4, v5, v6⟩ | ⟨v1, v2, v3, v4, v5, v6⟩
                    · have hn : ¬ (ka = k ∧ jb = j) := fun e => by have h := HK.out e; have h2 := h.1; rw [v1] at h2; cases h2
                      have HN := Lib.hid hn
                      clear hn HK H6
                      try subst v5
                      go_wp2_with fail
                      go_roundw
                      case rel => exact ⟨j + 1, false, by go_num, by omega, rfl, fun hh => by exfalso; have h1 := HT2.out; have h2 := HN.out; omega, HB8⟩
                      case measure => simp [intOf]; omega
                    · have hn : ¬ (ka = k ∧ jb = j) := fun e => by have h := HK.out e; have h2 := h.2.1; rw [v2] at h2; cases h2
                      have HN := Lib.hid hn
                      clear hn HK H6
                      try subst v5
                      go_wp2_with fail
                      go_roundw
                      case rel => exact ⟨j + 1, false, by go_num, by omega, rfl, fun hh => by exfalso; have h1 := HT2.out; have h2 := HN.out; omega, HB8⟩
                      case measure => simp [intOf]; omega
                    · have hn : ¬ (ka = k ∧ jb = j) := fun e => by have h := HK.out e; have h2 := h.2.2.1; rw [v3] at h2; cases h2
                      have HN := Lib.hid hn
                      clear hn HK H6
                      try subst v5
                      go_wp2_with fail
                      go_roundw
                      case rel => exact ⟨j + 1, false, by go_num, by omega, rfl, fun hh => by exfalso; have h1 := HT2.out; have h2 := HN.out; omega, HB8⟩
                      case measure => simp [intOf]; omega
                    · have hn : ¬ (ka = k ∧ jb = j) := fun e => by have h := HK.out e; have h2 := h.2.2.2.1; rw [v4] at h2; cases h2
                      have HN := Lib.hid hn
                      clear hn HK H6
                      try subst v5
                      go_wp2_with fail
                      go_roundw
                      case rel => exact ⟨j + 1, false, by go_num, by omega, rfl, fun hh => by exfalso; have h1 := HT2.out; have h2 := HN.out; omega, HB8⟩
                      case measure => simp [intOf]; omega
                    · have hn : ¬ (ka = k ∧ jb = j) := fun e => by have h := HK.out e; have h2 := h.2.2.2.2.1; rw [v5] at h2; cases h2
                      have HN := Lib.hid hn
                      clear hn HK H6
                      try subst v5
                      go_wp2_with fail
                      go_roundw
                      case rel => exact ⟨j + 1, false, by go_num, by omega, rfl, fun hh => by exfalso; have h1 := HT2.out; have h2 := HN.out; omega, HB8⟩
                      case measure => simp [intOf]; omega
                    · have hn : ¬ (ka = k ∧ jb = j) := fun e => by have h := HK.out e; have h2 := h.2.2.2.2.2; rw [v6] at h2; cases h2
                      have HN := Lib.hid hn
                      clear hn HK H6
                      try subst v5
                      go_wp2_with fail
                      go_roundw
                      case rel => exact ⟨j + 1, false, by go_num, by omega, rfl, fun hh => by exfalso; have h1 := HT2.out; have h2 := HN.out; omega, HB8⟩
                      case measure => simp [intOf]; omega
                    · clear HK HT2 H6
                      try subst v5
                      go_wp2_with fail
                      go_roundw
                      case rel => exact ⟨j + 1, true, by go_num, by omega, rfl, fun _ => rfl, HB8⟩
                      case measure => simp [intOf]; omega
                · have j1 : ¬ (j : Int) < (E.length : Int) := by omega
                  have hje : j = E.length := by omega
                  subst hje
                  go_wp2_with fail
                  go_roundw
                  case rel => exact ⟨k + 1, t', by go_num, by omega, rfl, fun h => ht' (by omega), HB7⟩
                  case measure => simp [intOf]; omega
          · have hke : k = E.length := by omega
            subst hke
            have htt := ht (by omega)
            subst htt
            have k1 : ¬ (E.length : Int) < (E.length : Int) := by omega
            have y3 : wr.cell? ⟨XB, 3, none⟩ = some (.int .u32 (v : Int)) := cell_of_row _ _ 3 _ _ _ ((HB.out.block XB (by omega)).trans HX3.out)
            have HN6 := Lib.hid (HN4.out.below hle4 (HB.out))
            have HV1 : Hid (Calls Try.prog 15 #[.pointer (some ⟨w.heap.size, 0, none⟩), .int .u32 (x.tail : Int)] wr fun e w' => e = .returned (.bool false) ∧ w' = wr) := Lib.hid ((avoid_any w2.heap.size w.heap.size E bad shun x.tail wr HN6.out).mono fun e w' h => ⟨by rw [h.1, t12], h.2.symm⟩)
            have HV2 : Hid (Calls Try.prog 15 #[.pointer (some ⟨w.heap.size, 0, none⟩), .int .u32 (x.head : Int)] wr fun e w' => e = .returned (.bool false) ∧ w' = wr) := Lib.hid ((avoid_any w2.heap.size w.heap.size E bad shun x.head wr HN6.out).mono fun e w' h => ⟨by rw [h.1, t13], h.2.symm⟩)
            have u1 := beqN t9
            have u2' := beqN t10
            have u3 := beqN t11
            have HB9 := Lib.hid (HB4.out.trans (HB.out.mono hle4))
            clear t9 t10 t11 t12 t13 HN6
            go_wp2_with (go_at_call 15; first | (with_reducible refine HV1.out.mono ?_) | (with_reducible refine HV2.out.mono ?_); rintro e9 w9 ⟨rfl, rfl⟩)
            go_roundw
            case rel => exact ⟨i + 1, by go_num, by omega, HB9⟩
            case measure => simp [intOf]; omega
      · have i1 : ¬ (i : Int) < (L.length : Int) := by omega
        have HB3 : Hid (Below w.heap.size w wr) := Lib.hid (HB2.out.trans (HB.out.mono HB2.out.size))
        go_wp2_with (go_at_call 11; with_reducible refine (HW.out _).mono ?_; rintro e w9 ⟨rfl, hb9⟩)
        go_ret
        exact ⟨rfl, HB3.out.trans (hb9.mono HB3.out.size)⟩
  · have q1 : (er == 0) = false := by rw [beq_eq_false_iff_ne]; exact he
    have q2 : ¬ er = 0 := he
    have hl0 := HEr.out he
    subst hl0
    clear he HEr HTwo
    go_wp2_with (go_at_call 11; with_reducible refine (HW.out _).mono ?_; rintro e w9 ⟨rfl, hb9⟩)
    go_ret
    exact ⟨rfl, HB2.out.trans (hb9.mono HB2.out.size)⟩

set_option maxRecDepth 100000 in
theorem lifted (os : Os) (started : os.Started) (H : Type) (enc : TypeId × Value → H) :
    ReturnsInHanded {} Try.checked os 4 .any (Rows.shortcutTwoSpec.pre6 enc Try.prog Try.f4 Rows.shortcutTwoRow.domain false) (Rows.shortcutTwoSpec.post enc Try.prog Try.f4 false true false false) := by
  refine returnsInHanded_of_change (C := Try.checked) own_knob started (by kernel_rfl) Try.func4
    (ChangeSpec.witness6 (enc := enc) (C := Try.checked) false ⟨#[], #[.agg #[.slice none 0 0,.slice none 0 0,.slice none 0 0], .int .u32 0], []⟩ 8 (by kernel_rfl) (by kernel_rfl) (by kernel_rfl) (by kernel_rfl)) ?_
  intro W base args ds gs before hval0 hW _ _
  have hval : ∀ (j : Nat) t v, Try.f4.params[j]? = some t → args[j]? = some v → Value.okWide Try.prog W .any base t v := hval0
  have hW' := hW
  obtain ⟨p, q, hA0, hV, rfl, _, _⟩ := hW
  have hA : DataW.TrodAll enc Try.prog W 0 (fun _ => true) true Try.f4.params.toList args.toList ds p := hA0
  rw [Try.params4] at hA hval
  obtain ⟨v0, vs0, d0, ds0, p0, q0, hargs, rfl, rfl, h0, r0⟩ := trodAll_cons hA
  obtain ⟨v1, vs1, d1, ds1, p1, q1, rfl, rfl, rfl, h1, r1⟩ := trodAll_cons r0
  obtain ⟨rfl, rfl, rfl⟩ := trodAll_nil r1
  obtain rfl : args = #[v0, v1] := by cases args; simp_all
  obtain ⟨rfl, rfl⟩ := trodVars_none hV
  have hlt : ∀ x ∈ p0 ++ (p1), x.block < W.heap.size := fun x hx => hW'.lt x (by simpa using hx)
  obtain ⟨A0, B0, C0, n0, c0, m0, d0, k0, e0, rfl, hn0⟩ := open_net (hval 0 25 v0 rfl rfl) h0 (fun x hx => hlt x (by simp [hx]))
  obtain ⟨z1, rfl, rfl, rfl, w1⟩ := open_int Try.underlying26 (hval 1 26 v1 rfl rfl) h1
  obtain ⟨x1, rfl, hx1⟩ := u32_bounds w1
  refine (walk A0 B0 C0 n0 c0 m0 d0 k0 e0 x1 W hn0 hx1).mono fun e W' ⟨he, hg⟩ => ?_
  subst he
  exact ⟨_, rfl, law_post hW' rfl (by kernel_rfl) rfl (by kernel_rfl) hg⟩

theorem proved : Rows.ShortcutTwoSaid :=
  OpenClaim.holds_of_wide 4 Try.f4 rfl rfl rfl rfl rfl rfl rfl ⟨rfl, rfl, rfl, rfl, rfl⟩ rfl rfl rfl rfl rfl (by kernel_rfl) Try.func4 (by kernel_rfl)
    (of_decide_eq_true (by kernel_rfl)) (by unfold Func.isWrapper; first | (rw [if_pos (by decide +kernel)]; kernel_rfl) | (rw [if_neg (by decide +kernel)]; exact ⟨rfl, rfl⟩))
    (fun os started H enc _ => lifted os started H enc)

end Go.Proofs.Ytiiaeddbeohplaa.shortcutTwo
