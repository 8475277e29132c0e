/- HeapPlays: for any script the call returns true: every call is answered as the document says. No condition. -/
import Derived.Test.YthppjkjaaekikaaHb
import Derived.Deep.RegionHeld3
import Derived.BigRegion
namespace Go.Proofs.Ythppjkjaaekikaa.heapPlays
open Go.ChangeShapes Go.WideShapes Go.ChangeAt Go.RowKit Go.Deep
/-- where the loop stands -/
def St (H R i : Nat) (W w : World) : Prop := ∃ v l u m, Pair H R W w v l u m ∧ l.Perm m ∧ l.length ≤ i
theorem cells_keep {b o i : Nat} {x : Itm} {W w' : World} (hb : b < W.heap.size) (h : (fun w' => w'.cell? ⟨b, o + i * 3 + 1, none⟩ = some (.int .u64 (x.key : Int)) ∧ w'.cell? ⟨b, o + i * 3 + 1 + 1, none⟩ = some (.int .u32 (x.id : Int))) W) (hl : Below W.heap.size W w') : (fun w' => w'.cell? ⟨b, o + i * 3 + 1, none⟩ = some (.int .u64 (x.key : Int)) ∧ w'.cell? ⟨b, o + i * 3 + 1 + 1, none⟩ = some (.int .u32 (x.id : Int))) w' :=
  ⟨(hl.cell (p := ⟨b, _, none⟩) hb).trans h.1, (hl.cell (p := ⟨b, _, none⟩) hb).trans h.2⟩
set_option maxRecDepth 100000 in
set_option maxHeartbeats 4000000 in
theorem walk (A : Option Addr) (n c : Nat) (w : World) (hn : n ≤ maxLen) (hf : ∀ k, k ≤ n → k ≤ 4611686018427387904 → ∃ l : List Stp, l.length = k ∧ SLs w.heap.size w A l) : Calls Try.prog 3 #[.slice A n c] w (LawOk w) := by
  unfold maxLen at hn
  obtain ⟨L, hL, hs⟩ := hf (min n 600) (by omega) (by omega)
  have HS := Lib.hid hs
  have HLn := Lib.hid hL
  have HW := Lib.hid works_any
  clear hf hs hL
  go_enter Try.func3, Try.ntmps3
  go_wp2_with fail
  refine (new_hp w).mono ?_
  rintro e w1 ⟨rfl, h1, hb1⟩
  have HST : Hid (Pair w.heap.size w1.heap.size w (w1.alloc (.cells #[.slice none 0 0] 28)) (.slice none 0 0) [] (.slice none 0 0) []) := Lib.hid (Pair.start h1 hb1)
  clear h1 hb1
  go_wp2_with fail
  go_loopw [5] (fun vi wr => ∃ i : Nat, vi = .int .i64 i ∧ i ≤ 600 ∧ i ≤ n ∧ Hid (St w.heap.size w1.heap.size i w wr)) (fun vi _ => 600 - (intOf vi).toNat)
  case atStart => exact ⟨0, rfl, by omega, by omega, _, _, _, _, HST.out, List.Perm.refl _, Nat.le_refl _⟩
  case round =>
    obtain ⟨i, rfl, hi6, hin, HSt⟩ := hrel
    generalize hHe : w.heap.size = H at *
    generalize hRe : w1.heap.size = R at *
    have HE := Lib.hid hHe
    have HRE := Lib.hid hRe
    clear hHe hRe HST
    by_cases hd : i < n ∧ i < 600
    · have h1 : (i : Int) < (n : Int) := by omega
      have h2 : (i : Int) < 600 := by omega
      have hil : i < L.length := by rw [HLn.out]; omega
      obtain ⟨b, o, hA, hb, c0, c1, c2⟩ := SLs.at' HS.out i hil
      obtain ⟨v, l, u, m, hP, hp, hli⟩ := HSt.out
      subst hA
      have HQ := Lib.hid hP
      have HPm := Lib.hid hp
      have hl6 : l.length ≤ 600 := by omega
      have hm6 : m.length ≤ 600 := by rw [← hp.length_eq]; omega
      have HLi := Lib.hid hli
      have HLw := Lib.hid hP.low
      have hbw := hb
      have HB := Lib.hid hb
      have d0 : wr.cell? ⟨b, o + i * 3, none⟩ = some (.bool L[i].pop) := (HLw.out.cell (p := ⟨b, _, none⟩) (by rw [HE.out]; exact hb)).trans c0
      have d1 : wr.cell? ⟨b, o + i * 3 + 1, none⟩ = some (.int .u64 (L[i].item.key : Int)) := (HLw.out.cell (p := ⟨b, _, none⟩) (by rw [HE.out]; exact hb)).trans c1
      have d2 : wr.cell? ⟨b, o + i * 3 + 1 + 1, none⟩ = some (.int .u32 (L[i].item.id : Int)) := (HLw.out.cell (p := ⟨b, _, none⟩) (by rw [HE.out]; exact hb)).trans c2
      generalize L[i].item = x at *
      generalize L[i].pop = pq at *
      have h4 : (0 : Int) ≤ (i : Int) := by omega
      clear hP hp hli hbw hd HSt hil
      cases hpop : pq with
      | true =>
        rw [hpop] at d0
        clear hpop d1 d2 c0 c1 c2
        go_wp2_with fail
        refine (pop_said H v l wr HQ.out.hp (by omega)).mono ?_
        rintro e w2 ⟨v2, l2, y, q, rfl, k2, s2, r2⟩
        have HP2 := Lib.hid (HQ.out.stepH k2 s2)
        have HR2 := Lib.hid r2
        clear k2 s2 r2
        dsimp only [Itm.agg]
        go_wp2_with fail
        refine (rpop_said R u m _ (HP2.out.below ((Below.refl _ _).alloc (Nat.le_refl _) _)).ro (by omega)).mono ?_
        rintro e w3 ⟨u3, m3, z, q3, rfl, k3, s3, r3⟩
        obtain ⟨rfl, rfl, hpm⟩ := HR2.out.one r3 HPm.out
        have HP3 := Lib.hid ((HP2.out.below ((Below.refl _ _).alloc (Nat.le_refl _) _)).stepR k3 s3)
        have HPm3 := Lib.hid hpm
        have hX3 : w3.heap[w2.heap.size]? = some (.cells y.cells 32 (0, 0)) := (s3.keeps.block w2.heap.size (by simp) (by have := HP2.out.ro.lt; omega) (fun e => by have := (HP2.out.ro.own.lt _ e.symm).2; omega)).trans (heap_alloc_new _ _)
        have lx := (Array.getElem?_eq_some_iff.1 hX3).1
        have x0 : ∀ o, (w3.alloc o).cell? ⟨w2.heap.size, 0, none⟩ = some (.int .u64 (y.key : Int)) := fun o => by rw [World.cell?_alloc_past _ _ _ lx]; exact cell_of_row _ _ 0 _ _ _ hX3
        have x1 : ∀ o, (w3.alloc o).cell? ⟨w2.heap.size, 1, none⟩ = some (.int .u32 (y.id : Int)) := fun o => by rw [World.cell?_alloc_past _ _ _ lx]; exact cell_of_row _ _ 1 _ _ _ hX3
        have HLl : Hid (l2.length = m3.length) := Lib.hid hpm.length_eq
        have HLi2 : Hid (l2.length ≤ i + 1) := Lib.hid (by have := HR2.out.len; have := HLi.out; omega)
        have HPa := Lib.hid (HP3.out.below ((Below.refl _ _).alloc (Nat.le_refl _) (.cells y.cells 32)))
        clear k3 s3 r3 hpm hX3 lx
        generalize w2.heap.size = X at *
        cases q with
        | true =>
          dsimp only [Itm.agg]
          go_wp2_with fail
          refine (len_ho H v2 l2 _ HPa.out.hp.oi).mono ?_
          rintro e w5 ⟨rfl, rfl⟩
          rw [HLl.out]
          go_wp2_with fail
          refine (rlen_ro R u3 m3 _ HPa.out.ro).mono ?_
          rintro e w6 ⟨rfl, rfl⟩
          go_wp2_with fail
          go_roundw
          case rel => exact ⟨i + 1, by go_num, by omega, by omega, _, _, _, _, HPa.out, HPm3.out, HLi2.out⟩
          case measure => simp [intOf]; omega
        | false =>
          dsimp only [Itm.agg]
          go_wp2_with fail
          refine (len_ho H v2 l2 _ HPa.out.hp.oi).mono ?_
          rintro e w5 ⟨rfl, rfl⟩
          rw [HLl.out]
          go_wp2_with fail
          refine (rlen_ro R u3 m3 _ HPa.out.ro).mono ?_
          rintro e w6 ⟨rfl, rfl⟩
          go_wp2_with fail
          go_roundw
          case rel => exact ⟨i + 1, by go_num, by omega, by omega, _, _, _, _, HPa.out, HPm3.out, HLi2.out⟩
          case measure => simp [intOf]; omega
      | false =>
        rw [hpop] at d0
        have HC : Hid ((fun w' => w'.cell? ⟨b, o + i * 3 + 1, none⟩ = some (.int .u64 (x.key : Int)) ∧ w'.cell? ⟨b, o + i * 3 + 1 + 1, none⟩ = some (.int .u32 (x.id : Int))) w) := Lib.hid ⟨c1, c2⟩
        have HBE : Hid (b < w.heap.size) := Lib.hid (by rw [HE.out]; exact HB.out)
        have HPu := Lib.hid (fun W (h : HP H W v l) => push_hp H v l x W h (by omega))
        have HRu := Lib.hid (fun W (h : RO R W u m) => rpush_any R u m x W h (by omega))
        dsimp only [Itm.agg] at HPu HRu
        clear hpop c0 c1 c2 hb
        go_wp2_with fail
        have hS : (fun w' => w'.cell? ⟨b, o + i * 3 + 1, none⟩ = some (.int .u64 (x.key : Int)) ∧ w'.cell? ⟨b, o + i * 3 + 1 + 1, none⟩ = some (.int .u32 (x.id : Int))) wr := ⟨d1, d2⟩
        go_region_held3 (fun w' => w'.cell? ⟨b, o + i * 3 + 1, none⟩ = some (.int .u64 (x.key : Int)) ∧ w'.cell? ⟨b, o + i * 3 + 1 + 1, none⟩ = some (.int .u32 (x.id : Int))) (exact cells_keep HBE.out HC.out (by first | exact HP3.out.low | exact HP2.out.low | exact HQ.out.drew.low | exact HQ.out.low))
          (first
            | (go_at_call 13; (with_reducible refine (HPu.out _ ?_).mono ?_); · (first | exact HQ.out.drew.hp | exact HQ.out.hp)
               rintro e w2 ⟨rfl, v2, l2, k2, p2, s2⟩
               have HP2 := Lib.hid (HQ.out.drew.stepH k2 s2)
               have HP2p := Lib.hid p2
               clear k2 s2 p2)
            | (go_at_call 14; (with_reducible refine (HRu.out _ ?_).mono ?_); · exact HP2.out.ro
               rintro e w3 ⟨rfl, u3, k3, s3⟩
               have HP3 := Lib.hid (HP2.out.stepR k3 s3)
               clear k3 s3))
        have HLl : Hid (l2.length = (m ++ [x]).length) := Lib.hid (by rw [HP2p.out.length_eq]; exact (HPm.out.append_right [x]).length_eq)
        have HPm3 : Hid (l2.Perm (m ++ [x])) := Lib.hid (HP2p.out.trans (HPm.out.append_right [x]))
        have HLi2 : Hid (l2.length ≤ i + 1) := Lib.hid (by rw [perm_len HP2p.out]; have := HLi.out; omega)
        clear hS d1 d2 HPu HRu
        generalize m ++ [x] = m3 at *
        go_wp2_with fail
        refine (len_ho H v2 l2 _ HP3.out.hp.oi).mono ?_
        rintro e w5 ⟨rfl, rfl⟩
        rw [HLl.out]
        go_wp2_with fail
        refine (rlen_ro R u3 m3 _ HP3.out.ro).mono ?_
        rintro e w6 ⟨rfl, rfl⟩
        go_wp2_with fail
        go_roundw
        case rel => exact ⟨i + 1, by go_num, by omega, by omega, _, _, _, _, HP3.out, HPm3.out, HLi2.out⟩
        case measure => simp [intOf]; omega
    · obtain ⟨v, l, u, m, hP, -, -⟩ := HSt.out
      have HLw := Lib.hid hP.low
      clear hP HSt
      by_cases h1 : i < n
      · have h2 : (i : Int) < (n : Int) := by omega
        have h3 : ¬ (i : Int) < 600 := by omega
        clear hd h1
        go_wp2_with fail
        refine (HW.out _).mono ?_
        rintro e w5 ⟨rfl, hb5⟩
        go_wp2_with fail
        go_ret
        exact ⟨rfl, HLw.out.trans (hb5.mono HLw.out.size)⟩
      · have h2 : ¬ (i : Int) < (n : Int) := by omega
        clear hd h1
        go_wp2_with fail
        refine (HW.out _).mono ?_
        rintro e w5 ⟨rfl, hb5⟩
        go_wp2_with fail
        go_ret
        exact ⟨rfl, HLw.out.trans (hb5.mono HLw.out.size)⟩

set_option maxRecDepth 100000 in
theorem lifted (os : Os) (started : os.Started) (H : Type) (enc : TypeId × Value → H) :
    ReturnsInHanded {} Try.checked os 3 .any (Rows.heapPlaysSpec.pre6 enc Try.prog Try.f3 Rows.heapPlaysRow.domain false) (Rows.heapPlaysSpec.post enc Try.prog Try.f3 false true false false) := by
  refine returnsInHanded_of_change (C := Try.checked) own_knob started (by kernel_rfl) Try.func3
    (ChangeSpec.witness6 (enc := enc) (C := Try.checked) false ⟨#[], #[.slice none 0 0], []⟩ 8 (by kernel_rfl) (by kernel_rfl) (by kernel_rfl) (by kernel_rfl)) ?_
  intro W base args ds gs before hval0 hW _ _
  have hval : ∀ (j : Nat) t v, Try.f3.params[j]? = some t → args[j]? = some v → Value.okWide Try.prog W .any base t v := hval0
  have hW' := hW
  obtain ⟨p, q, hA0, hV, rfl, _, _⟩ := hW
  have hA : DataW.TrodAll enc Try.prog W 0 (fun _ => true) true Try.f3.params.toList args.toList ds p := hA0
  rw [Try.params3] at hA hval
  obtain ⟨v0, vs0, d0, ds0, p0, q0, hargs, rfl, rfl, h0, r0⟩ := trodAll_cons hA
  obtain ⟨rfl, rfl, rfl⟩ := trodAll_nil r0
  obtain rfl : args = #[v0] := by cases args; simp_all
  obtain ⟨rfl, rfl⟩ := trodVars_none hV
  have hlt : ∀ x ∈ p0, x.block < W.heap.size := fun x hx => hW'.lt x (by simpa using hx)
  obtain ⟨A0, n0, c0, rfl, hn0, hl0⟩ := open_steps (okWide_slice Try.underlying22 (hval 0 22 v0 rfl rfl)) h0 (fun x hx => hlt x (by simp [hx]))
  refine (walk A0 n0 c0 W hn0 hl0).mono fun e W' ⟨he, hg⟩ => ?_
  subst he
  exact ⟨_, rfl, law_post hW' rfl (by kernel_rfl) rfl (by kernel_rfl) hg⟩

theorem proved : Rows.HeapPlaysSaid :=
  OpenClaim.holds_of_wide 3 Try.f3 rfl rfl rfl rfl rfl rfl rfl ⟨rfl, rfl, rfl, rfl, rfl⟩ rfl rfl rfl rfl rfl (by kernel_rfl) Try.func3 (by kernel_rfl)
    (of_decide_eq_true (by kernel_rfl)) (by unfold Func.isWrapper; first | (rw [if_pos (by decide +kernel)]; kernel_rfl) | (rw [if_neg (by decide +kernel)]; exact ⟨rfl, rfl⟩))
    (fun os started H enc _ => lifted os started H enc)

end Go.Proofs.Ythppjkjaaekikaa.heapPlays
