/- The contract of Far. -/
import Derived.Test.YtpnmfhcmodoeiaaVt
import Derived.Deep.QuietTactic
import Derived.BigQuiet
namespace Go.Proofs.Ytpnmfhcmodoeiaa
open Go.RowKit
def xEnc : Nat → List Value := fun v => [Value.int .u64 (v : Int)]
abbrev OwnX (w : World) (base : Nat) (v : Value) (l : List Nat) : Prop := OwnS w base 27 1 xEnc v l
theorem flat_x : ∀ l : List Nat, l.flatMap xEnc = l.map fun v : Nat => Value.int .u64 (v : Int)
  | [] => rfl
  | x :: l => by rw [List.flatMap_cons, flat_x l]; rfl
theorem OwnX.made {w : World} {base g n : Nat} (h : w.ownsRow base 27 1 (.slice (some ⟨g, 0, none⟩) n n) n (madeCells (Value.int .u64 0).cells (n * 1)).toList) : OwnX w base (.slice (some ⟨g, 0, none⟩) n n) (List.replicate n 0) := by
  unfold OwnX OwnS
  rw [List.length_replicate, flat_x, List.map_replicate]
  have e : (madeCells (Value.int .u64 0).cells (n * 1)).toList = List.replicate n (.int .u64 0) := by rw [Nat.mul_one]; exact toList_madeCells_one _ _
  rw [e] at h
  exact h
section
variable {w w' : World} {base g n c : Nat} {l : List Nat}
theorem OwnX.cell (h : OwnX w base (.slice (some ⟨g, 0, none⟩) n c) l) (i : Nat) (hi : i < l.length) : w.cell? ⟨g, i, none⟩ = some (.int .u64 (l[i] : Int)) := by
  obtain ⟨A0, c0, hv, _⟩ := h.form
  injection hv with _ hn _
  subst hn
  have := World.ownsRow.cellAt h i (by omega)
  rw [this, flat_x, List.getElem?_map, List.getElem?_eq_getElem hi]; rfl
theorem OwnX.put (h : OwnX w base (.slice (some ⟨g, 0, none⟩) n c) l) (hn : n = l.length) (i : Nat) (hi : i < l.length) (v : Nat) : OwnX (w.setCell ⟨g, i, none⟩ (.int .u64 (v : Int))) base (.slice (some ⟨g, 0, none⟩) n c) (l.set i v) ∧ w.grownBy (w.setCell ⟨g, i, none⟩ (.int .u64 (v : Int))) (some g) := by
  have := OwnS.put (sz := 1) (enc := xEnc) (fun _ => rfl) h hn i 0 hi (by omega) v (.int .u64 (v : Int)) rfl
  rwa [Nat.mul_one, Nat.add_zero] at this
end
/-- where Far stands -/
structure FaSt (w0 : World) (G n : Nat) (l : List Nat) (w : World) : Prop where
  own : OwnX w w0.heap.size (.slice (some ⟨G, 0, none⟩) n n) l
  len : l.length = n
  low : Below w0.heap.size w0 w
section
variable {w0 w w1 : World} {G n : Nat} {l : List Nat}
theorem FaSt.below (h : FaSt w0 G n l w) (hb : Below w.heap.size w w1) : FaSt w0 G n l w1 := ⟨h.own.below hb fun k hk => (h.own.lt k hk).2, h.len, h.low.trans (hb.mono h.low.size)⟩
theorem FaSt.put (h : FaSt w0 G n l w) (i : Nat) (hi : i < n) (v : Nat) : FaSt w0 G n (l.set i v) (w.setCell ⟨G, i, none⟩ (.int .u64 (v : Int))) := by
  obtain ⟨h1, h2⟩ := h.own.put h.len.symm i (by rw [h.len]; exact hi) v
  exact ⟨h1, by rw [List.length_set]; exact h.len, h.low.grown h2 h.low.size fun r hr => (h.own.lt r (by rw [← hr]; rfl)).1⟩
theorem FaSt.cell (h : FaSt w0 G n l w) (i : Nat) (hi : i < n) : w.cell? ⟨G, i, none⟩ = some (.int .u64 ((l.getD i 0 : Nat) : Int)) := by
  have hi' : i < l.length := by rw [h.len]; exact hi
  rw [h.own.cell i hi', getD_at hi']
theorem FaSt.froz (h : FaSt w0 G n l w) (i : Nat) : w.frozen? ⟨G, i, none⟩ = false := OwnS.frozen h.own i
end
/-- the list so far: those of the first i stand, the others are 0 -/
def initL (all : List Nat) (src i : Nat) : List Nat := (all.take i).map (bf0 src) ++ List.replicate (all.length - i) 0
theorem initL_step {all : List Nat} {src i : Nat} (hi : i < all.length) : (initL all src i).set i (bf0 src all[i]) = initL all src (i + 1) := by
  unfold initL
  have h1 : ((all.take i).map (bf0 src)).length = i := by simp; omega
  rw [List.set_append, h1, if_neg (by omega), Nat.sub_self, List.take_succ_eq_append_getElem hi, List.map_append]
  have h2 : List.replicate (all.length - i) 0 = 0 :: List.replicate (all.length - (i + 1)) 0 := by
    rw [show all.length - i = (all.length - (i + 1)) + 1 by omega, List.replicate_succ]
  rw [h2, List.set_cons_zero]
  simp
theorem map_put {all : List Nat} (hn : all.Nodup) (g : Nat → Nat) {k v s : Nat} (hk : k < all.length) (hv : all[k] = v) : (all.map g).set k s = all.map fun u => if u = v then s else g u := by
  apply List.ext_getElem
  · simp
  · intro i h1 h2
    rw [List.getElem_set, List.getElem_map, List.getElem_map]
    have hi : i < all.length := by simpa using h2
    by_cases e : k = i
    · subst e; rw [if_pos rfl, if_pos hv]
    · rw [if_neg e, if_neg]
      intro e2
      exact e ((List.getElem_inj hn).1 (hv.trans e2.symm))
theorem bfE_take (av : Nat → Bool) (E : List Edg) (g : Nat → Nat) (i : Nat) (hi : i < E.length) : bfE av (E.take (i + 1)) g = bf1 av (bfE av (E.take i) g) E[i] := by
  unfold bfE
  rw [List.take_succ_eq_append_getElem hi, List.foldl_append]
  rfl
theorem map_getD {all : List Nat} {g : Nat → Nat} {k v : Nat} (hk : k < all.length) (hv : all[k] = v) : (all.map g).getD k 0 = g v := by
  rw [List.getD_eq_getElem?_getD, List.getElem?_map, List.getElem?_eq_getElem hk, hv]; rfl
theorem x_info : (Try.prog.info? 27).map (fun i => (i.zero, i.size, i.bytes)) = some (some (.int .u64 0), 1, 8) := by kernel_rfl
set_option maxRecDepth 100000 in
set_option maxHeartbeats 16000000 in
theorem far_any (B NB : Nat) (E : List Edg) (bad shun all : List Nat) (A : Option Addr) (c src BB : Nat) (w : World) (h : NetAt B NB E bad shun w) (hB : B ≤ w.heap.size) (hs : VLs BB w A all) (hBB : BB ≤ w.heap.size) (hn : all.Nodup)
    (ht : ∀ x ∈ E, x.tail ∈ all) (hh : ∀ x ∈ E, x.head ∈ all) (hl : all.length ≤ 1000) (hE : E.length ≤ 1000) :
    Calls Try.prog 19 #[.pointer (some ⟨NB, 0, none⟩), .slice A all.length c, .int .u32 (src : Int)] w fun e w' => ∃ G, e = .returned (.slice (some ⟨G, 0, none⟩) all.length all.length) ∧
      FaSt w G all.length (all.map (bfR (inB shun) E all.length (bf0 src))) w' := by
  obtain ⟨i0, hi0, hz0, hz1, hz2⟩ := info_parts x_info
  have HI := Lib.hid hi0
  have HZ := Lib.hid hz0
  have HZ1 := Lib.hid hz1
  have HZ2 := Lib.hid hz2
  have HN : Hid (∀ W, Below w.heap.size w W → NetAt B NB E bad shun W) := Lib.hid fun W hb => h.below hB hb
  have HSz : Hid (∀ W, Below w.heap.size w W → w.heap.size ≤ W.heap.size) := Lib.hid fun W hb => hb.size
  have HBW : Hid (B ≤ w.heap.size) := Lib.hid hB
  have HS := Lib.hid (hs.more hBB)
  have HNd := Lib.hid hn
  have HT := Lib.hid ht
  have HHd := Lib.hid hh
  clear hi0 hz0 hz1 hz2 h hB hs hn ht hh hBB
  go_enter Try.func19, Try.ntmps19
  go_wp2_with (at_make
               refine wpList_make_full _ rfl _ _ 45 rfl w.heap.size 27 i0 (.int .u64 0) 1 Try.underlying45 HI.out HZ.out HZ1.out .i64 .i64 _ _ all.length rfl rfl rfl rfl (by rw [HZ2.out]; omega) (by simp only [maxLen]; omega) (by omega) ?_
               intro w3 hown hgrow
               have HS0 : Hid (FaSt w w.heap.size all.length (initL all src 0) w3) := Lib.hid (by
                 unfold initL
                 rw [List.take_zero, List.map_nil, List.nil_append, Nat.sub_zero]
                 exact ⟨OwnX.made hown, by simp, ⟨hgrow.os, hgrow.tape, hgrow.output, hgrow.size, fun k hk => hgrow.block k hk (by simp)⟩⟩)
               clear hown hgrow HI HZ HZ1 HZ2)
  generalize hG : w.heap.size = G at *
  have HG := Lib.hid hG
  clear hG
  go_loopw [8] (fun vi wr => ∃ i : Nat, vi = .int .i64 i ∧ i ≤ all.length ∧ Hid (FaSt w G all.length (initL all src i) wr)) (fun vi _ => all.length - (intOf vi).toNat)
  case atStart => exact ⟨0, rfl, by omega, HS0⟩
  case round =>
    clear HS0
    obtain ⟨i, rfl, hi, HF⟩ := hrel
    by_cases hlt : i < all.length
    · have hSr := HS.out.below (show Below G w wr by rw [← HG.out]; exact HF.out.low)
      obtain ⟨b, o, hA, hb, e0⟩ := VLs.at' hSr i hlt
      subst hA
      have hne : b ≠ G := by omega
      have i1 : (i : Int) < (all.length : Int) := by omega
      have i2 : (0 : Int) ≤ (i : Int) := by omega
      have c0 := HF.out.cell i hlt
      have fz := HF.out.froz i
      have HF1 := Lib.hid (HF.out.put i hlt 9223372036854775808)
      have HF2 := Lib.hid (HF1.out.put i hlt 0)
      have HSt := Lib.hid (initL_step (src := src) hlt)
      rw [List.set_set] at HF2
      have d0 := HF1.out.cell i hlt
      have fz1 := HF1.out.froz i
      generalize (initL all src i).getD i 0 = old at *
      generalize ((initL all src i).set i 9223372036854775808).getD i 0 = old2 at *
      have HSm := Lib.hid hSr
      by_cases hv : all[i] = src
      · have g1 : ((all[i] : Int) == (src : Int)) = true := by rw [hv]; exact beq_self_eq_true _
        have hbf : bf0 src all[i] = 0 := by unfold bf0; rw [if_pos hv]
        rw [hbf] at HSt
        clear hv hbf hSr
        generalize all[i] = u at *
        go_wp2_with fail
        go_roundw
        case rel => exact ⟨i + 1, by go_num, by omega, Lib.hid (by rw [← HSt.out]; exact HF2.out)⟩
        case measure => simp [intOf]; omega
      · have g1 : ((all[i] : Int) == (src : Int)) = false := by rw [beq_eq_false_iff_ne]; omega
        have hbf : bf0 src all[i] = 9223372036854775808 := by unfold bf0; rw [if_neg hv]
        rw [hbf] at HSt
        clear hv hbf hSr
        generalize all[i] = u at *
        go_wp2_with fail
        go_roundw
        case rel => exact ⟨i + 1, by go_num, by omega, Lib.hid (by rw [← HSt.out]; exact HF1.out)⟩
        case measure => simp [intOf]; omega
    · have i1 : ¬ (i : Int) < (all.length : Int) := by omega
      have hie : i = all.length := by omega
      subst hie
      have HF0 : Hid (FaSt w G all.length (all.map (bfR (inB shun) E 0 (bf0 src))) wr) := Lib.hid (by
        have h := HF.out
        unfold initL at h
        rw [List.take_length, Nat.sub_self, List.replicate_zero, List.append_nil] at h
        exact h)
      clear HF
      go_wp2_with fail
      go_loopw [9] (fun vr wr => ∃ r : Nat, vr = .int .i64 r ∧ r ≤ all.length ∧ Hid (FaSt w G all.length (all.map (bfR (inB shun) E r (bf0 src))) wr)) (fun vr _ => all.length - (intOf vr).toNat)
      case atStart => exact ⟨0, rfl, by omega, HF0⟩
      case round =>
        clear HF0
        obtain ⟨r, rfl, hr, HF⟩ := hrel
        by_cases hrt : r < all.length
        · have i1 : (r : Int) < (all.length : Int) := by omega
          have HR1 : Hid (bfR (inB shun) E (r + 1) (bf0 src) = bfE (inB shun) E (bfR (inB shun) E r (bf0 src))) := Lib.hid rfl
          generalize bfR (inB shun) E r (bf0 src) = g0 at *
          have HF0 : Hid (FaSt w G all.length (all.map (bfE (inB shun) (E.take 0) g0)) wr) := HF
          clear HF
          go_wp2_with fail
          go_loopw [10] (fun vi wr => ∃ i : Nat, vi = .int .i64 i ∧ i ≤ E.length ∧ Hid (FaSt w G all.length (all.map (bfE (inB shun) (E.take i) g0)) wr)) (fun vi _ => E.length - (intOf vi).toNat)
          case atStart => exact ⟨0, rfl, by omega, HF0⟩
          case round =>
            clear HF0
            obtain ⟨i, rfl, hi, HF⟩ := hrel
            have hlow : Below G w wr := by rw [← HG.out]; exact HF.out.low
            have HNw := Lib.hid (HN.out wr hlow)
            obtain ⟨X, cx, X', cx', X'', cx'', k1, k2, _⟩ := HNw.out.row
            have c0 : wr.cell? ⟨NB, 0, none⟩ = some (.slice X E.length cx) := cell_of_row _ _ 0 _ _ _ k1
            by_cases hil : i < E.length
            · have j1 : (i : Int) < (E.length : Int) := by omega
              have j2 : (0 : Int) ≤ (i : Int) := by omega
              obtain ⟨b, o, hA, hb, e0, e1, e2, e3⟩ := ELs.at' k2 i hil
              subst hA
              have HTk := Lib.hid (bfE_take (inB shun) E g0 i hil)
              have HTl := Lib.hid (HT.out _ (List.getElem_mem hil))
              have HHl := Lib.hid (HHd.out _ (List.getElem_mem hil))
              clear k1 k2
              generalize E[i] = x at *
              generalize hg1 : bfE (inB shun) (E.take i) g0 = g1 at *
              generalize hg2 : bfE (inB shun) (E.take (i + 1)) g0 = g2 at *
              have HG2 := Lib.hid hg2
              clear hg1 hg2
              obtain ⟨W1, hW1⟩ : ∃ W1, wr.alloc (.cells #[.int .u32 (x.tail : Int), .int .u32 (x.head : Int), .int .u64 (x.weight : Int), .int .u32 (x.mid : Int)] 67) = W1 := ⟨_, rfl⟩
              have hb1 : Below wr.heap.size wr W1 := by rw [← hW1]; exact (Below.refl _ _).alloc (Nat.le_refl _) _
              have hbx : W1.heap[wr.heap.size]? = some (.cells x.cells 67 (0, 0)) := by rw [← hW1]; exact heap_alloc_new _ _
              have HF1 := Lib.hid (HF.out.below hb1)
              have HN1 := Lib.hid (HN.out W1 (hlow.trans (hb1.mono (HSz.out wr hlow))))
              have HS1 := Lib.hid (HS.out.below (hlow.trans (hb1.mono (HSz.out wr hlow))))
              have x0 : W1.cell? ⟨wr.heap.size, 0, none⟩ = some (.int .u32 (x.tail : Int)) := cell_of_row _ _ 0 _ _ _ hbx
              have x1 : W1.cell? ⟨wr.heap.size, 1, none⟩ = some (.int .u32 (x.head : Int)) := cell_of_row _ _ 1 _ _ _ hbx
              have x2 : W1.cell? ⟨wr.heap.size, 2, none⟩ = some (.int .u64 (x.weight : Int)) := cell_of_row _ _ 2 _ _ _ hbx
              have HW1 := Lib.hid hW1
              have HX := Lib.hid hbx
              obtain ⟨kt, hkt, hkt2, hkt3⟩ := pos_mem HTl.out
              obtain ⟨kh, hkh, hkh2, hkh3⟩ := pos_mem HHl.out
              have dt : W1.cell? ⟨G, kt, none⟩ = some (.int .u64 ((g1 x.tail : Nat) : Int)) := by
                have := HF1.out.cell kt hkt2
                rwa [map_getD hkt2 hkt3] at this
              have dhd : W1.cell? ⟨G, kh, none⟩ = some (.int .u64 ((g1 x.head : Nat) : Int)) := by
                have := HF1.out.cell kh hkh2
                rwa [map_getD hkh2 hkh3] at this
              have HPut := Lib.hid (fun s => map_put (s := s) HNd.out g1 hkh2 hkh3)
              have HPt : Hid (∀ n : Nat, Calls Try.prog 20 #[.slice A all.length c, .int .u32 (x.tail : Int)] (W1.drewN n) fun e w' => e = .returned (.int .i64 (kt : Int)) ∧ w' = W1.drewN n) := Lib.hid (fun n => (place_any G A all c x.tail (W1.drewN n) (HS1.out.keep fun _ _ => rfl)).mono fun e w' ⟨h1, h2⟩ => ⟨by rw [h1, hkt]; rfl, h2.symm⟩)
              have HPh : Hid (∀ n : Nat, Calls Try.prog 20 #[.slice A all.length c, .int .u32 (x.head : Int)] (W1.drewN n) fun e w' => e = .returned (.int .i64 (kh : Int)) ∧ w' = W1.drewN n) := Lib.hid (fun n => (place_any G A all c x.head (W1.drewN n) (HS1.out.keep fun _ _ => rfl)).mono fun e w' ⟨h1, h2⟩ => ⟨by rw [h1, hkh]; rfl, h2.symm⟩)
              have j3 : (0 : Int) ≤ (kt : Int) := by omega
              have j4 : (kt : Int) < (all.length : Int) := by omega
              have j5 : (0 : Int) ≤ (kh : Int) := by omega
              have j6 : (kh : Int) < (all.length : Int) := by omega
              have HAd := Lib.hid (fun W => (refAdd_any (g1 x.tail) x.weight W).mono fun e w' (h : _ ∧ _) => (⟨h.1, h.2.symm⟩ : _ ∧ w' = W))
              clear hW1 hb1 hbx hlow hkt hkt2 hkt3 hkh hkh2 hkh3
              go_wp2_with fail
              rw [HW1.out]
              clear HW1 c0 e0 e1 e2 e3
              go_quiet (first
                | (go_at_call 20; exact Calls.quiet_of_same (HPt.out _))
                | (go_at_call 28; exact Calls.quiet_of_same (HAd.out _)))
              have HF2 := Lib.hid (HF1.out.below (below_drewN (Below.refl _ W1) nq))
              have HN2 := Lib.hid (HN1.out.same (w' := W1.drewN nq) fun _ _ => rfl)
              have y1 : (W1.drewN nq).cell? ⟨wr.heap.size, 1, none⟩ = some (.int .u32 (x.head : Int)) := x1
              have HPw := Lib.hid (HPh.out nq)
              have dh : (W1.drewN nq).cell? ⟨G, kh, none⟩ = some (.int .u64 ((g1 x.head : Nat) : Int)) := dhd
              clear x0 x1 x2 dt dhd HF1 HN1 HS1 HPt HPh HAd HX
              generalize W1.drewN nq = W2 at *
              generalize wr.heap.size = XB at *
              go_wp2_with fail
              refine HPw.out.mono ?_
              rintro e w5 ⟨rfl, rfl⟩
              clear HPw
              have fz := HF2.out.froz kh
              generalize hfit : fitsB (g1 x.tail) x.weight = fit at *
              have HFit := Lib.hid hfit
              clear hfit
              cases fit with
              | false =>
                have HE : Hid (g2 = g1) := Lib.hid (by rw [HTk.out]; unfold bf1; rw [HFit.out, Bool.false_and, Bool.false_and, if_neg Bool.false_ne_true])
                go_wp2_with fail
                go_roundw
                case rel => exact ⟨i + 1, by go_num, by omega, Lib.hid (by rw [HG2.out, HE.out]; exact HF2.out)⟩
                case measure => simp [intOf]; omega
              | true =>
                have HAv := Lib.hid (avoid_any B NB E bad shun x.head w5 HN2.out)
                go_wp2_with fail
                refine HAv.out.mono ?_
                rintro e w6 ⟨rfl, rfl⟩
                clear HAv
                have HSum := Lib.hid (sumV_yes HFit.out)
                cases hav : inB shun x.head with
                | true =>
                  have HE : Hid (g2 = g1) := Lib.hid (by rw [HTk.out]; unfold bf1; rw [HFit.out, hav, Bool.not_true, Bool.and_false, Bool.false_and, if_neg Bool.false_ne_true])
                  clear hav
                  go_wp2_with fail
                  go_roundw
                  case rel => exact ⟨i + 1, by go_num, by omega, Lib.hid (by rw [HG2.out, HE.out]; exact HF2.out)⟩
                  case measure => simp [intOf]; omega
                | false =>
                  by_cases hlt2 : g1 x.tail + x.weight < g1 x.head
                  · have HE : Hid (g2 = fun u => if u = x.head then sumV (g1 x.tail) x.weight else g1 u) := Lib.hid (by rw [HSum.out, HTk.out]; unfold bf1; rw [HFit.out, hav, decide_eq_true hlt2]; rfl)
                    have q1 : decide (sumV (g1 x.tail) x.weight < g1 x.head) = true := by rw [decide_eq_true_iff, HSum.out]; exact hlt2
                    have q2 : ((sumV (g1 x.tail) x.weight : Nat) : Int) < ((g1 x.head : Nat) : Int) := by rw [HSum.out]; omega
                    have HPt := Lib.hid (HF2.out.put kh (by omega) (sumV (g1 x.tail) x.weight))
                    rw [HPut.out, ← HE.out] at HPt
                    clear hav hlt2
                    generalize sumV (g1 x.tail) x.weight = s at *
                    generalize g1 x.head = gh at *
                    go_wp2_with fail
                    go_roundw
                    case rel => exact ⟨i + 1, by go_num, by omega, Lib.hid (by rw [HG2.out]; exact HPt.out)⟩
                    case measure => simp [intOf]; omega
                  · have HE : Hid (g2 = g1) := Lib.hid (by rw [HTk.out]; unfold bf1; rw [decide_eq_false hlt2, Bool.and_false, if_neg Bool.false_ne_true])
                    have q1 : decide (sumV (g1 x.tail) x.weight < g1 x.head) = false := by rw [decide_eq_false_iff_not, HSum.out]; exact hlt2
                    have q2 : ¬ ((sumV (g1 x.tail) x.weight : Nat) : Int) < ((g1 x.head : Nat) : Int) := by rw [HSum.out]; omega
                    clear hav hlt2
                    generalize sumV (g1 x.tail) x.weight = s at *
                    generalize g1 x.head = gh at *
                    go_wp2_with fail
                    go_roundw
                    case rel => exact ⟨i + 1, by go_num, by omega, Lib.hid (by rw [HG2.out, HE.out]; exact HF2.out)⟩
                    case measure => simp [intOf]; omega
            · have j1 : ¬ (i : Int) < (E.length : Int) := by omega
              have hie : i = E.length := by omega
              subst hie
              rw [List.take_length, ← HR1.out] at HF
              clear k1 k2
              go_wp2_with fail
              go_roundw
              case rel => exact ⟨r + 1, by go_num, by omega, HF⟩
              case measure => simp [intOf]; omega
        · have i1 : ¬ (r : Int) < (all.length : Int) := by omega
          have hre : r = all.length := by omega
          subst hre
          go_wp2_with fail
          go_ret
          exact ⟨G, rfl, HF.out⟩
end Go.Proofs.Ytpnmfhcmodoeiaa
