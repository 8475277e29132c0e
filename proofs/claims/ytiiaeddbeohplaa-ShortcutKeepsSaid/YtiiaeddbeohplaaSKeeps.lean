/- ShortcutKeeps: for any net and any vertex the call returns true: when the vertex goes, and its shortcuts come, no distance between two others is another one. No condition. -/
import Derived.Test.YtiiaeddbeohplaaL7
import Derived.Test.YtiiaeddbeohplaaKq
import Derived.Test.YtiiaeddbeohplaaKt
import Derived.Deep.QuietTactic
import Derived.BigQuiet
namespace Go.Proofs.Ytiiaeddbeohplaa.shortcutKeeps
open Go.ChangeShapes Go.WideShapes Go.ChangeAt Go.RowKit Go.Deep
set_option maxRecDepth 100000 in
theorem large (A B C : Option Addr) (n c m d k e : Nat) (v : Nat) (w : World) (h : largeB n m k = true ∨ 0 < m) : Calls Try.prog 5 #[.agg #[.slice A n c, .slice B m d, .slice C k e], .int .u32 (v : Int)] w (LawOk w) := by
  have HW := Lib.hid works_any
  cases hL : largeB n m k with
  | true =>
    have HL := Lib.hid hL
    clear h hL
    go_enter Try.func5, Try.ntmps5
    go_wp2_with fail
    refine (large_any A B C n c m d k e _).mono ?_
    rw [HL.out]
    rintro e1 w1 ⟨rfl, hb1⟩
    have HB1 : Hid (Below w.heap.size w w1) := Lib.hid (((Below.refl _ _).alloc (Nat.le_refl _) _).trans (hb1.mono (by simp)))
    clear hb1
    go_wp2_with (go_at_call 11; with_reducible refine (HW.out _).mono ?_; rintro e w9 ⟨rfl, hb9⟩)
    go_ret
    exact ⟨rfl, HB1.out.trans (hb9.mono HB1.out.size)⟩
  | false =>
    have hm : 0 < m := by
      rcases h with h | h
      · rw [hL] at h; cases h
      · exact h
    have g1 : (0 : Int) < (m : Int) := by omega
    have g2 : decide (0 < m) = true := decide_eq_true hm
    have HL := Lib.hid hL
    obtain ⟨W1, hW1⟩ : ∃ W1, w.alloc (.cells #[.slice A n c, .slice B m d, .slice C k e] 25) = W1 := ⟨_, rfl⟩
    have hk : W1.heap[w.heap.size]? = some (.cells #[.slice A n c, .slice B m d, .slice C k e] 25 (0, 0)) := by rw [← hW1]; exact heap_alloc_new _ _
    have hbw : Below w.heap.size w W1 := by rw [← hW1]; exact (Below.refl _ _).alloc (Nat.le_refl _) _
    have HW1 := Lib.hid hW1
    have HK := Lib.hid hk
    have HBw := Lib.hid hbw
    clear h hL hm hW1 hk hbw
    go_enter Try.func5, Try.ntmps5
    go_wp2_with fail
    rw [HW1.out]
    refine (large_any A B C n c m d k e W1).mono ?_
    rw [HL.out]
    rintro e1 w1 ⟨rfl, hb1⟩
    have c1 : w1.cell? ⟨w.heap.size, 1, none⟩ = some (.slice B m d) := cell_of_row _ _ 1 _ _ _ ((hb1.block _ (Array.getElem?_eq_some_iff.1 HK.out).1).trans HK.out)
    have HB1 : Hid (Below w.heap.size w w1) := Lib.hid (HBw.out.trans (hb1.mono HBw.out.size))
    clear hb1
    go_wp2_with (go_at_call 11; with_reducible refine (HW.out _).mono ?_; rintro e w9 ⟨rfl, hb9⟩)
    go_ret
    exact ⟨rfl, HB1.out.trans (hb9.mono HB1.out.size)⟩
/-- two lists that grow side by side -/
structure KSt (M : Nat) (w2 : World) (va vl : Value) (a l : List Nat) (w : World) : Prop where
  oa : OwnV w M va a
  ol : OwnV w M vl l
  ne : ∀ k, va.ownBlock = some k → vl.ownBlock ≠ some k
  low : Below M w2 w
theorem KSt.nil (w : World) : KSt w.heap.size w (.slice none 0 0) (.slice none 0 0) [] [] w := ⟨OwnS.nil _ _ _ _ _, OwnS.nil _ _ _ _ _, fun k h => (by cases h), Below.refl _ _⟩
theorem KSt.symm {M : Nat} {w2 w : World} {va vl : Value} {a l : List Nat} (h : KSt M w2 va vl a l w) : KSt M w2 vl va l a w := ⟨h.ol, h.oa, fun k h1 h2 => h.ne k h2 h1, h.low⟩
theorem KSt.alloc {M : Nat} {w2 w : World} {va vl : Value} {a l : List Nat} (h : KSt M w2 va vl a l w) (hM : M ≤ w.heap.size) (o : Obj) : KSt M w2 va vl a l (w.alloc o) := ⟨h.oa.alloc o, h.ol.alloc o, h.ne, h.low.alloc hM o⟩
theorem KSt.add {M : Nat} {w2 w w' : World} {va vl va' : Value} {a l a' : List Nat} (h : KSt M w2 va vl a l w) (hM : M ≤ w.heap.size) (hown : OwnV w' M va' a') (hg : w.grownBy w' va.ownBlock) (hx : va'.ownBlock = va.ownBlock ∨ va'.ownBlock = some w.heap.size) : KSt M w2 va' vl a' l w' := by
  refine ⟨hown, h.ol.kept hg ?_, fun k hk hl => ?_, h.low.grown hg hM fun r hr => (h.oa.lt r hr).1⟩
  · cases hb : vl.ownBlock with
    | none => exact .inl rfl
    | some k => exact .inr fun e => h.ne k e.symm hb
  · rcases hx with hx | hx
    · exact h.ne k (hx ▸ hk) hl
    · rw [hx] at hk; injection hk with hk
      have := (h.ol.lt k hl).2
      omega
def allF (shun : List Nat) (v u : Nat) : Bool := u == v || !inB shun u
def leftF (shun : List Nat) (v u : Nat) : Bool := !(u == v) && !inB shun u
theorem filter_next {f : Nat → Bool} {l : List Nat} {i : Nat} (hi : i < l.length) : (l.take (i + 1)).filter f = (l.take i).filter f ++ (if f l[i] = true then [l[i]] else []) := by
  rw [List.take_succ_eq_append_getElem hi, List.filter_append]
  congr 1
  cases h : f l[i] <;> simp [h]
theorem sets_of (E : List Edg) (shun : List Nat) (v : Nat) : Sets E shun v ((verts E).filter (allF shun v)) ((verts E).filter (leftF shun v)) := by
  refine ⟨fun u => ?_, fun u => ?_⟩
  · rw [List.mem_filter, verts_mem]
    unfold allF
    rw [Bool.or_eq_true, beq_iff_eq, Bool.not_eq_true']
  · rw [List.mem_filter, verts_mem]
    unfold leftF
    rw [Bool.and_eq_true, Bool.not_eq_true', Bool.not_eq_true', beq_eq_false_iff_ne]
theorem pairs_len (I O : List Edg) : (pairsOf I O 0).length = I.length * O.length := by
  unfold pairsOf
  rw [List.drop_zero]
  induction I with
  | nil => simp
  | cons a I ih => rw [List.flatMap_cons, List.length_append, List.length_map, ih, List.length_cons, Nat.succ_mul, Nat.add_comm]
theorem make_len {E : List Edg} {av : Nat → Bool} {v : Nat} {hv : v < 4294967296} (h : E.length ≤ 80) : (makeR (netOut E []) (netIn E []) av v hv).1.length ≤ 6400 := by
  rw [make_ok_free]
  have h1 := goR_len (P := pairR (netOut E []) av v hv) (r := pairsOf (netIn E [] v).1 (netOut E [] v).1 0) (acc := [])
  rw [pairs_len] at h1
  have h2 := netIn_len E [] v
  have h3 := netOut_len E [] v
  have h4 : (netIn E [] v).1.length * (netOut E [] v).1.length ≤ 80 * 80 := Nat.mul_le_mul (by omega) (by omega)
  simp only [List.length_nil] at h1
  omega
set_option maxRecDepth 100000 in
set_option maxHeartbeats 16000000 in
theorem walk (A B C : Option Addr) (n c m d k e : Nat) (v : Nat) (w : World) (hn : NetIn w A B C n m k) (hv : v < 4294967296) :
    Calls Try.prog 5 #[.agg #[.slice A n c, .slice B m d, .slice C k e], .int .u32 (v : Int)] w (LawOk w) := by
  by_cases hbig : largeB n m k = true ∨ 0 < m
  · exact large A B C n c m d k e v w hbig
  have hL : largeB n m k = false := by
    cases h : largeB n m k with
    | true => exact absurd (.inl h) hbig
    | false => rfl
  have HW := Lib.hid works_any
  obtain ⟨E, bad, shun, rfl, hbl, rfl, hE, _, hsh, h0, h1, h2⟩ := hn.lists hL
  have hbad : bad = [] := List.eq_nil_of_length_eq_zero (by omega)
  subst hbad
  subst hbl
  have HL := Lib.hid hL
  obtain ⟨W1, hW1, k1, k2, k3, k4⟩ := boxed_net c d e h0 h1 h2
  have HW1 := Lib.hid hW1
  have HK1 := Lib.hid k1
  have HK2 := Lib.hid k2
  have HK4 := Lib.hid k4
  have HLG := Lib.hid (large_any A B C E.length c 0 d shun.length e W1)
  clear hn hL h0 h1 h2 k1 k2 k3 k4 hW1 hbig
  go_enter Try.func5, Try.ntmps5
  go_wp2_with fail
  have HW1b : Hid (w.alloc (.cells #[.slice A E.length c, .slice B 0 d, .slice C shun.length e] 25) = W1) := HW1
  rw [HW1b.out]
  clear HW1 HW1b
  refine HLG.out.mono ?_
  rintro e1 w1 ⟨rfl, hb1⟩
  have hl2 : largeB E.length 0 shun.length = false := HL.out
  rw [hl2]
  clear HLG HL hl2
  have HN1 := Lib.hid (HK1.out.nets (Nat.le_refl _) hb1 hb1.size)
  have HB1 : Hid (Below w.heap.size w w1) := Lib.hid (HK2.out.trans (hb1.mono HK2.out.size))
  have r1 := (hb1.block _ (Array.getElem?_eq_some_iff.1 HK4.out).1).trans HK4.out
  have c1 : w1.cell? ⟨w.heap.size, 1, none⟩ = some (.slice B 0 d) := cell_of_row _ _ 1 _ _ _ r1
  obtain ⟨A0, c0, A1, c1', A2, c2, hr, he1, _, _⟩ := HN1.out.row
  have d0 : w1.cell? ⟨w.heap.size, 0, none⟩ = some (.slice A0 E.length c0) := cell_of_row _ _ 0 _ _ _ hr
  have HD0 := Lib.hid d0
  have HE1 := Lib.hid he1
  have HNb := Lib.hid HN1.out.lt
  clear hb1 HK1 HK2 HK4 r1 hr he1
  have HVt := Lib.hid (verts_any w1.heap.size A0 E c0 w1 HE1.out (Nat.le_refl _) (by omega))
  have hvl : (verts E).length ≤ 160 := by have := vertsTo_len (E := E) (2 * E.length); unfold verts; omega
  have HVn := Lib.hid (show (verts E).Nodup from vertsTo_nodup (E := E) _)
  have HSets := Lib.hid (sets_of E shun v)
  generalize verts E = nm at *
  go_wp2_with fail
  refine HVt.out.mono ?_
  rintro e1 w2 ⟨AV, cV, rfl, hov, hb2⟩
  have HV2 := Lib.hid (own_vls hov (by omega))
  have HN2 := Lib.hid (HN1.out.nets (Nat.le_refl _) hb2 hb2.size)
  have HB2 : Hid (Below w.heap.size w w2) := Lib.hid (HB1.out.trans (hb2.mono HB1.out.size))
  have HE2 := Lib.hid ((HE1.out.below hb2).more hb2.size)
  have HD2 := Lib.hid ((hb2.cell (p := ⟨w.heap.size, 0, none⟩) HNb.out).trans HD0.out)
  have HNb2 : Hid (w.heap.size < w2.heap.size) := Lib.hid HN2.out.lt
  clear hov hb2 HN1 HB1 HVt HE1 HD0 d0 c1 HNb
  have HS0 : Hid (KSt w2.heap.size w2 (.slice none 0 0) (.slice none 0 0) [] [] w2) := Lib.hid (KSt.nil w2)
  generalize hMe : w2.heap.size = M at *
  have HMe := Lib.hid hMe
  clear hMe
  go_wp2_with fail
  go_loopw [5, 6, 8] (fun va vl vi wr => ∃ (i : Nat) (Q : Option Addr) (q : Nat) (P : Option Addr) (p : Nat), vi = .int .i64 i ∧ i ≤ nm.length ∧ va = .slice Q ((nm.take i).filter (allF shun v)).length q ∧ vl = .slice P ((nm.take i).filter (leftF shun v)).length p ∧
    Hid (KSt M w2 (.slice Q ((nm.take i).filter (allF shun v)).length q) (.slice P ((nm.take i).filter (leftF shun v)).length p) ((nm.take i).filter (allF shun v)) ((nm.take i).filter (leftF shun v)) wr)) (fun _ _ vi _ => nm.length - (intOf vi).toNat)
  case atStart => exact ⟨0, none, 0, none, 0, rfl, by omega, rfl, rfl, HS0⟩
  case round =>
    clear HS0
    obtain ⟨i, Q, q, P, p, rfl, hi, rfl, rfl, HK⟩ := hrel
    by_cases hil : i < nm.length
    · have i1 : (i : Int) < (nm.length : Int) := by omega
      have i2 : (0 : Int) ≤ (i : Int) := by omega
      have HNa := Lib.hid (filter_next (f := allF shun v) hil)
      have HNl := Lib.hid (filter_next (f := leftF shun v) hil)
      obtain ⟨b, o, rfl, hb, z00⟩ := VLs.at' HV2.out i hil
      have hal : ((nm.take i).filter (allF shun v)).length ≤ 160 := by have := List.length_filter_le (allF shun v) (nm.take i); simp only [List.length_take] at this; omega
      have hlfl : ((nm.take i).filter (leftF shun v)).length ≤ 160 := by have := List.length_filter_le (leftF shun v) (nm.take i); simp only [List.length_take] at this; omega
      have z0 := Lib.hid z00
      clear z00
      have hMb : M ≤ wr.heap.size := by have := HMe.out; have := HK.out.low.size; omega
      have e0 := (HK.out.low.cell (p := ⟨b, o + i, none⟩) hb).trans z0.out
      generalize hu : nm[i] = u at *
      clear hu
      have HAv : Hid (∀ W, Below M w2 W → Calls Try.prog 15 #[.pointer (some ⟨w.heap.size, 0, none⟩), .int .u32 (u : Int)] W fun e w' => e = .returned (.bool (inB shun u)) ∧ w' = W) := Lib.hid (fun W hb => (avoid_any M w.heap.size E [] shun u W (HN2.out.below (Nat.le_of_eq HMe.out.symm) (by rw [HMe.out]; exact hb))).mono fun e w' h => ⟨h.1, h.2.symm⟩)
      generalize (nm.take i).filter (allF shun v) = al at *
      generalize (nm.take i).filter (leftF shun v) = lf at *
      generalize hal2 : (nm.take (i + 1)).filter (allF shun v) = al2 at *
      generalize hlf2 : (nm.take (i + 1)).filter (leftF shun v) = lf2 at *
      have HA2 := Lib.hid hal2
      have HL2 := Lib.hid hlf2
      clear hal2 hlf2
      by_cases huv : u = v
      · subst huv
        have HXa : Hid (al2 = al ++ [u]) := Lib.hid (by rw [HNa.out]; unfold allF; rw [beq_self_eq_true, Bool.true_or, if_pos rfl])
        have HXl : Hid (lf2 = lf) := Lib.hid (by rw [HNl.out]; unfold leftF; rw [beq_self_eq_true, Bool.not_true, Bool.false_and, if_neg Bool.false_ne_true, List.append_nil])
        have HKa := Lib.hid (HK.out.alloc hMb (.cells #[.int .u32 (u : Int)] 26))
        have HS2 : Hid (VLs (wr.heap.size + 1) (wr.alloc (.cells #[.int .u32 (u : Int)] 26)) (some ⟨wr.heap.size, 0, none⟩) [u]) := Lib.hid (SR.one (sz := 1) (enc := vEnc) u (heap_alloc_new wr _) rfl _ (by omega))
        have HMz : Hid (M ≤ (wr.alloc (.cells #[.int .u32 (u : Int)] 26)).heap.size) := Lib.hid (by have := HMe.out; have := HK.out.low.size; simp; omega)
        clear HNa HNl HK HAv
        go_wp2_with (at_builtin
                     refine wpList_append_sr _ rfl (.tmp 48) (.tmp 53) v_ety rfl M (.slice Q al.length q) al rfl HKa.out.oa (wr.heap.size + 1) (some ⟨wr.heap.size, 0, none⟩) 1 1 [u] rfl rfl HS2.out (by simp [maxLen]; omega) (by simp; omega) HMz.out ?_
                     intro Q2 q2 w8 hown hg hx
                     have HK8 := Lib.hid (HKa.out.add HMz.out hown hg hx)
                     have f0 : w8.cell? ⟨b, o + i, none⟩ = some (.int .u32 (u : Int)) := (HK8.out.low.cell (p := ⟨b, o + i, none⟩) hb).trans z0.out
                     clear hown hg hx HKa HS2 HMz)
        go_wp2_with fail
        go_roundw
        case rel => exact ⟨i + 1, Q2, q2, P, p, by go_num, by omega, by rw [HA2.out, HXa.out]; simp, by rw [HL2.out, HXl.out], Lib.hid (by rw [HA2.out, HXa.out, HL2.out, HXl.out, List.length_append]; exact HK8.out)⟩
        case measure => simp [intOf]; omega
      · have g1 : ((u : Int) == (v : Int)) = false := by rw [beq_eq_false_iff_ne]; omega
        have g2 : ¬ (u : Int) = (v : Int) := by omega
        have huv2 : (u == v) = false := by rw [beq_eq_false_iff_ne]; exact huv
        cases hs : inB shun u with
        | true =>
          rw [hs] at HAv
          have HXa : Hid (al2 = al) := Lib.hid (by rw [HNa.out]; unfold allF; rw [huv2, hs, Bool.false_or, Bool.not_true, if_neg Bool.false_ne_true, List.append_nil])
          have HXl : Hid (lf2 = lf) := Lib.hid (by rw [HNl.out]; unfold leftF; rw [huv2, hs, Bool.not_true, Bool.and_false, if_neg Bool.false_ne_true, List.append_nil])
          have HA1 := Lib.hid (HAv.out wr HK.out.low)
          clear HNa HNl HAv hs huv huv2
          go_wp2_with fail
          refine HA1.out.mono ?_
          rintro e5 w5 ⟨rfl, rfl⟩
          go_wp2_with fail
          refine HA1.out.mono ?_
          rintro e5 w5 ⟨rfl, rfl⟩
          go_wp2_with fail
          go_roundw
          case rel => exact ⟨i + 1, Q, q, P, p, by go_num, by omega, by rw [HA2.out, HXa.out], by rw [HL2.out, HXl.out], Lib.hid (by rw [HA2.out, HXa.out, HL2.out, HXl.out]; exact HK.out)⟩
          case measure => simp [intOf]; omega
        | false =>
          rw [hs] at HAv
          have HXa : Hid (al2 = al ++ [u]) := Lib.hid (by rw [HNa.out]; unfold allF; rw [huv2, hs, Bool.false_or, Bool.not_false, if_pos rfl])
          have HXl : Hid (lf2 = lf ++ [u]) := Lib.hid (by rw [HNl.out]; unfold leftF; rw [huv2, hs, Bool.not_false, Bool.and_true, if_pos rfl])
          have HA1 := Lib.hid (HAv.out wr HK.out.low)
          have HKa := Lib.hid (HK.out.alloc hMb (.cells #[.int .u32 (u : Int)] 26))
          have HS2 : Hid (VLs (wr.heap.size + 1) (wr.alloc (.cells #[.int .u32 (u : Int)] 26)) (some ⟨wr.heap.size, 0, none⟩) [u]) := Lib.hid (SR.one (sz := 1) (enc := vEnc) u (heap_alloc_new wr _) rfl _ (by omega))
          have HMz : Hid (M ≤ (wr.alloc (.cells #[.int .u32 (u : Int)] 26)).heap.size) := Lib.hid (by have := HMe.out; have := HK.out.low.size; simp; omega)
          clear HNa HNl hs huv huv2 HK
          go_wp2_with fail
          refine HA1.out.mono ?_
          rintro e5 w5 ⟨rfl, rfl⟩
          clear HA1
          go_wp2_with (at_builtin
                       refine wpList_append_sr _ rfl (.tmp 48) (.tmp 53) v_ety rfl M (.slice Q al.length q) al rfl HKa.out.oa (w5.heap.size + 1) (some ⟨w5.heap.size, 0, none⟩) 1 1 [u] rfl rfl HS2.out (by simp [maxLen]; omega) (by simp; omega) HMz.out ?_
                       intro Q2 q2 w8 hown hg hx
                       have HK8 := Lib.hid (HKa.out.add HMz.out hown hg hx)
                       have f0 : w8.cell? ⟨b, o + i, none⟩ = some (.int .u32 (u : Int)) := (HK8.out.low.cell (p := ⟨b, o + i, none⟩) hb).trans z0.out
                       clear hown hg hx HKa HS2 HMz)
          have HA3 := Lib.hid (HAv.out w8 HK8.out.low)
          have hMb2 : M ≤ w8.heap.size := by have := HMe.out; have := HK8.out.low.size; omega
          have HKl := Lib.hid (HK8.out.symm.alloc hMb2 (.cells #[.int .u32 (u : Int)] 26))
          have HS3 : Hid (VLs (w8.heap.size + 1) (w8.alloc (.cells #[.int .u32 (u : Int)] 26)) (some ⟨w8.heap.size, 0, none⟩) [u]) := Lib.hid (SR.one (sz := 1) (enc := vEnc) u (heap_alloc_new w8 _) rfl _ (by omega))
          have HMy : Hid (M ≤ (w8.alloc (.cells #[.int .u32 (u : Int)] 26)).heap.size) := Lib.hid (by have := HMe.out; have := HK8.out.low.size; simp; omega)
          clear HAv HK8
          refine HA3.out.mono ?_
          rintro e5 w9 ⟨rfl, rfl⟩
          clear HA3
          go_wp2_with (at_builtin
                       refine wpList_append_sr _ rfl (.tmp 69) (.tmp 74) v_ety rfl M (.slice P lf.length p) lf rfl HKl.out.oa (w9.heap.size + 1) (some ⟨w9.heap.size, 0, none⟩) 1 1 [u] rfl rfl HS3.out (by simp [maxLen]; omega) (by simp; omega) HMy.out ?_
                       intro P2 p2 w10 hown hg hx
                       have HK10 := Lib.hid (HKl.out.add HMy.out hown hg hx).symm
                       clear hown hg hx HKl HS3 HMy)
          go_wp2_with fail
          go_roundw
          case rel => exact ⟨i + 1, Q2, q2, P2, p2, by go_num, by omega, by rw [HA2.out, HXa.out]; simp, by rw [HL2.out, HXl.out]; simp, Lib.hid (by rw [HA2.out, HXa.out, HL2.out, HXl.out, List.length_append, List.length_append]; exact HK10.out)⟩
          case measure => simp [intOf]; omega
    · have i1 : ¬ (i : Int) < (nm.length : Int) := by omega
      have hie : i = nm.length := by omega
      subst hie
      rw [List.take_length] at HK ⊢
      have hall : (nm.filter (allF shun v)).length ≤ 160 := Nat.le_trans (List.length_filter_le _ _) hvl
      have hlfl : (nm.filter (leftF shun v)).length ≤ 160 := Nat.le_trans (List.length_filter_le _ _) hvl
      have HNa : Hid (nm.filter (allF shun v)).Nodup := Lib.hid (HVn.out.filter _)
      have HNl : Hid (nm.filter (leftF shun v)).Nodup := Lib.hid (HVn.out.filter _)
      generalize nm.filter (allF shun v) = al at *
      generalize nm.filter (leftF shun v) = lf at *
      have HVa := Lib.hid (own_vls HK.out.oa (by omega))
      have HVl := Lib.hid (own_vls HK.out.ol (by omega))
      have HLw := Lib.hid HK.out.low
      have hMw : M ≤ wr.heap.size := by have := HMe.out; have := HK.out.low.size; omega
      have HBr : Hid (Below w.heap.size w wr) := Lib.hid (HB2.out.trans (HLw.out.mono (Nat.le_of_lt HNb2.out)))
      have HNr : Hid (NetAt wr.heap.size w.heap.size E [] shun wr) := Lib.hid ((HN2.out.below (Nat.le_of_eq HMe.out.symm) (by rw [HMe.out]; exact HLw.out)).more hMw)
      have HEr : Hid (ELs wr.heap.size wr A0 E) := Lib.hid ((HE2.out.below HLw.out).more hMw)
      have HDr : Hid (wr.cell? ⟨w.heap.size, 0, none⟩ = some (.slice A0 E.length c0)) := Lib.hid ((HLw.out.cell (p := ⟨w.heap.size, 0, none⟩) HNb2.out).trans HD2.out)
      have HNbr : Hid (w.heap.size < wr.heap.size) := Lib.hid HNr.out.lt
      clear HK HVn HV2 HN2 HE2 HD2 HB2 HNb2 HMe hMw HLw hi hil i1
      by_cases h14 : 14 < al.length
      · have g1 : (14 : Int) < (al.length : Int) := by omega
        clear h14
        go_wp2_with (go_at_call 11; with_reducible refine (HW.out _).mono ?_; rintro e w9 ⟨rfl, hb9⟩)
        go_ret
        exact ⟨rfl, HBr.out.trans (hb9.mono HBr.out.size)⟩
      · have g1 : ¬ (14 : Int) < (al.length : Int) := by omega
        have HMk := Lib.hid (make_net w.heap.size E [] shun v hv wr HNr.out (by omega))
        rw [make_err_free] at HMk
        have HKp := Lib.hid (fun u w (hu : u ∈ lf) (hw : w ∈ lf) => keeps (hv := hv) HSets.out hu hw)
        have hll := make_len (E := E) (av := inB shun) (v := v) (hv := hv) hE
        generalize (makeR (netOut E []) (netIn E []) (inB shun) v hv).1 = L at *
        clear HNr
        go_wp2_with fail
        refine HMk.out.mono ?_
        rintro e1 w3 ⟨PL, pL, rfl, hl3, hb3⟩
        have HL3 := Lib.hid hl3
        have HVa3 := Lib.hid ((HVa.out.below hb3).more hb3.size)
        have HVl3 := Lib.hid ((HVl.out.below hb3).more hb3.size)
        have HE3 := Lib.hid ((HEr.out.below hb3).more hb3.size)
        have HB3 : Hid (Below w.heap.size w w3) := Lib.hid (HBr.out.trans (hb3.mono HBr.out.size))
        have d3 := (hb3.cell (p := ⟨w.heap.size, 0, none⟩) HNbr.out).trans HDr.out
        have HNb3 : Hid (w.heap.size < w3.heap.size) := Lib.hid (Nat.lt_of_lt_of_le HNbr.out hb3.size)
        have HTb := Lib.hid (table_any w3.heap.size w3.heap.size Q A0 q c0 al E w3 HVa3.out HE3.out (Nat.le_refl _) (Nat.le_refl _) HNa.out (by omega) (by omega))
        have HD3 := Lib.hid d3
        clear hl3 hb3 HMk HVa HVl HEr HBr HDr HNbr
        go_wp2_with fail
        refine HTb.out.mono ?_
        rintro e1 w4 ⟨D1, d1, gs1, rfl, hg1, ht1, hb4⟩
        have HG1 := Lib.hid hg1
        have HT1 := Lib.hid ht1
        have HVa4 := Lib.hid ((HVa3.out.below hb4).more hb4.size)
        have HVl4 := Lib.hid ((HVl3.out.below hb4).more hb4.size)
        have HE4 := Lib.hid ((HE3.out.below hb4).more hb4.size)
        have HL4 := Lib.hid ((HL3.out.below hb4).more hb4.size)
        have HB4 : Hid (Below w.heap.size w w4) := Lib.hid (HB3.out.trans (hb4.mono HB3.out.size))
        have d4 := (hb4.cell (p := ⟨w.heap.size, 0, none⟩) HNb3.out).trans HD3.out
        clear hg1 ht1 hb4 HTb HVa3 HVl3 HE3 HL3 HB3 HD3 d3
        go_wp2_with (first
                     | (at_builtin
                        refine wpList_append_sr _ rfl (.tmp 94) (.tmp 96) edge_ety rfl w4.heap.size (.slice none 0 0) [] rfl (OwnS.nil _ _ _ _ _) w4.heap.size A0 E.length c0 E rfl rfl HE4.out (by simp [maxLen]; omega) (by simp; omega) (Nat.le_refl _) ?_
                        intro Q5 q5 w5 hown hg _
                        have HB5 : Hid (Below w4.heap.size w4 w5) := Lib.hid ((Below.refl _ _).grown hg (Nat.le_refl _) (fun r hr => by cases hr))
                        have HO5 : Hid (OwnS w5 w4.heap.size 43 4 Edg.enc (.slice Q5 E.length q5) E) := Lib.hid (by simpa using hown)
                        have HL5 := Lib.hid (HL4.out.below HB5.out)
                        clear hown hg)
                     | (at_builtin
                        refine wpList_append_sr _ rfl (.tmp 98) (.tmp 99) edge_ety rfl w4.heap.size (.slice Q5 E.length q5) E rfl HO5.out w4.heap.size PL L.length pL L rfl rfl HL5.out (by simp only [maxLen]; omega) (by omega) HB5.out.size ?_
                        intro Q6 q6 w6 hown hg _
                        have HB6 : Hid (Below w4.heap.size w4 w6) := Lib.hid (HB5.out.grown hg HB5.out.size (fun r hr => (HO5.out.lt r hr).1))
                        have HO6 := Lib.hid hown
                        clear hown hg HO5 HB5 HL5))
        have hEL : (E ++ L).length = E.length + L.length := List.length_append
        have HE6 : Hid (ELs w6.heap.size w6 Q6 (E ++ L)) := Lib.hid (own_els HO6.out (by rw [hEL]; omega))
        have HVl6 := Lib.hid ((HVl4.out.below HB6.out).more HB6.out.size)
        have HVa6 := Lib.hid ((HVa4.out.below HB6.out).more HB6.out.size)
        have HT6 := Lib.hid (HT1.out.below HB6.out)
        have HBw6 : Hid (Below w.heap.size w w6) := Lib.hid (HB4.out.trans (HB6.out.mono HB4.out.size))
        have hlf14 : lf.length ≤ 1000 := by omega
        have htb := table_any w6.heap.size w6.heap.size P Q6 p q6 lf (E ++ L) w6 HVl6.out HE6.out (Nat.le_refl _) (Nat.le_refl _) HNl.out hlf14 (by rw [hEL]; omega)
        rw [hEL] at htb
        have HTb := Lib.hid htb
        clear htb HO6 HB6 HE6 HVl4 HVa4 HT1 HB4 HL4 HE4 d4 hEL
        refine HTb.out.mono ?_
        rintro e1 w7 ⟨D2, d2, gs2, rfl, hg2, ht2, hb7⟩
        have HG2 := Lib.hid hg2
        have HT2 := Lib.hid ht2
        have HT7 := Lib.hid (HT6.out.below hb7)
        have HVa7 := Lib.hid ((HVa6.out.below hb7).more hb7.size)
        have HVl7 := Lib.hid ((HVl6.out.below hb7).more hb7.size)
        have HB7 : Hid (Below w.heap.size w w7) := Lib.hid (HBw6.out.trans (hb7.mono HBw6.out.size))
        clear hg2 ht2 hb7 HTb HVa6 HVl6 HT6 HBw6
        go_wp2_with fail
        go_loopw [14] (fun vi wr => ∃ i : Nat, vi = .int .i64 i ∧ i ≤ lf.length ∧ Hid (Drew w7 wr)) (fun vi _ => lf.length - (intOf vi).toNat)
        case atStart => exact ⟨0, rfl, by omega, Lib.hid (Drew.refl _)⟩
        case round =>
          obtain ⟨i, rfl, hi, HDw⟩ := hrel
          by_cases hil : i < lf.length
          · have i1 : (i : Int) < (lf.length : Int) := by omega
            have i2 : (0 : Int) ≤ (i : Int) := by omega
            go_wp2_with fail
            go_loopw [15] (fun vk wr => ∃ k : Nat, vk = .int .i64 k ∧ k ≤ lf.length ∧ Hid (Drew w7 wr)) (fun vk _ => lf.length - (intOf vk).toNat)
            case atStart => exact ⟨0, rfl, by omega, HDw⟩
            case round =>
              clear HDw
              obtain ⟨k, rfl, hk, HDw⟩ := hrel
              by_cases hkl : k < lf.length
              · have k1 : (k : Int) < (lf.length : Int) := by omega
                have k2 : (0 : Int) ≤ (k : Int) := by omega
                have HTa := Lib.hid (HT7.out.below (HDw.out.below _))
                have HTl := Lib.hid (HT2.out.below (HDw.out.below _))
                have HVa8 := Lib.hid (HVa7.out.drew HDw.out)
                have HVl8 := Lib.hid (HVl7.out.drew HDw.out)
                have hgi : i < gs2.length := by rw [HG2.out]; exact hil
                have hmi : lf[i] ∈ al := HSets.out.sub (List.getElem_mem hil)
                have hmk : lf[k] ∈ al := HSets.out.sub (List.getElem_mem hkl)
                obtain ⟨ki, hki, lki, eki⟩ := pos_mem hmi
                obtain ⟨kk, hkk, lkk, ekk⟩ := pos_mem hmk
                have hga : ki < gs1.length := by rw [HG1.out]; exact lki
                obtain ⟨b2, o2, rfl, r2⟩ := HTl.out.outer (by rw [HG2.out]; omega) hgi
                obtain ⟨b1, o1, rfl, r1⟩ := HTa.out.outer (by rw [HG1.out]; omega) hga
                have c2 := HTl.out.cell hgi hkl
                have c1 := HTa.out.cell hga lkk
                rw [rows_at hil hkl, HKp.out _ _ (List.getElem_mem hil) (List.getElem_mem hkl)] at c2
                rw [rows_at lki lkk, eki, ekk] at c1
                obtain ⟨b5, o5, hA5, _, f1⟩ := VLs.at' HVl8.out i hil
                obtain ⟨b6, o6, hA6, _, f2⟩ := VLs.at' HVl8.out k hkl
                subst hA5
                obtain ⟨rfl, rfl⟩ : b6 = b5 ∧ o6 = o5 := by injection hA6 with h; injection h with h1 h2; exact ⟨h1.symm, h2.symm⟩
                have HP1 := Lib.hid (fun n : Nat => (place_any w7.heap.size Q al q lf[i] (wr.drewN n) (HVa8.out.keep fun _ _ => rfl)).mono fun e w' (h : _ ∧ _) => (⟨by rw [h.1, hki]; rfl, h.2.symm⟩ : e = .returned (.int .i64 (ki : Int)) ∧ w' = wr.drewN n))
                have HP2 := Lib.hid (fun n : Nat => (place_any w7.heap.size Q al q lf[k] (wr.drewN n) (HVa8.out.keep fun _ _ => rfl)).mono fun e w' (h : _ ∧ _) => (⟨by rw [h.1, hkk]; rfl, h.2.symm⟩ : e = .returned (.int .i64 (kk : Int)) ∧ w' = wr.drewN n))
                have z1 : (0 : Int) ≤ (ki : Int) := by omega
                have z2 : (ki : Int) < (al.length : Int) := by omega
                have z3 : (0 : Int) ≤ (kk : Int) := by omega
                have z4 : (kk : Int) < (al.length : Int) := by omega
                have hg1' := HG1.out
                have hg2' := HG2.out
                have HDw2 := Lib.hid (fun n => HDw.out.drewN n)
                generalize tabV al E lf[i] lf[k] = z at *
                generalize gs1[ki] = g1b at *
                generalize gs2[i] = g2b at *
                generalize lf[i] = ui at *
                generalize lf[k] = uk at *
                clear hA6 hki hkk eki ekk lki lkk hmi hmk hgi hga hg1' hg2' g1 h14 hall hlf14 hll hvl hE hsh
                go_wp2_with fail
                go_quiet ((go_at_call 23; first | (with_reducible exact Calls.quiet_of_same (HP1.out _)) | (with_reducible exact Calls.quiet_of_same (HP2.out _))))
                have HDx := Lib.hid (HDw2.out nq)
                clear r1 r2 c1 c2 f1 f2 HTa HTl HVa8 HVl8 HP1 HP2 HDw2 HDw
                generalize wr.drewN nq = w8 at *
                go_wp2_with fail
                go_roundw
                case rel => exact ⟨k + 1, by go_num, by omega, HDx⟩
                case measure => simp [intOf]; omega
              · have k1 : ¬ (k : Int) < (lf.length : Int) := by omega
                go_wp2_with fail
                go_roundw
                case rel => exact ⟨i + 1, by go_num, by omega, HDw⟩
                case measure => simp [intOf]; omega
          · have i1 : ¬ (i : Int) < (lf.length : Int) := by omega
            have HBz : Hid (Below w.heap.size w wr) := Lib.hid (HB7.out.trans (HDw.out.below _))
            go_wp2_with (go_at_call 11; with_reducible refine (HW.out _).mono ?_; rintro e w9 ⟨rfl, hb9⟩)
            go_ret
            exact ⟨rfl, HBz.out.trans (hb9.mono HBz.out.size)⟩

set_option maxRecDepth 100000 in
theorem lifted (os : Os) (started : os.Started) (H : Type) (enc : TypeId × Value → H) :
    ReturnsInHanded {} Try.checked os 5 .any (Rows.shortcutKeepsSpec.pre6 enc Try.prog Try.f5 Rows.shortcutKeepsRow.domain false) (Rows.shortcutKeepsSpec.post enc Try.prog Try.f5 false true false false) := by
  refine returnsInHanded_of_change (C := Try.checked) own_knob started (by kernel_rfl) Try.func5
    (ChangeSpec.witness6 (enc := enc) (C := Try.checked) false ⟨#[], #[.agg #[.slice none 0 0,.slice none 0 0,.slice none 0 0], .int .u32 0], []⟩ 8 (by kernel_rfl) (by kernel_rfl) (by kernel_rfl) (by kernel_rfl)) ?_
  intro W base args ds gs before hval0 hW _ _
  have hval : ∀ (j : Nat) t v, Try.f5.params[j]? = some t → args[j]? = some v → Value.okWide Try.prog W .any base t v := hval0
  have hW' := hW
  obtain ⟨p, q, hA0, hV, rfl, _, _⟩ := hW
  have hA : DataW.TrodAll enc Try.prog W 0 (fun _ => true) true Try.f5.params.toList args.toList ds p := hA0
  rw [Try.params5] at hA hval
  obtain ⟨v0, vs0, d0, ds0, p0, q0, hargs, rfl, rfl, h0, r0⟩ := trodAll_cons hA
  obtain ⟨v1, vs1, d1, ds1, p1, q1, rfl, rfl, rfl, h1, r1⟩ := trodAll_cons r0
  obtain ⟨rfl, rfl, rfl⟩ := trodAll_nil r1
  obtain rfl : args = #[v0, v1] := by cases args; simp_all
  obtain ⟨rfl, rfl⟩ := trodVars_none hV
  have hlt : ∀ x ∈ p0 ++ (p1), x.block < W.heap.size := fun x hx => hW'.lt x (by simpa using hx)
  obtain ⟨A0, B0, C0, n0, c0, m0, d0, k0, e0, rfl, hn0⟩ := open_net (hval 0 25 v0 rfl rfl) h0 (fun x hx => hlt x (by simp [hx]))
  obtain ⟨z1, rfl, rfl, rfl, w1⟩ := open_int Try.underlying26 (hval 1 26 v1 rfl rfl) h1
  obtain ⟨x1, rfl, hx1⟩ := u32_bounds w1
  refine (walk A0 B0 C0 n0 c0 m0 d0 k0 e0 x1 W hn0 hx1).mono fun e W' ⟨he, hg⟩ => ?_
  subst he
  exact ⟨_, rfl, law_post hW' rfl (by kernel_rfl) rfl (by kernel_rfl) hg⟩

theorem proved : Rows.ShortcutKeepsSaid :=
  OpenClaim.holds_of_wide 5 Try.f5 rfl rfl rfl rfl rfl rfl rfl ⟨rfl, rfl, rfl, rfl, rfl⟩ rfl rfl rfl rfl rfl (by kernel_rfl) Try.func5 (by kernel_rfl)
    (of_decide_eq_true (by kernel_rfl)) (by unfold Func.isWrapper; first | (rw [if_pos (by decide +kernel)]; kernel_rfl) | (rw [if_neg (by decide +kernel)]; exact ⟨rfl, rfl⟩))
    (fun os started H enc _ => lifted os started H enc)

end Go.Proofs.Ytiiaeddbeohplaa.shortcutKeeps
