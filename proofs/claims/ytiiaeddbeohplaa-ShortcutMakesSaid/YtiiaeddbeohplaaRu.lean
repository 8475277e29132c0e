/- The contract of the reference's Run: it searches as Runs says, and tells whom it asked. -/
import Derived.Test.YtiiaeddbeohplaaRs
import Derived.Test.YtiiaeddbeohplaaNc
namespace Go.Proofs.Ytiiaeddbeohplaa
open Go.RowKit
theorem mark_length (l : List Rch) (i : Nat) : (mark l i).length = l.length := by unfold mark; simp
theorem rg_mark {l : List Rch} {i : Nat} (hi : i < l.length) : (rg (mark l i) i).v = (rg l i).v ∧ (rg (mark l i) i).dist = (rg l i).dist := by
  unfold mark; rw [rg_set hi, if_pos rfl]; exact ⟨rfl, rfl⟩
theorem comeL_length (l : List Rch) (v d : Nat) : (comeL l v d).length ≤ l.length + 1 := by
  unfold comeL
  split
  · simp
  · split <;> simp
theorem relaxL_take (av : Nat → Bool) (d : Nat) (L : List Edg) (l : List Rch) (i : Nat) (hi : i < L.length) : relaxL av d (L.take (i + 1)) l = relaxL1 av d (relaxL av d (L.take i) l) L[i] := by
  unfold relaxL
  rw [List.take_succ_eq_append_getElem hi, List.foldl_append]
  rfl
theorem run_start (w : World) (src : Nat) : RSt w (w.alloc (.cells #[.int .u32 (src : Int), .int .u64 0, .bool false] 99)) (.slice none 0 0) [] (.slice (some ⟨w.heap.size, 0, none⟩) 1 1) [⟨src, 0, false⟩] := by
  refine ⟨OwnS.nil _ _ _ _ _, ?_, (Below.refl _ _).alloc (Nat.le_refl _) _⟩
  refine ⟨rfl, .inr ⟨w.heap.size, 1, #[.int .u32 (src : Int), .int .u64 0, .bool false], rfl, Nat.le_refl _, heap_alloc_new _ _, Nat.le_refl _, by simp [maxLen], rfl, rfl⟩⟩
set_option maxRecDepth 100000 in
set_option maxHeartbeats 16000000 in
theorem run_ref (B NB : Nat) (E : List Edg) (bad shun : List Nat) (src to most : Nat) (w : World) (h : NetAt B NB E bad shun w) (hB : B ≤ w.heap.size) (hE : E.length ≤ 300) :
    Calls Try.prog 48 #[.pointer (some ⟨NB, 0, none⟩), .int .u32 (src : Int), .int .u32 (to : Int), .int .u64 (most : Int)] w fun e w' =>
      ∃ a b er Q q, Finds (netOut E bad) (inB shun) src to most a b er ∧ e = .returned (.tuple #[.slice Q a.length q, .bool b, .int .i64 er]) ∧ OwnV w' w.heap.size (.slice Q a.length q) a ∧ Below w.heap.size w w' := by
  have HN := Lib.hid h
  have HB := Lib.hid hB
  have HE := Lib.hid hE
  have HSt := Lib.hid (run_start w src)
  clear h hB hE
  go_enter Try.func48, Try.ntmps48
  go_wp2_with fail
  go_loopw [11, 12, 13] (fun va vl vk wr => ∃ (k : Nat) (S : Nat → Bool) (f : Nat → Option Nat) (asked : List Nat) (l : List Rch) (Q : Option Addr) (q : Nat) (A : Option Addr) (c : Nat), va = .slice Q asked.length q ∧ vl = .slice A l.length c ∧ vk = .int .i64 k ∧ k ≤ 16 ∧
    Hid (RSt w wr (.slice Q asked.length q) asked (.slice A l.length c) l) ∧ Hid (SoFar (netOut E bad) (inB shun) src to most k S f asked) ∧ Hid (Rep l S f) ∧ asked.length = k ∧ l.length ≤ 1 + k * 300) (fun _ _ vk _ => 17 - (intOf vk).toNat)
  case atStart => exact ⟨0, _, _, [], _, none, 0, _, 1, rfl, rfl, rfl, by omega, HSt, Lib.hid (SoFar.start _ _ _ _ _), Lib.hid (Rep.start src), rfl, by simp⟩
  case round =>
    clear HSt
    obtain ⟨k, S, f, asked, l, Q, q, A, c, rfl, rfl, rfl, hk, HS, HR, HP, hak, hll⟩ := hrel
    have HAK := Lib.hid hak
    clear hak
    have hl1 : l.length ≤ 4801 := by
      have := Nat.mul_le_mul_right 300 hk
      omega
    go_wp2_with fail
    refine (next_any wr.heap.size A l c wr (own_rls HS.out.row (by omega))).mono ?_
    rintro e w2 ⟨rfl, hdr⟩
    have HS2 := Lib.hid (HS.out.below (hdr.below _))
    have HRl := Lib.hid (own_rls HS2.out.row (by omega))
    clear HS hdr
    cases hz : nextTo l l.length with
    | none =>
      have HRun : Hid (Runs (netOut E bad) (inB shun) to most k S f [] false 0) := Lib.hid (.none k S f (HP.out.empty hz))
      rw [show atZ none = -1 from rfl]
      clear hz
      go_wp2_with fail
      go_ret3
      exact ⟨_, _, _, Q, q, HR.out _ _ _ HRun.out, by rw [List.append_nil]; rfl, by rw [List.append_nil]; exact HS2.out.ask, HS2.out.low⟩
    | some i =>
      obtain ⟨hi, hlst⟩ := HP.out.least hz
      have HL := Lib.hid hlst
      rw [show atZ (some i) = (i : Int) from rfl]
      clear hz hlst
      obtain ⟨b, o, hA, hb, c0, c1, c2⟩ := HRl.out.at' i hi
      subst hA
      have i1 : (i : Int) < (l.length : Int) := by omega
      have i2 : (0 : Int) ≤ (i : Int) := by omega
      have i3 : decide ((i : Int) < 0) = false := by rw [decide_eq_false_iff_not]; omega
      by_cases h1 : most < (rg l i).dist
      · have j1 : (most : Int) < ((rg l i).dist : Int) := by omega
        have HRun : Hid (Runs (netOut E bad) (inB shun) to most k S f [] false 0) := Lib.hid (.far k S f _ _ HL.out h1)
        clear hi
        go_wp2_with fail
        go_ret3
        exact ⟨_, _, _, Q, q, HR.out _ _ _ HRun.out, by rw [List.append_nil]; rfl, by rw [List.append_nil]; exact HS2.out.ask, HS2.out.low⟩
      · have j1 : ¬ (most : Int) < ((rg l i).dist : Int) := by omega
        by_cases h2 : k = 16
        · subst h2
          clear hi h1
          go_wp2_with fail
          go_ret3
          exact ⟨_, _, _, Q, q, HR.out _ _ _ (.full S f), by rw [List.append_nil]; rfl, by rw [List.append_nil]; exact HS2.out.ask, HS2.out.low⟩
        · have j2 : ((k : Int) == 16) = false := by rw [beq_eq_false_iff_ne]; omega
          by_cases h3 : (rg l i).v = to
          · have j3 : (((rg l i).v : Int) == (to : Int)) = true := by rw [h3]; exact beq_self_eq_true _
            have HRun : Hid (Runs (netOut E bad) (inB shun) to most k S f [] true 0) := Lib.hid (by
              have := HL.out
              rw [h3] at this
              exact .is k S f _ (by omega) this (by omega))
            clear hi h1
            go_wp2_with fail
            go_ret3
            exact ⟨_, _, _, Q, q, HR.out _ _ _ HRun.out, by rw [List.append_nil]; rfl, by rw [List.append_nil]; exact HS2.out.ask, HS2.out.low⟩
          · have j3 : (((rg l i).v : Int) == (to : Int)) = false := by rw [beq_eq_false_iff_ne]; omega
            have HZ := Lib.hid HS2.out.row.zero
            have fz : w2.frozen? ⟨b, o + i * 3 + 2, none⟩ = false := HS2.out.row.frozen _
            have HPut : Hid (OwnR (w2.setCell ⟨b, o + i * 3 + 2, none⟩ (.bool true)) w.heap.size (.slice (some ⟨b, o, none⟩) l.length c) (mark l i) ∧ w2.grownBy (w2.setCell ⟨b, o + i * 3 + 2, none⟩ (.bool true)) (some b)) := Lib.hid (by
              have hO := HS2.out.row
              have ho := HZ.out
              subst ho
              rw [Nat.zero_add]
              exact OwnS.put (sz := 3) (enc := Rch.enc) (fun _ => rfl) hO rfl i 2 hi (by omega) _ _ (by rw [← rg_eq hi]; rfl))
            have HML := Lib.hid (mark_length l i)
            have HMR := Lib.hid (rg_mark hi)
            have hiM : i < (mark l i).length := by rw [HML.out]; exact hi
            have HPM := Lib.hid (HP.out.mark hi)
            have HS3 := Lib.hid (HS2.out.come HPut.out.2 HPut.out.1)
            rw [← HML.out] at HS3
            have HLst := Lib.hid (HR.out.step (by omega) HL.out (by omega) h3)
            have hMl : (mark l i).length = l.length := HML.out
            have HMlen : Hid ((mark l i).length ≤ 1 + k * 300) := Lib.hid (by rw [HML.out]; exact hll)
            have hk15 : k < 16 := by omega
            have HNoErr := Lib.hid (fun her => Runs.err (out := netOut E bad) (av := inB shun) (to := to) (most := most) k S f _ _ hk15 HL.out (by omega) h3 her)
            have HMR1 : Hid ((rg (mark l i) i).v = (rg l i).v) := Lib.hid HMR.out.1
            have HMR2 : Hid ((rg (mark l i) i).dist = (rg l i).dist) := Lib.hid HMR.out.2
            clear HP HL HPut HS2 HRl hi h1 h2 h3 HZ HMR HML hll hl1
            generalize hMe : mark l i = M at *
            generalize (rg l i).v = v at *
            generalize (rg l i).dist = d at *
            generalize (rg l i).done = dn at *
            rw [← hMl] at i1 ⊢
            clear hMe hMl
            have HA2 : Hid (OwnV ((w2.setCell ⟨b, o + i * 3 + 2, none⟩ (.bool true)).alloc (.cells #[.int .u32 (v : Int)] 26)) w.heap.size (.slice Q asked.length q) asked) := HS3.out.ask.alloc _
            have HV2 : Hid (VLs ((w2.setCell ⟨b, o + i * 3 + 2, none⟩ (.bool true)).heap.size + 1) ((w2.setCell ⟨b, o + i * 3 + 2, none⟩ (.bool true)).alloc (.cells #[.int .u32 (v : Int)] 26)) (some ⟨w2.heap.size, 0, none⟩) [v]) := by
              have h := SR.one (sz := 1) (enc := vEnc) v (heap_alloc_new (w2.setCell ⟨b, o + i * 3 + 2, none⟩ (.bool true)) (.cells #[.int .u32 (v : Int)] 26)) rfl ((w2.setCell ⟨b, o + i * 3 + 2, none⟩ (.bool true)).heap.size + 1) (by omega)
              rw [World.size_setCell] at h ⊢
              exact Lib.hid h
            have HB2 : Hid (w.heap.size ≤ ((w2.setCell ⟨b, o + i * 3 + 2, none⟩ (.bool true)).alloc (.cells #[.int .u32 (v : Int)] 26)).heap.size) := Lib.hid (by have := HS3.out.low.size; simp at this ⊢; omega)
            have hal : asked.length ≤ 16 := by rw [HAK.out]; exact hk
            go_wp2_with (at_builtin
                         refine wpList_append_sr _ rfl (.tmp 56) (.tmp 62) v_ety rfl w.heap.size (.slice Q asked.length q) asked rfl HA2.out ((w2.setCell ⟨b, o + i * 3 + 2, none⟩ (.bool true)).heap.size + 1) (some ⟨w2.heap.size, 0, none⟩) 1 1 [v] rfl rfl HV2.out (by simp [maxLen]; omega) (by simp; omega) HB2.out ?_
                         intro Q2 q2 w8 hown hg _
                         have HS8 : Hid (RSt w w8 (.slice Q2 (asked ++ [v]).length q2) (asked ++ [v]) (.slice (some ⟨b, o, none⟩) M.length c) M) := Lib.hid (by
                           have h1 := HS3.out.asks ((World.grownBy_alloc _ _ _).trans hg) hown
                           have e : (asked ++ [v]).length = asked.length + [v].length := by simp
                           rw [e]
                           exact h1)
                         have HL8 : Hid (asked.length + 1 = (asked ++ [v]).length) := Lib.hid (by simp)
                         clear hown hg HA2 HV2 HB2 HS3 c0 c1 c2 fz
                         obtain ⟨d0, d1, _⟩ := (own_rls HS8.out.row (by have := HMlen.out; omega)).row i hiM
                         rw [HMR1.out] at d0
                         rw [HMR2.out] at d1)
            refine (out_any B NB E bad shun v w8 (HN.out.below HB.out HS8.out.low) (Nat.le_trans HB.out HS8.out.low.size) (by have := HE.out; omega)).mono ?_
            rintro e w9 ⟨X, x, rfl, hoe, hb9⟩
            have HS9 := Lib.hid (HS8.out.below hb9)
            have HOE := Lib.hid hoe
            clear hoe hb9 d0 d1 HS8
            obtain ⟨d0, d1, _⟩ := (own_rls HS9.out.row (by have := HMlen.out; omega)).row i hiM
            rw [HMR1.out] at d0
            rw [HMR2.out] at d1
            by_cases her : (netOut E bad v).2 = 0
            case neg =>
              have HRun := Lib.hid (HNoErr.out her)
              have j5 : ((netOut E bad v).2 == 0) = false := by rw [beq_eq_false_iff_ne]; exact her
              clear her HNoErr HLst HOE
              generalize (netOut E bad v).2 = er at *
              go_wp2_with fail
              go_ret3
              exact ⟨_, _, _, Q2, q2, HR.out _ _ _ HRun.out, by rw [← HL8.out]; rfl, HS9.out.ask, HS9.out.low⟩
            case pos =>
              have HR4 := Lib.hid (HLst.out her)
              have HLL : Hid ((netOut E bad v).1.length ≤ 300) := Lib.hid (by have := netOut_len E bad v; have := HE.out; omega)
              rw [her]
              clear her HNoErr HLst HR
              generalize (netOut E bad v).1 = L at *
              generalize with_ S v = S4 at *
              generalize off f v = f4 at *
              generalize w8.heap.size = B8 at *
              generalize hASe : asked ++ [v] = AS at *
              have HASl : Hid (AS.length = k + 1) := Lib.hid (by rw [← hASe]; have := HAK.out; simp; omega)
              clear hASe HAK
              rw [HL8.out]
              clear HL8
              have hml := HMlen.out
              have HI0 : Hid (RSt w w9 (.slice Q2 AS.length q2) AS (.slice (some ⟨b, o, none⟩) (relaxL (inB shun) d (L.take 0) M).length c) (relaxL (inB shun) d (L.take 0) M)) := HS9
              clear HS9
              go_wp2_with fail
              go_loopw [12, 18] (fun vl vi wr => ∃ (n : Nat) (A : Option Addr) (c : Nat), vl = .slice A (relaxL (inB shun) d (L.take n) M).length c ∧ vi = .int .i64 n ∧ n ≤ L.length ∧
                Hid (RSt w wr (.slice Q2 AS.length q2) AS (.slice A (relaxL (inB shun) d (L.take n) M).length c) (relaxL (inB shun) d (L.take n) M)) ∧ Hid (OwnE wr B8 (.slice X L.length x) L) ∧ (relaxL (inB shun) d (L.take n) M).length ≤ M.length + n) (fun _ vi _ => L.length - (intOf vi).toNat)
              case atStart => exact ⟨0, some ⟨b, o, none⟩, c, rfl, rfl, by omega, HI0, HOE, Nat.le_refl _⟩
              case round =>
                clear HI0 HOE d0 d1
                obtain ⟨n, A, c, rfl, rfl, hn, HI, HO, hlen⟩ := hrel
                have hLL := HLL.out
                by_cases hnl : n < L.length
                · have i4 : (n : Int) < (L.length : Int) := by omega
                  have i5 : (0 : Int) ≤ (n : Int) := by omega
                  obtain ⟨p, s, hA, hp, e0, e1, e2, e3⟩ := ELs.at' (own_els HO.out (by omega)) n hnl
                  have HRx := Lib.hid (relaxL_take (inB shun) d L M n hnl)
                  subst hA
                  generalize L[n] = y at *
                  generalize relaxL (inB shun) d (L.take n) M = l1 at *
                  generalize hl2 : relaxL (inB shun) d (L.take (n + 1)) M = l2 at *
                  have HL2 := Lib.hid hl2
                  clear hl2
                  have HN1 := Lib.hid (HN.out.below HB.out HI.out.low)
                  have HAdd := Lib.hid (refAdd_any d y.weight wr)
                  generalize hfit : fitsB d y.weight = fit at *
                  have HFit := Lib.hid hfit
                  clear hfit
                  go_wp2_with fail
                  refine HAdd.out.mono ?_
                  rintro e w10 ⟨rfl, rfl⟩
                  cases fit with
                  | false =>
                    have HE2 : Hid (l2 = l1) := Lib.hid (by rw [HRx.out]; unfold relaxL1; rw [HFit.out, Bool.false_and, if_neg Bool.false_ne_true])
                    go_wp2_with fail
                    go_roundw
                    case rel => exact ⟨n + 1, A, c, by rw [HL2.out, HE2.out], by go_num, by omega, Lib.hid (by rw [HL2.out, HE2.out]; exact HI.out), HO, by rw [HL2.out, HE2.out]; omega⟩
                    case measure => simp [intOf]; omega
                  | true =>
                    have HAv := Lib.hid (avoid_any B NB E bad shun y.head wr HN1.out)
                    go_wp2_with fail
                    refine HAv.out.mono ?_
                    rintro e w11 ⟨rfl, rfl⟩
                    clear HAv
                    cases hav : inB shun y.head with
                    | true =>
                      have HE2 : Hid (l2 = l1) := Lib.hid (by rw [HRx.out]; unfold relaxL1; rw [HFit.out, hav]; rfl)
                      clear hav
                      go_wp2_with fail
                      go_roundw
                      case rel => exact ⟨n + 1, A, c, by rw [HL2.out, HE2.out], by go_num, by omega, Lib.hid (by rw [HL2.out, HE2.out]; exact HI.out), HO, by rw [HL2.out, HE2.out]; omega⟩
                      case measure => simp [intOf]; omega
                    | false =>
                      have HSum := Lib.hid (sumV_yes HFit.out)
                      have HE2 : Hid (l2 = comeL l1 y.head (sumV d y.weight)) := Lib.hid (by rw [HRx.out, HSum.out]; unfold relaxL1; rw [HFit.out, hav]; rfl)
                      have HCo := Lib.hid (come_ref w.heap.size A l1 c y.head (sumV d y.weight) wr HI.out.row HI.out.low.size (by omega))
                      clear hav
                      go_wp2_with fail
                      refine HCo.out.mono ?_
                      rintro e w12 ⟨A5, c5, rfl, k1, k2⟩
                      have HI5 : Hid (RSt w w12 (.slice Q2 AS.length q2) AS (.slice A5 l2.length c5) l2) := Lib.hid (by rw [HE2.out]; exact HI.out.come k2 k1)
                      have HO5 := Lib.hid (own_e_come HO.out HI.out k2)
                      have HLc : Hid (l2.length ≤ l1.length + 1) := Lib.hid (by rw [HE2.out]; exact comeL_length _ _ _)
                      clear k1 k2 HCo
                      rw [← HE2.out]
                      go_wp2_with fail
                      go_roundw
                      case rel => exact ⟨n + 1, A5, c5, by rw [HL2.out], by go_num, by omega, Lib.hid (by rw [HL2.out]; exact HI5.out), HO5, by rw [HL2.out]; have := HLc.out; omega⟩
                      case measure => simp [intOf]; omega
                · have i4 : ¬ (n : Int) < (L.length : Int) := by omega
                  have hne : n = L.length := by omega
                  subst hne
                  rw [List.take_length] at HI hlen ⊢
                  have HPn := Lib.hid (HPM.out.relax (av := inB shun) (d := d) L)
                  generalize relaxL (inB shun) d L M = l9 at *
                  have hak9 := HASl.out
                  go_wp2_with fail
                  go_roundw
                  case rel =>
                    refine ⟨k + 1, S4, _, AS, l9, Q2, q2, A, c, rfl, rfl, by go_num, by omega, HI, HR4, HPn, HASl.out, ?_⟩
                    rw [Nat.succ_mul]; omega
                  case measure => simp [intOf]; omega
end Go.Proofs.Ytiiaeddbeohplaa
