/- The reference of chapter 17: Make and Count. -/
import Derived.Test.YtiiaeddbeohplaaRn
namespace Go.Proofs.Ytiiaeddbeohplaa
open Go.RowKit
theorem inB_cons (shun : List Nat) (v : Nat) : inB (v :: shun) = shunB v (inB shun) := by
  funext x
  unfold inB shunB
  rw [List.contains_cons]
set_option maxRecDepth 100000 in
set_option maxHeartbeats 16000000 in
theorem ref_make (NB : Nat) (E : List Edg) (bad shun : List Nat) (v : Nat) (hv : v < 4294967296) (w : World) (h : NetAt w.heap.size NB E bad shun w) (hE : E.length ≤ 300) (hs : shun.length ≤ 1000) :
    Calls Try.prog 16 #[.pointer (some ⟨NB, 0, none⟩), .int .u32 (v : Int)] w fun e w' => ∃ A c, e = .returned (.tuple #[.slice A (makeR (netOut E bad) (netIn E bad) (inB shun) v hv).1.length c, .int .i64 (makeR (netOut E bad) (netIn E bad) (inB shun) v hv).2]) ∧
      ELs w'.heap.size w' A (makeR (netOut E bad) (netIn E bad) (inB shun) v hv).1 ∧ Below w.heap.size w w' := by
  have HWo := Lib.hid (without_any NB E bad shun v w h (by omega))
  have HLI := Lib.hid (netIn_len E bad v)
  have HLO := Lib.hid (netOut_len E bad v)
  have HI := Lib.hid (fun (w1 : World) N2 (hn : NetAt w1.heap.size N2 E bad (v :: shun) w1) => in_net w1.heap.size N2 E bad (v :: shun) v w1 hn (Nat.le_refl _) (by omega))
  have HO := Lib.hid (fun (w1 : World) N2 (hn : NetAt w1.heap.size N2 E bad (v :: shun) w1) => out_any w1.heap.size N2 E bad (v :: shun) v w1 hn (Nat.le_refl _) (by omega))
  unfold makeR
  clear h
  by_cases h1 : (netIn E bad v).2 = 0
  case neg =>
    rw [if_pos h1]
    have q1 : ((netIn E bad v).2 == 0) = false := by rw [beq_eq_false_iff_ne]; exact h1
    clear h1 HO
    generalize (netIn E bad v).2 = er at *
    generalize (netIn E bad v).1 = I at *
    go_enter Try.func16, Try.ntmps16
    go_wp2_with fail
    refine HWo.out.mono ?_
    rintro e w1 ⟨N2, rfl, hn1, hb1⟩
    have HN1 := Lib.hid hn1
    have HB1 := Lib.hid hb1
    clear hn1 hb1 HWo
    go_wp2_with fail
    refine (HI.out w1 N2 HN1.out).mono ?_
    rintro e w2 ⟨AI, cI, rfl, ho2, hb2⟩
    have hli : I.length ≤ 300 := by have := HLI.out; omega
    have HL2 := Lib.hid (own_els ho2 (by omega))
    have HN2 := Lib.hid (HN1.out.nets (Nat.le_refl _) hb2 hb2.size)
    have HB2 := Lib.hid (HB1.out.trans (hb2.mono HB1.out.size))
    clear hb2 ho2 HI HN1 HB1 HLI
    go_wp2_with fail
    try simp +zetaDelta only [Exit.noGoto_ret, Exit.inBlock, Exit.then]
    go_ret2
    first | exact ⟨none, 0, rfl, SR.nil _ _ _ _ _, HB2.out⟩ | exact ⟨none, ⟨0, rfl⟩, SR.nil _ _ _ _ _, HB2.out⟩
  case pos =>
  by_cases h2 : (netOut E bad v).2 = 0
  case neg =>
    rw [if_neg (fun e => e h1), if_pos h2]
    rw [h1] at HI
    have q1 : ((netOut E bad v).2 == 0) = false := by rw [beq_eq_false_iff_ne]; exact h2
    clear h1 h2
    generalize (netIn E bad v).1 = I at *
    generalize (netOut E bad v).1 = O at *
    generalize (netOut E bad v).2 = er at *
    go_enter Try.func16, Try.ntmps16
    go_wp2_with fail
    refine HWo.out.mono ?_
    rintro e w1 ⟨N2, rfl, hn1, hb1⟩
    have HN1 := Lib.hid hn1
    have HB1 := Lib.hid hb1
    clear hn1 hb1 HWo
    go_wp2_with fail
    refine (HI.out w1 N2 HN1.out).mono ?_
    rintro e w2 ⟨AI, cI, rfl, ho2, hb2⟩
    have hli : I.length ≤ 300 := by have := HLI.out; omega
    have HL2 := Lib.hid (own_els ho2 (by omega))
    have HN2 := Lib.hid (HN1.out.nets (Nat.le_refl _) hb2 hb2.size)
    have HB2 := Lib.hid (HB1.out.trans (hb2.mono HB1.out.size))
    clear hb2 ho2 HI HN1 HB1 HLI
    go_wp2_with fail
    refine (HO.out w2 N2 HN2.out).mono ?_
    rintro e w3 ⟨AO, cO, rfl, _, hb3⟩
    have HB3 := Lib.hid (HB2.out.trans (hb3.mono HB2.out.size))
    clear hb3 HO
    go_wp2_with fail
    try simp +zetaDelta only [Exit.noGoto_ret, Exit.inBlock, Exit.then]
    go_ret2
    first | exact ⟨none, 0, rfl, SR.nil _ _ _ _ _, HB3.out⟩ | exact ⟨none, ⟨0, rfl⟩, SR.nil _ _ _ _ _, HB3.out⟩
  case pos =>
  rw [if_neg (fun e => e h1), if_neg (fun e => e h2)]
  rw [h1] at HI
  rw [h2] at HO
  clear h1 h2
  have hlo : (netOut E bad v).1.length ≤ 300 := by have := HLO.out; omega
  generalize (netIn E bad v).1 = I at *
  generalize (netOut E bad v).1 = O at *
  generalize hRe : goR (pairR (netOut E bad) (inB shun) v hv) (pairsOf I O 0) [] = R at *
  have HR0 := Lib.hid hRe
  clear hRe
  go_enter Try.func16, Try.ntmps16
  go_wp2_with fail
  refine HWo.out.mono ?_
  rintro e w1 ⟨N2, rfl, hn1, hb1⟩
  have HN1 := Lib.hid hn1
  have HB1 := Lib.hid hb1
  clear hn1 hb1 HWo
  go_wp2_with fail
  refine (HI.out w1 N2 HN1.out).mono ?_
  rintro e w2 ⟨AI, cI, rfl, ho2, hb2⟩
  have hli : I.length ≤ 300 := by have := HLI.out; omega
  have HL2 := Lib.hid (own_els ho2 (by omega))
  have HN2 := Lib.hid (HN1.out.nets (Nat.le_refl _) hb2 hb2.size)
  have HB2 := Lib.hid (HB1.out.trans (hb2.mono HB1.out.size))
  clear hb2 ho2 HI HN1 HB1 HLI
  go_wp2_with fail
  refine (HO.out w2 N2 HN2.out).mono ?_
  rintro e w3 ⟨AO, cO, rfl, ho3, hb3⟩
  have HL3 := Lib.hid (own_els ho3 (by omega))
  have HI3 := Lib.hid ((HL2.out.below hb3).more hb3.size)
  have HN3 := Lib.hid (HN2.out.nets (Nat.le_refl _) hb3 hb3.size)
  have HB3 := Lib.hid (HB2.out.trans (hb3.mono HB2.out.size))
  clear hb3 ho3 HO HN2 HB2 HL2 HLO
  generalize hMe : w3.heap.size = M at *
  have HMe := Lib.hid hMe
  clear hMe
  have HA0 : Hid (AccAt M w3 (.slice none 0 0) [] w3) := Lib.hid ⟨OwnS.nil _ _ _ _ _, Below.refl _ _⟩
  have HBw : Hid (∀ w', Below M w3 w' → Below w.heap.size w w') := Lib.hid (fun w' hb => HB3.out.trans (hb.mono (by have := HB3.out.size; have := HMe.out; omega)))
  have HMW : Hid (∀ w', Below M w3 w' → NetAt w'.heap.size N2 E bad (v :: shun) w') := Lib.hid (fun w' hb => by
    have hs := hb.size
    have he := HMe.out
    exact (HN3.out.below (by omega) (by rw [he]; exact hb)).more (by omega))
  clear HN3 HB3
  go_wp2_with fail
  go_loopw [10, 11] (fun vl vi wr => ∃ (i : Nat) (acc : List Edg) (A : Option Addr) (c : Nat), vl = .slice A acc.length c ∧ vi = .int .i64 i ∧ i ≤ I.length ∧ Hid (goR (pairR (netOut E bad) (inB shun) v hv) (pairsOf I O i) acc = R) ∧ Hid (AccAt M w3 (.slice A acc.length c) acc wr) ∧ acc.length ≤ i * 300) (fun _ vi _ => I.length - (intOf vi).toNat)
  case atStart => exact ⟨0, [], none, 0, rfl, rfl, by omega, HR0, HA0, by simp⟩
  case round =>
    clear HA0 HR0
    obtain ⟨i, acc, A, c, rfl, rfl, hi, HRi, HAc, hac⟩ := hrel
    by_cases hil : i < I.length
    · have i1 : (i : Int) < (I.length : Int) := by omega
      have i2 : (0 : Int) ≤ (i : Int) := by omega
      have HPr := Lib.hid (pairs_row (O := O) hil)
      have HPe := Lib.hid (pairs_end (O := O) hil)
      have HPc := Lib.hid (fun j (hj : j < O.length) => pairs_cons hil hj)
      rw [HPr.out] at HRi
      clear HPr
      obtain ⟨p, o, hA, hp, z0, z1, z2, z3⟩ := ELs.at' HI3.out i hil
      subst hA
      have HZ := Lib.hid (And.intro z0 z2)
      clear z0 z1 z2 z3
      generalize I[i] = a at *
      go_wp2_with fail
      go_loopw [10, 12] (fun vl vj wr => ∃ (j : Nat) (acc : List Edg) (A : Option Addr) (c : Nat), vl = .slice A acc.length c ∧ vj = .int .i64 j ∧ j ≤ O.length ∧ Hid (goR (pairR (netOut E bad) (inB shun) v hv) (pairsAt I O i j) acc = R) ∧ Hid (AccAt M w3 (.slice A acc.length c) acc wr) ∧ acc.length ≤ i * 300 + j) (fun _ vj _ => O.length - (intOf vj).toNat)
      case atStart => exact ⟨0, acc, A, c, rfl, rfl, by omega, HRi, HAc, by omega⟩
      case round =>
        clear HRi HAc
        obtain ⟨j, acc, A, c, rfl, rfl, hj, HRj, HAc, hac⟩ := hrel
        by_cases hjl : j < O.length
        · have j1 : (j : Int) < (O.length : Int) := by omega
          have j2 : (0 : Int) ≤ (j : Int) := by omega
          obtain ⟨z0, z2⟩ := HZ.out
          have a0 := (HAc.out.low.cell (p := ⟨p, o + i * 4, none⟩) hp).trans z0
          have a2 := (HAc.out.low.cell (p := ⟨p, o + i * 4 + 2, none⟩) hp).trans z2
          obtain ⟨q, s, hA, hq, b0, b1, b2, b3⟩ := ELs.at' (HL3.out.below HAc.out.low) j hjl
          have HPj := Lib.hid (HPc.out j hjl)
          subst hA
          generalize O[j] = b at *
          rw [HPj.out] at HRj
          clear HPj b0 b3 z0 z2
          have HNt := Lib.hid (HMW.out wr HAc.out.low)
          have HNo : Hid (pairR (netOut E bad) (inB shun) v hv a b = .no → goR (pairR (netOut E bad) (inB shun) v hv) (pairsAt I O i (j + 1)) acc = R) := Lib.hid (fun h => by rw [← HRj.out, goR_no h])
          have HBad : Hid (∀ e, pairR (netOut E bad) (inB shun) v hv a b = .bad e → R = ([], e)) := Lib.hid (fun e h => by rw [← HRj.out, goR_bad h])
          have HYes : Hid (∀ x, pairR (netOut E bad) (inB shun) v hv a b = .yes x → goR (pairR (netOut E bad) (inB shun) v hv) (pairsAt I O i (j + 1)) (acc ++ [x]) = R) := Lib.hid (fun x h => by rw [← HRj.out, goR_yes h])
          clear HRj
          have HSa : Hid (Calls Try.prog 15 #[.pointer (some ⟨N2, 0, none⟩), .int .u32 (a.tail : Int)] wr fun e w' => e = .returned (.bool (shunB v (inB shun) a.tail)) ∧ w' = wr) := Lib.hid ((avoid_any wr.heap.size N2 E bad (v :: shun) a.tail wr HNt.out).mono fun e w' h => ⟨by rw [h.1, inB_cons], h.2.symm⟩)
          have HSb : Hid (Calls Try.prog 15 #[.pointer (some ⟨N2, 0, none⟩), .int .u32 (b.head : Int)] wr fun e w' => e = .returned (.bool (shunB v (inB shun) b.head)) ∧ w' = wr) := Lib.hid ((avoid_any wr.heap.size N2 E bad (v :: shun) b.head wr HNt.out).mono fun e w' h => ⟨by rw [h.1, inB_cons], h.2.symm⟩)
          by_cases h1 : a.tail = b.head
          · have g1 : ((a.tail : Int) == (b.head : Int)) = true := by rw [h1]; exact beq_self_eq_true _
            have HNx := Lib.hid (HNo.out (pairR_shun (.inl h1)))
            clear h1 HNo HBad HYes HSa HSb
            go_wp2_with fail
            go_roundw
            case rel => exact ⟨j + 1, acc, A, c, rfl, by go_num, by omega, HNx, HAc, by omega⟩
            case measure => simp [intOf]; omega
          · have g1 : ((a.tail : Int) == (b.head : Int)) = false := by rw [beq_eq_false_iff_ne]; omega
            cases hsa : shunB v (inB shun) a.tail with
            | true =>
              rw [hsa] at HSa
              have HNx := Lib.hid (HNo.out (pairR_shun (.inr (.inl hsa))))
              clear h1 HNo HBad HYes HSb hsa
              go_wp2_with fail
              refine HSa.out.mono ?_
              rintro e w5 ⟨rfl, rfl⟩
              clear HSa
              go_wp2_with fail
              go_roundw
              case rel => exact ⟨j + 1, acc, A, c, rfl, by go_num, by omega, HNx, HAc, by omega⟩
              case measure => simp [intOf]; omega
            | false =>
              rw [hsa] at HSa
              cases hsb : shunB v (inB shun) b.head with
              | true =>
                rw [hsb] at HSb
                have HNx := Lib.hid (HNo.out (pairR_shun (.inr (.inr hsb))))
                clear h1 HNo HBad HYes hsa hsb
                go_wp2_with fail
                refine HSa.out.mono ?_
                rintro e w5 ⟨rfl, rfl⟩
                clear HSa
                go_wp2_with fail
                refine HSb.out.mono ?_
                rintro e w5 ⟨rfl, rfl⟩
                clear HSb
                go_wp2_with fail
                go_roundw
                case rel => exact ⟨j + 1, acc, A, c, rfl, by go_num, by omega, HNx, HAc, by omega⟩
                case measure => simp [intOf]; omega
              | false =>
                rw [hsb] at HSb
                have HSh : Hid (¬ (a.tail = b.head ∨ shunB v (inB shun) a.tail = true ∨ shunB v (inB shun) b.head = true)) := Lib.hid (by rw [hsa, hsb]; simp [h1])
                have HAd := Lib.hid (fun V => (refAdd_any a.weight b.weight V).mono fun e w' (h : _ ∧ _) => (⟨h.1, h.2.symm⟩ : _ ∧ w' = V))
                clear h1 hsa hsb
                go_wp2_with fail
                refine HSa.out.mono ?_
                rintro e w5 ⟨rfl, rfl⟩
                clear HSa
                go_wp2_with fail
                refine HSb.out.mono ?_
                rintro e w5 ⟨rfl, rfl⟩
                clear HSb
                go_wp2_with fail
                go_quiet ((go_at_call 20; exact Calls.quiet_of_same (HAd.out _)))
                have HAc2 : Hid (AccAt M w3 (.slice A acc.length c) acc (w5.drewN nq)) := Lib.hid ⟨HAc.out.own.drewN nq, below_drewN HAc.out.low nq⟩
                have HNt2 := Lib.hid (HMW.out _ HAc2.out.low)
                clear a0 a2 b1 b2 HAc HNt HAd
                generalize w5.drewN nq = w6 at *
                cases hfit : fitsB a.weight b.weight with
                | false =>
                  have HNx := Lib.hid (HNo.out (pairR_far HSh.out hfit))
                  clear hfit HNo HBad HYes
                  go_wp2_with fail
                  go_roundw
                  case rel => exact ⟨j + 1, acc, A, c, rfl, by go_num, by omega, HNx, HAc2, by omega⟩
                  case measure => simp [intOf]; omega
                | true =>
                  have HPn := Lib.hid (pair_need (v := v) (hv := hv) (out := netOut E bad) (av := inB shun) HSh.out hfit)
                  have HCt : Hid ((cutE a b v hv).tail = a.tail ∧ (cutE a b v hv).head = b.head ∧ (cutE a b v hv).weight = sumV a.weight b.weight ∧ (cutE a b v hv).mid = v) := Lib.hid ⟨rfl, rfl, rfl, rfl⟩
                  have HNd := Lib.hid (need_any N2 E bad (v :: shun) a.tail b.head (sumV a.weight b.weight) w6 HNt2.out hE)
                  rw [inB_cons] at HNd
                  clear hfit HSh
                  generalize sumV a.weight b.weight = sm at *
                  generalize needR (netOut E bad) (shunB v (inB shun)) a.tail b.head sm = nd at *
                  obtain ⟨fx, fe⟩ := nd
                  dsimp only at HNd HPn
                  go_wp2_with fail
                  refine HNd.out.mono ?_
                  rintro e w7 ⟨rfl, hb7⟩
                  have HA7 := Lib.hid (HAc2.out.below (Nat.le_of_eq HMe.out.symm) hb7)
                  clear hb7 HAc2 HNd HNt2
                  by_cases hfe : fe = 0
                  case neg =>
                    have q1 : (fe == 0) = false := by rw [beq_eq_false_iff_ne]; exact hfe
                    have hR := HBad.out fe (by rw [HPn.out, if_pos hfe])
                    clear hfe HNo HBad HYes HPn
                    subst hR
                    go_wp2_with fail
                    try simp +zetaDelta only [Exit.noGoto_ret, Exit.inBlock, Exit.then]
                    go_ret2
                    first | exact ⟨none, 0, rfl, SR.nil _ _ _ _ _, HBw.out w7 HA7.out.low⟩ | exact ⟨none, ⟨0, rfl⟩, SR.nil _ _ _ _ _, HBw.out w7 HA7.out.low⟩
                  case pos =>
                    subst hfe
                    cases fx with
                    | true =>
                      have HNx := Lib.hid (HNo.out (by rw [HPn.out]; rfl))
                      clear HNo HBad HYes HPn
                      go_wp2_with fail
                      go_roundw
                      case rel => exact ⟨j + 1, acc, A, c, rfl, by go_num, by omega, HNx, HA7, by omega⟩
                      case measure => simp [intOf]; omega
                    | false =>
                      have HNx := Lib.hid (HYes.out (cutE a b v hv) (by rw [HPn.out]; rfl))
                      clear HNo HBad HYes HPn
                      generalize cutE a b v hv = z at *
                      have HE8 : Hid (ELs (w7.heap.size + 1) (w7.alloc (.cells #[.int .u32 (a.tail : Int), .int .u32 (b.head : Int), .int .u64 (sm : Int), .int .u32 (v : Int)] 43)) (some ⟨w7.heap.size, 0, none⟩) [z]) := Lib.hid (by
                        rw [← HCt.out.1, ← HCt.out.2.1, ← HCt.out.2.2.1, ← HCt.out.2.2.2]
                        exact SR.one (sz := 4) (enc := Edg.enc) z (heap_alloc_new w7 _) rfl _ (by omega))
                      have HA8 := Lib.hid (HA7.out.below (Nat.le_of_eq HMe.out.symm) ((Below.refl w7.heap.size w7).alloc (Nat.le_refl _) (.cells #[.int .u32 (a.tail : Int), .int .u32 (b.head : Int), .int .u64 (sm : Int), .int .u32 (v : Int)] 43)))
                      have HMz : Hid (M ≤ (w7.alloc (.cells #[.int .u32 (a.tail : Int), .int .u32 (b.head : Int), .int .u64 (sm : Int), .int .u32 (v : Int)] 43)).heap.size) := Lib.hid (Nat.le_trans (Nat.le_of_eq HMe.out.symm) HA8.out.low.size)
                      have hal : acc.length ≤ 91000 := by
                        have h9 : i * 300 ≤ 300 * 300 := Nat.mul_le_mul_right 300 (by omega)
                        omega
                      clear HA7 HCt
                      go_wp2_with (at_builtin
                                   refine wpList_append_sr _ rfl (.tmp 104) (.tmp 110) edge_ety rfl M (.slice A acc.length c) acc rfl HA8.out.own (w7.heap.size + 1) (some ⟨w7.heap.size, 0, none⟩) 1 1 [z] rfl rfl HE8.out (by simp [maxLen]; omega) (by simp; omega) HMz.out ?_
                                   intro Q9 q9 w9 hown hg hx9
                                   have HA9 : Hid (AccAt M w3 (.slice Q9 (acc.length + 1) q9) (acc ++ [z]) w9) := Lib.hid ⟨hown, HA8.out.low.grown hg HMz.out (fun r hr => (HA8.out.own.lt r hr).1)⟩
                                   clear hown hg hx9 HA8 HE8)
                      have HL9 : Hid ((acc ++ [z]).length = acc.length + 1) := Lib.hid (by simp)
                      go_wp2_with fail
                      go_roundw
                      case rel => exact ⟨j + 1, acc ++ [z], Q9, q9, by rw [HL9.out], by go_num, by omega, HNx, Lib.hid (by rw [HL9.out]; exact HA9.out), by rw [HL9.out]; omega⟩
                      case measure => simp [intOf]; omega
        · have j1 : ¬ (j : Int) < (O.length : Int) := by omega
          have hje : j = O.length := by omega
          subst hje
          rw [HPe.out] at HRj
          go_wp2_with fail
          go_roundw
          case rel => exact ⟨i + 1, acc, A, c, rfl, by go_num, by omega, HRj, HAc, by rw [Nat.succ_mul]; omega⟩
          case measure => simp [intOf]; omega
    · have i1 : ¬ (i : Int) < (I.length : Int) := by omega
      have hie : i = I.length := by omega
      subst hie
      rw [pairs_done] at HRi
      have hR : R = (acc, 0) := HRi.out.symm
      subst hR
      have hall : acc.length ≤ 4611686018427387904 := by
        have h9 : I.length * 300 ≤ 300 * 300 := Nat.mul_le_mul_right 300 hli
        omega
      go_wp2_with fail
      go_ret2
      first | exact ⟨A, c, rfl, own_els HAc.out.own hall, HBw.out wr HAc.out.low⟩ | exact ⟨A, ⟨c, rfl⟩, own_els HAc.out.own hall, HBw.out wr HAc.out.low⟩
theorem inB_none : inB [] = fun _ => false := by funext v; exact inB_nil v
set_option maxRecDepth 100000 in
set_option maxHeartbeats 4000000 in
theorem ref_count (NB : Nat) (E : List Edg) (bad shun : List Nat) (v : Nat) (hv : v < 4294967296) (w : World) (h : NetAt w.heap.size NB E bad shun w) (hE : E.length ≤ 300) :
    Calls Try.prog 18 #[.pointer (some ⟨NB, 0, none⟩), .int .u32 (v : Int)] w fun e w' => e = .returned (.tuple #[.int .i64 ((countR (netOut E bad) (netIn E bad) v hv).1 : Int), .int .i64 ((countR (netOut E bad) (netIn E bad) v hv).2.1 : Int), .int .i64 ((countR (netOut E bad) (netIn E bad) v hv).2.2.1 : Int), .int .i64 (countR (netOut E bad) (netIn E bad) v hv).2.2.2]) ∧ Below w.heap.size w w' := by
  obtain ⟨A, c, A', c', A'', c'', h1, h2, h3, h4⟩ := h.row
  have hlt := h.lt
  have c0 : w.cell? ⟨NB, 0, none⟩ = some (.slice A E.length c) := cell_of_row _ _ 0 _ _ _ h1
  have c1 : w.cell? ⟨NB, 1, none⟩ = some (.slice A' bad.length c') := cell_of_row _ _ 1 _ _ _ h1
  obtain ⟨W3, hW3⟩ : ∃ W3, (w.alloc (.cells #[.slice A E.length c, .slice A' bad.length c', .slice none 0 0] 25)).drew = W3 := ⟨_, rfl⟩
  have hb2 : Below w.heap.size w (w.alloc (.cells #[.slice A E.length c, .slice A' bad.length c', .slice none 0 0] 25)) := (Below.refl _ _).alloc (Nat.le_refl _) _
  have hb3 : Below w.heap.size w W3 := by rw [← hW3]; exact below_drewN hb2 1
  have hr3 : W3.heap[w.heap.size]? = some (.cells #[.slice A E.length c, .slice A' bad.length c', .slice none 0 0] 25 (0, 0)) := by rw [← hW3]; exact heap_alloc_new w _
  have hn3 : NetAt W3.heap.size w.heap.size E bad [] W3 := ⟨A, c, A', c', none, 0, hr3, (h2.below hb3).more hb3.size, (h3.below hb3).more hb3.size, SR.nil _ _ _ _ _⟩
  have HW3 := Lib.hid hW3
  have HN3 := Lib.hid hn3
  have HB3 := Lib.hid hb3
  have HMk := Lib.hid (ref_make w.heap.size E bad [] v hv W3 hn3 hE (by simp))
  rw [inB_none] at HMk
  have hok := make_ok (out := netOut E bad) (inn := netIn E bad) (av := fun _ => false) (v := v) (hv := hv)
  unfold countR
  clear h h1 h2 h3 h4 hb2 hb3 hr3 hn3 hW3
  by_cases h0 : (makeR (netOut E bad) (netIn E bad) (fun _ => false) v hv).2 = 0
  · obtain ⟨e1, e2⟩ := hok h0
    rw [if_neg (fun e => e h0)]
    rw [h0] at HMk
    have HI := Lib.hid (fun (w1 : World) N2 (hn : NetAt w1.heap.size N2 E bad [] w1) => in_net w1.heap.size N2 E bad [] v w1 hn (Nat.le_refl _) (by omega))
    have HO := Lib.hid (fun (w1 : World) N2 (hn : NetAt w1.heap.size N2 E bad [] w1) => out_any w1.heap.size N2 E bad [] v w1 hn (Nat.le_refl _) (by omega))
    rw [e1] at HI
    rw [e2] at HO
    clear hok h0 e1 e2
    generalize (makeR (netOut E bad) (netIn E bad) (fun _ => false) v hv).1 = R at *
    generalize (netIn E bad v).1 = I at *
    generalize (netOut E bad v).1 = O at *
    go_enter Try.func18, Try.ntmps18
    go_wp2_with fail
    go_still_tail 9, (by kernel_rfl)
    change wpList _ _ _ _ _ w.drew
    clear c0 c1
    go_wp2_with fail
    rw [HW3.out]
    refine (HMk.out).mono ?_
    rintro e w4 ⟨Q, q, rfl, _, hb4⟩
    have HN4 := Lib.hid (HN3.out.nets (Nat.le_refl _) hb4 hb4.size)
    have HB4 := Lib.hid (HB3.out.trans (hb4.mono HB3.out.size))
    clear hb4 HMk HW3 HN3 HB3
    go_wp2_with fail
    refine (HI.out w4 w.heap.size HN4.out).mono ?_
    rintro e w5 ⟨A5, c5, rfl, _, hb5⟩
    have HN5 := Lib.hid (HN4.out.nets (Nat.le_refl _) hb5 hb5.size)
    have HB5 := Lib.hid (HB4.out.trans (hb5.mono HB4.out.size))
    clear hb5 HI HN4 HB4
    go_wp2_with fail
    refine (HO.out w5 w.heap.size HN5.out).mono ?_
    rintro e w6 ⟨A6, c6, rfl, _, hb6⟩
    have HB6 := Lib.hid (HB5.out.trans (hb6.mono HB5.out.size))
    clear hb6 HO HN5 HB5
    go_wp2_with fail
    (try simp only [Exit.inBlock, Exit.then]); refine bodyPost_ret (results_tmp4 rfl _ _ _) rfl ?_
    exact ⟨rfl, HB6.out⟩
  · rw [if_pos h0]
    have q1 : ((makeR (netOut E bad) (netIn E bad) (fun _ => false) v hv).2 == 0) = false := by rw [beq_eq_false_iff_ne]; exact h0
    clear hok h0
    generalize (makeR (netOut E bad) (netIn E bad) (fun _ => false) v hv).1 = R at *
    generalize (makeR (netOut E bad) (netIn E bad) (fun _ => false) v hv).2 = er at *
    go_enter Try.func18, Try.ntmps18
    go_wp2_with fail
    go_still_tail 9, (by kernel_rfl)
    change wpList _ _ _ _ _ w.drew
    clear c0 c1
    go_wp2_with fail
    rw [HW3.out]
    refine (HMk.out).mono ?_
    rintro e w4 ⟨Q, q, rfl, _, hb4⟩
    have HN4 := Lib.hid (HN3.out.nets (Nat.le_refl _) hb4 hb4.size)
    have HB4 := Lib.hid (HB3.out.trans (hb4.mono HB3.out.size))
    clear hb4 HMk HW3 HN3 HB3
    go_wp2_with fail
    (try simp only [Exit.inBlock, Exit.then]); refine bodyPost_ret (results_tmp4 rfl _ _ _) rfl ?_
    exact ⟨rfl, HB4.out⟩
end Go.Proofs.Ytiiaeddbeohplaa
