/- The contract of witness.Find: it searches as Runs says, in any net. -/
import Derived.Test.YtpnmfhcmodoeiaaSt
import Derived.Test.YtpnmfhcmodoeiaaPs
namespace Go.Proofs.Ytpnmfhcmodoeiaa
open Go.RowKit
theorem fr_start (w w1 : World) (h : HP w.heap.size w1 (.slice none 0 0) []) :
    FrAt (w1.heap.size + 1) w.heap.size w1.heap.size 0 ((w1.alloc (.map #[] 0)).alloc (.cells #[.pointer (some ⟨w.heap.size, 0, none⟩), .map (some w1.heap.size)] 73)) (.slice none 0 0) [] (fun _ => none) := by
  have h1 : (w1.alloc (.map #[] 0)).heap.size = w1.heap.size + 1 := by simp
  have hb1 : Below w1.heap.size w1 (w1.alloc (.map #[] 0)) := (Below.refl _ _).alloc (Nat.le_refl _) _
  have hb2 : Below (w1.alloc (.map #[] 0)).heap.size (w1.alloc (.map #[] 0)) ((w1.alloc (.map #[] 0)).alloc (.cells #[.pointer (some ⟨w.heap.size, 0, none⟩), .map (some w1.heap.size)] 73)) := (Below.refl _ _).alloc (Nat.le_refl _) _
  refine ⟨?_, (h.below hb1).below hb2, (FMap.made w1).below hb2⟩
  rw [← h1]
  exact heap_alloc_new _ _
theorem come_none (v d : Nat) : comeF (fun _ => none) v d = upd (fun _ => none) v d := comeF_new rfl
set_option maxRecDepth 100000 in
theorem out_nil (f : FuncId) (p c : Array Value) (w : World) : (binOp .eql 39 (.func (.func f) p c) .nilFunc).run Try.prog w = .ok (.bool false) w := by rfl
set_option maxRecDepth 100000 in
theorem avoid_nil (f : FuncId) (p c : Array Value) (w : World) : (binOp .eql 40 (.func (.func f) p c) .nilFunc).run Try.prog w = .ok (.bool false) w := by rfl
set_option maxRecDepth 100000 in
set_option maxHeartbeats 16000000 in
theorem find_any (N : NetD) (hN : NetC N) (D : FrontD) (hD : FrontC D) (src to most m : Nat) (hsrc : src < 4294967296) (hm : ∀ v, (N.out v).1.length ≤ m) (hlim : 1 + 16 * m ≤ D.lim) (O0 : Nat → Prop) (w : World) (hp : N.P [] O0 w) (hB : N.B ≤ w.heap.size) :
    Calls Try.prog 13 #[.func (.func N.fo) N.po N.co, .func (.func N.fa) N.pa N.ca, .int .u32 (src : Int), .int .u32 (to : Int), .int .u64 (most : Int)] w fun e w' =>
      ∃ a b er O', Finds N.out N.av src to most a b er ∧ e = .returned (.tuple #[.bool b, .int .i64 er]) ∧ N.P a O' w' ∧ Moves O0 O' w w' := by
  have hEo := fun args W => hN.enterO args W
  have hEa := fun args W => hN.enterA args W
  have HP0 := Lib.hid hp
  have HB0 := Lib.hid hB
  have HM0 := Lib.hid hm
  clear hp hB hm
  have hnn := fun f p c W => out_nil f p c W
  have hna := fun f p c W => avoid_nil f p c W
  go_enter Try.func13, Try.ntmps13
  go_wp2_with fail
  refine (new_hp w).mono ?_
  rintro e w1 ⟨rfl, h1, hb1⟩
  have H1 := Lib.hid (fr_start w w1 h1)
  have HB1 := Lib.hid hb1
  clear h1 hb1
  have hmm := @run_makeMap Try.prog
  go_wp2_with fail
  have hbF : Below w.heap.size w ((w1.alloc (.map #[] 0)).alloc (.cells #[.pointer (some ⟨w.heap.size, 0, none⟩), .map (some w1.heap.size)] 73)) := (HB1.out.alloc HB1.out.size _).alloc (by have := HB1.out.size; simp; omega) _
  have HBF := Lib.hid hbF
  have HG0 := Lib.hid (hD.init _ _ _ _ H1.out)
  have HLO : Hid (∀ b, frO (w1.heap.size + 1) w.heap.size w1.heap.size (.slice none 0 0) b → w.heap.size ≤ b) := Lib.hid (by
    have h3 := HB1.out.size
    intro b hb
    rcases hb with rfl | rfl | rfl | hb
    · omega
    · omega
    · omega
    · simp [Value.ownBlock] at hb)
  have HC0 := Lib.hid (hD.come _ _ _ _ _ _ src 0 HG0.out (by omega) hsrc (by omega))
  clear hbF H1 HB1 HG0
  generalize frO (w1.heap.size + 1) w.heap.size w1.heap.size (.slice none 0 0) = OF at *
  generalize w1.heap.size + 1 = F at *
  refine HC0.out.mono ?_
  rintro e w4 ⟨rfl, O4, g4, m4⟩
  have HS4 : Hid (Fst N D F w4.heap.size O0 w 16 1 0 (fun _ => false) (start src) [] O4 O0 (w4.alloc (.map #[] 0))) := Lib.hid (by
    have hl : ∀ b, O4 b → w.heap.size ≤ b := fun b hb => by
      rcases m4.own b hb with h5 | h5
      · exact HLO.out b h5
      · exact Nat.le_trans HBF.out.size h5
    exact Fst.start hN hD HP0.out HB0.out (HBF.out.trans (m4.low HLO.out HBF.out.size)) (by rw [come_none] at g4; exact g4) hl)
  clear g4 m4 HC0 HLO HBF HP0
  generalize hSB : w4.heap.size = SB at *
  have HSB := Lib.hid hSB
  clear hSB
  go_wp2_with fail
  rw [HSB.out]
  go_loopw [14] (fun _ wr => ∃ r c k S f seen O On, Hid (Fst N D F SB O0 w r c k S f seen O On wr) ∧ Hid (SoFar N.out N.av src to most k S f seen) ∧ Hid (Settled S f) ∧ k + r = 16 ∧ c ≤ 1 + k * m ∧ seen.length = k) (fun _ wr => 17 - setLen Try.prog SB wr)
  case atStart => exact ⟨_, _, _, _, _, _, _, _, HS4, Lib.hid (SoFar.start _ _ _ _ _), Lib.hid (fun _ h => by cases h), rfl, by omega, rfl⟩
  case round =>
    clear HS4 HSB
    obtain ⟨r, c, k, S, f, seen, O, On, HS, HR, HD, hk, hc, hse⟩ := hrel
    have HMs := Lib.hid HS.out.s.setLen
    go_wp2_with fail
    refine (hD.least F r c f O wr HS.out.g).mono ?_
    rintro e w2 ⟨v, d, ok, O2, rfl, m2, hv, hd, hs⟩
    have HH := Lib.hid hs
    have hlen := (HS.out.done hN m2).2.2.len 3
    clear hs
    cases ok with
    | false =>
      have hrun : Runs N.out N.av to most k S f [] false 0 := by
        by_cases h16 : k = 16
        · subst h16; exact .full S f
        · rcases HH.out (by omega) with ⟨h5, _⟩ | ⟨_, h5⟩
          · cases h5
          · exact .none k S f h5
      have HRun := Lib.hid hrun
      clear hrun hlen
      go_wp2_with fail
      go_ret2
      obtain ⟨e1, e2, _⟩ := HS.out.done hN m2
      exact ⟨_, _, _, _, HR.out _ _ _ HRun.out, rfl, by rw [List.append_nil]; exact e1, e2⟩
    | true =>
      by_cases hmd : most < d
      · have h1 : (most : Int) < (d : Int) := by omega
        have hrun : Runs N.out N.av to most k S f [] false 0 := by
          by_cases h16 : k = 16
          · subst h16; exact .full S f
          · rcases HH.out (by omega) with ⟨_, h5, _⟩ | ⟨h5, _⟩
            · exact .far k S f v d h5 hmd
            · cases h5
        have HRun := Lib.hid hrun
        clear hrun hlen
        go_wp2_with fail
        go_ret2
        obtain ⟨e1, e2, _⟩ := HS.out.done hN m2
        exact ⟨_, _, _, _, HR.out _ _ _ HRun.out, rfl, by rw [List.append_nil]; exact e1, e2⟩
      · have h1 : ¬ (most : Int) < (d : Int) := by omega
        by_cases h16 : k = 16
        · subst h16
          clear hmd
          go_wp2_with fail
          go_ret2
          obtain ⟨e1, e2, _⟩ := HS.out.done hN m2
          exact ⟨_, _, _, _, HR.out _ _ _ (.full S f), rfl, by rw [List.append_nil]; exact e1, e2⟩
        · have h2 : ((k : Int) == 16) = false := by rw [beq_eq_false_iff_ne]; omega
          rcases HH.out (by omega) with ⟨_, hl, g2⟩ | ⟨h5, _⟩
          case inr => cases h5
          have HL := Lib.hid hl
          have HS2 := Lib.hid (HS.out.front hN hD m2 g2)
          have hk15 : k < 16 := by omega
          clear g2 hl HH h16
          by_cases hvt : v = to
          · subst hvt
            have HRun : Hid (Runs N.out N.av v most k S f [] true 0) := Lib.hid (.is k S f d hk15 HL.out (by omega))
            go_wp2_with fail
            go_ret2
            exact ⟨_, _, _, _, HR.out _ _ _ HRun.out, rfl, by rw [List.append_nil]; exact HS2.out.p, HS2.out.net⟩
          · have h3 : ¬ (v : Int) = (to : Int) := by omega
            have hSv : S v = false := by
              cases hs : S v with
              | false => rfl
              | true => have := HD.out v hs; rw [HL.out.at_] at this; cases this
            have HBw : Hid (N.B ≤ w2.heap.size) := Lib.hid (Nat.le_trans HB0.out HS2.out.net.size)
            have HAsk := Lib.hid (hN.ask v seen On w2 hv (by omega) HS2.out.p HBw.out)
            go_wp2_with fail
            refine HAsk.out.mono ?_
            rintro e w3 ⟨A, c3, On3, rfl, he, p3, m3⟩
            have HI0 := Lib.hid (Ist.asked hN hD HS2.out m3 p3 he)
            clear he p3 m3 HAsk hlen
            by_cases her : (N.out v).2 = 0
            case neg =>
              have h4 : ((N.out v).2 == 0) = false := by rw [beq_eq_false_iff_ne]; exact her
              have HRun : Hid (Runs N.out N.av to most k S f [v] false (N.out v).2) := Lib.hid (.err k S f v d hk15 HL.out (by omega) hvt her)
              clear hmd hvt her
              generalize (N.out v).2 = er at *
              go_wp2_with fail
              go_ret2
              exact ⟨_, _, _, _, HR.out _ _ _ HRun.out, rfl, HI0.out.st.p, HI0.out.st.net⟩
            case pos =>
              have HR4 := Lib.hid (HR.out.step hk15 HL.out (by omega) hvt her)
              have HD4 := Lib.hid ((HD.out.off v).relax (av := N.av) d (N.out v).1)
              have hLm := HM0.out v
              obtain ⟨w4, hst, s4, q4⟩ := HI0.out.st.s.store (by omega) hv hSv
              have HI4 := Lib.hid (HI0.out.settle (S' := with_ S v) hN hD q4 s4)
              rw [her]
              clear q4 s4 her HI0 hSv hmd hvt HBw HL
              generalize (N.out v).1 = L at *
              generalize with_ S v = S4 at *
              generalize (fun b => w2.heap.size ≤ b ∧ b < w3.heap.size ∧ ¬ On3 b) = E at *
              generalize off f v = f1 at *
              have HIs : Hid (Ist N D F SB O0 w (r - 1) c (k + 1) S4 (relax S4 N.av d (L.take 0) f1) (seen ++ [v]) O2 On3 E A L w4) := HI4
              clear HI4 HS2 HS HR HD m2
              go_wp2_with fail
              clear hst
              go_loopw [72] (fun vi wr => ∃ (i c : Nat) (O : Nat → Prop), vi = .int .i64 i ∧ i ≤ L.length ∧ Hid (Ist N D F SB O0 w (r - 1) c (k + 1) S4 (relax S4 N.av d (L.take i) f1) (seen ++ [v]) O On3 E A L wr) ∧ c ≤ 1 + k * m + i) (fun vi _ => L.length - (intOf vi).toNat)
              case atStart => exact ⟨0, c, O2, rfl, by omega, HIs, by omega⟩
              case round =>
                clear HIs
                obtain ⟨i, c, O, rfl, hi, HI, hc⟩ := hrel
                by_cases hlt : i < L.length
                · have i1 : (i : Int) < (L.length : Int) := by omega
                  have i2 : (0 : Int) ≤ (i : Int) := by omega
                  obtain ⟨b, o, hA, hE, c0, c1, c2, c3⟩ := HI.out.e.at_ i hlt
                  have hLl : L.length ≤ 4611686018427387904 := HI.out.e.len
                  have HRx := Lib.hid (relax_take S4 N.av d L f1 i hlt)
                  subst hA
                  generalize L[i] = x at *
                  go_wp2_with fail
                  refine (wAdd_any d x.weight hd x.hweight _).mono ?_
                  rintro e w5 ⟨rfl, hw5⟩
                  have HI5 : Hid (Ist N D F SB O0 w (r - 1) c (k + 1) S4 (relax S4 N.av d (L.take i) f1) (seen ++ [v]) O On3 E (some ⟨b, o, none⟩) L w5) := Lib.hid (by rw [← hw5]; exact HI.out.below hN hD ((Below.refl _ _).alloc (Nat.le_refl _) _))
                  have hbx : w5.heap[wr.heap.size]? = some (.cells x.cells 67 (0, 0)) := by rw [← hw5]; exact heap_alloc_new _ _
                  have b1 : w5.cell? ⟨wr.heap.size, 1, none⟩ = some (.int .u32 (x.head : Int)) := cell_of_row _ _ 1 _ _ _ hbx
                  have lx : wr.heap.size < w5.heap.size := (Array.getElem?_eq_some_iff.1 hbx).1
                  have b2 : ∀ o, (w5.alloc o).cell? ⟨wr.heap.size, 1, none⟩ = some (.int .u32 (x.head : Int)) := fun o => by rw [World.cell?_alloc_past _ _ _ lx]; exact b1
                  have hlk := HI5.out.st.s.look x.hhead
                  have hcl : c < D.lim := by
                    have h6 : k * m ≤ 15 * m := Nat.mul_le_mul_right m (by omega)
                    omega
                  clear hw5 hbx c0 c1 c2 c3 HI
                  generalize wr.heap.size = X at *
                  have HI6 := Lib.hid (HI5.out.below hN hD ((Below.refl _ _).alloc (Nat.le_refl _) (.cells #[] 79)))
                  generalize hfit : fitsB d x.weight = fit at *
                  generalize hdone : S4 x.head = dn at *
                  have HFit := Lib.hid hfit
                  have HDone := Lib.hid hdone
                  clear hfit hdone
                  cases fit with
                  | false =>
                    have HI7 := Lib.hid (show Ist N D F SB O0 w (r - 1) c (k + 1) S4 (relax S4 N.av d (L.take (i + 1)) f1) (seen ++ [v]) O On3 E (some ⟨b, o, none⟩) L _ from by rw [HRx.out]; unfold relax1 goes; rw [HFit.out, Bool.false_and, Bool.false_and, if_neg Bool.false_ne_true]; exact HI6.out)
                    go_wp2_with fail
                    go_roundw
                    case rel => exact ⟨i + 1, _, _, by go_num, by omega, HI7, by omega⟩
                    case measure => simp [intOf]; omega
                  | true =>
                    cases dn with
                    | true =>
                      have HI7 := Lib.hid (show Ist N D F SB O0 w (r - 1) c (k + 1) S4 (relax S4 N.av d (L.take (i + 1)) f1) (seen ++ [v]) O On3 E (some ⟨b, o, none⟩) L _ from by rw [HRx.out]; unfold relax1 goes; rw [HDone.out, Bool.not_true, Bool.and_false, Bool.false_and, if_neg Bool.false_ne_true]; exact HI6.out)
                      go_wp2_with fail
                      go_roundw
                      case rel => exact ⟨i + 1, _, _, by go_num, by omega, HI7, by omega⟩
                      case measure => simp [intOf]; omega
                    | false =>
                      have HSh := Lib.hid (hN.shun x.head (seen ++ [v]) On3 _ x.hhead HI6.out.st.p (Nat.le_trans HB0.out HI6.out.st.net.size))
                      go_wp2_with fail
                      refine HSh.out.mono ?_
                      rintro e w6 ⟨rfl, hb6⟩
                      have HI6b := Lib.hid (HI6.out.below hN hD hb6)
                      have b6 : w6.cell? ⟨X, 1, none⟩ = some (.int .u32 (x.head : Int)) := (hb6.cell (p := ⟨X, 1, none⟩) (by simp; omega)).trans (b2 _)
                      clear hb6 HSh
                      generalize hav : N.av x.head = av at *
                      have HAv := Lib.hid hav
                      clear hav
                      cases av with
                      | true =>
                        have HI7 := Lib.hid (show Ist N D F SB O0 w (r - 1) c (k + 1) S4 (relax S4 N.av d (L.take (i + 1)) f1) (seen ++ [v]) O On3 E (some ⟨b, o, none⟩) L w6 from by rw [HRx.out]; unfold relax1 goes; rw [HAv.out, Bool.not_true, Bool.and_false, if_neg Bool.false_ne_true]; exact HI6b.out)
                        go_wp2_with fail
                        go_roundw
                        case rel => exact ⟨i + 1, _, _, by go_num, by omega, HI7, by omega⟩
                        case measure => simp [intOf]; omega
                      | false =>
                        have HSum := Lib.hid (sumV_yes HFit.out)
                        have hsl : sumV d x.weight < 18446744073709551616 := by have := fitsB_yes HFit.out; rw [HSum.out]; omega
                        have HCo := Lib.hid (hD.come F (r - 1) c _ O w6 x.head (sumV d x.weight) HI6b.out.st.g hcl x.hhead hsl)
                        go_wp2_with fail
                        refine HCo.out.mono ?_
                        rintro e w7 ⟨rfl, O7, g7, m7⟩
                        have HI7 := Lib.hid (show Ist N D F SB O0 w (r - 1) (c + 1) (k + 1) S4 (relax S4 N.av d (L.take (i + 1)) f1) (seen ++ [v]) O7 On3 E (some ⟨b, o, none⟩) L w7 from by
                          rw [HRx.out]; unfold relax1 goes; rw [HAv.out, HDone.out, HFit.out, if_pos (by rfl), ← HSum.out]
                          exact HI6b.out.front hN hD m7 g7)
                        clear g7 m7
                        go_wp2_with fail
                        go_roundw
                        case rel => exact ⟨i + 1, _, _, by go_num, by omega, HI7, by omega⟩
                        case measure => simp [intOf]; omega
                · have i1 : ¬ (i : Int) < (L.length : Int) := by omega
                  have hie : i = L.length := by omega
                  subst hie
                  rw [List.take_length] at HI
                  have HMe : Hid (setLen Try.prog SB wr = k + 1) := Lib.hid HI.out.st.s.setLen
                  go_wp2_with fail
                  go_roundw
                  case rel =>
                    refine ⟨r - 1, c, k + 1, S4, _, _, O, On3, Lib.hid HI.out.st, HR4, HD4, by omega, ?_, by simp [hse]⟩
                    rw [Nat.succ_mul]; omega
                  case measure =>
                    rw [HMe.out, HMs.out]; omega
end Go.Proofs.Ytpnmfhcmodoeiaa
