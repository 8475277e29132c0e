/- The contracts of Sum (both), Eq and Copy of edges. -/
import Derived.Test.YtongpcfjfolfbaaUs
import Derived.Deep.QuietTactic
import Derived.BigQuiet
namespace Go.Proofs.Ytongpcfjfolfbaa
open Go.RowKit

theorem ret_pair {k : IntKind} {a b : Int} {x y : Bool} (h : a = b) (h' : x = y) : Ending.returned (.tuple #[.int k a, .bool x]) = .returned (.tuple #[.int k b, .bool y]) := by rw [h, h']
/-- the state of Sum's loop: a sum so far, or that there is none -/
def SumSt (l : List Edg) (i s : Nat) (ok : Bool) : Prop := (ok = true → SumAt l i s) ∧ (ok = false → s = 0 ∧ sumOk l = false) ∧ s < 18446744073709551616

set_option maxHeartbeats 2000000 in
theorem sum_any (B : Nat) (A : Option Addr) (l : List Edg) (c : Nat) (w : World) (hs : ELs B w A l) :
    Calls Try.prog 18 #[.slice A l.length c] w fun e w' => e = .returned (.tuple #[.int .u64 (sumOf l : Int), .bool (sumOk l)]) ∧ Drew w w' := by
  have hlen := hs.len
  have HA := Lib.hid wAdd_any
  go_enter Try.func18, Try.ntmps18
  go_wp2_with fail
  go_loopw [2, 3, 4] (fun vs vo vi wr => ∃ (i s : Nat) (ok : Bool), i ≤ l.length ∧ vs = .int .u64 s ∧ vo = .bool ok ∧ vi = .int .i64 i ∧ Hid (SumSt l i s ok) ∧ ∃ n, wr = w.drewN n) (fun _ _ vi _ => l.length - (intOf vi).toNat)
  case atStart => exact ⟨0, 0, true, by omega, rfl, rfl, rfl, ⟨fun _ => sumAt_zero l, (fun h => nomatch h), by omega⟩, 0, rfl⟩
  case round =>
    obtain ⟨i, s, ok, hi, rfl, rfl, rfl, HS, n, rfl⟩ := hrel
    by_cases hlt : i < l.length
    · cases ok with
      | false =>
        have HV : Hid (sumOf l = s ∧ sumOk l = false) := ⟨by have := HS.out.2.1 rfl; rw [this.1, sum_no this.2], (HS.out.2.1 rfl).2⟩
        clear HS
        go_wp2_with fail
        go_ret2
        exact ⟨ret_pair (by rw [HV.out.1]) HV.out.2.symm, (Drew.refl _).drewN _⟩
      | true =>
        have hs64 := HS.out.2.2
        by_cases hi0 : i = 0
        · subst hi0
          obtain ⟨b, o, rfl, _, c1, c2, c3, c4⟩ := ELs.at' hs 0 hlt
          clear hs
          have HN : Hid (SumSt l 1 (sumV s l[0].weight) (fitsB s l[0].weight)) := Lib.hid ⟨fun h => by rw [sumV_yes h]; exact sumAt_next0 (HS.out.1 rfl) hlt h, fun h => ⟨sumV_no h, (sumAt_over (HS.out.1 rfl) hlt h).1⟩, by unfold sumV; split <;> omega⟩
          have hw := l[0].hweight
          generalize l[0] = x at *
          have HA1 := Lib.hid (fun W => HA.out s x.weight hs64 hw W)
          clear HS HA
          generalize sumV s x.weight = s2 at *
          generalize fitsB s x.weight = ok2 at *
          go_wp2_with fail
          go_quiet (fail)
          go_wp2_with (go_at_call 29; with_reducible refine (HA1.out _).mono ?_; rintro e w2 ⟨rfl, rfl⟩)
          go_roundw
          case rel => exact ⟨0 + 1, s2, ok2, by omega, rfl, rfl, by go_num, HN, _, rfl⟩
          case measure => simp [intOf]; omega
        · obtain ⟨b, o, rfl, _, c1, c2, c3, c4⟩ := ELs.at' hs i hlt
          obtain ⟨b', o', hA', _, d1, d2, d3, d4⟩ := ELs.at' hs (i - 1) (by omega)
          obtain ⟨rfl, rfl⟩ : b = b' ∧ o = o' := by simpa using hA'
          clear hA' hs
          have hj : i - 1 < l.length := by omega
          have e1 : IntKind.i64.wrap ((i:Int) - 1) = (i:Int) - 1 := IntWalk.i64_in _ (by omega)
          have e2 : decide (0 < i) = true := by rw [decide_eq_true_iff]; omega
          have e3 : (0:Int) ≤ (i:Int) - 1 := by omega
          have e4 : (i:Int) - 1 < l.length := by omega
          have e5 : ((i:Int) - 1).toNat = i - 1 := by omega
          have HG : Hid ((l[i - 1]'hj).head ≠ l[i].tail → sumOk l = false ∧ sumOf l = 0) := Lib.hid (fun hg => by
            obtain ⟨j, rfl⟩ : ∃ j, i = j + 1 := ⟨i - 1, by omega⟩
            exact sumAt_gap (HS.out.1 rfl) hlt hg)
          have HN : Hid ((l[i - 1]'hj).head = l[i].tail → SumSt l (i + 1) (sumV s l[i].weight) (fitsB s l[i].weight)) := Lib.hid (fun hg => ⟨fun h => by
            obtain ⟨j, rfl⟩ : ∃ j, i = j + 1 := ⟨i - 1, by omega⟩
            rw [sumV_yes h]; exact sumAt_next (HS.out.1 rfl) hlt hg h, fun h => ⟨sumV_no h, (sumAt_over (HS.out.1 rfl) hlt h).1⟩, by unfold sumV; split <;> omega⟩)
          have hw := l[i].hweight
          generalize (l[i - 1]'hj) = y at *
          generalize l[i] = x at *
          have HA1 := Lib.hid (fun W => HA.out s x.weight hs64 hw W)
          clear HS HA
          generalize sumV s x.weight = s2 at *
          generalize fitsB s x.weight = ok2 at *
          by_cases hg : y.head = x.tail
          · have g1 : ((y.head : Int) != (x.tail : Int)) = false := by rw [hg]; simp
            have HN2 := Lib.hid (HN.out hg)
            clear HN HG hg
            go_wp2_with fail
            go_quiet (fail)
            clear e1 e2 e3 e4 e5 c1 c2 d1 d2 d3 d4
            go_wp2_with (go_at_call 29; with_reducible refine (HA1.out _).mono ?_; rintro e w2 ⟨rfl, rfl⟩)
            go_roundw
            case rel => exact ⟨i + 1, s2, ok2, by omega, rfl, rfl, by go_num, HN2, _, rfl⟩
            case measure => simp [intOf]; omega
          · have g1 : ((y.head : Int) != (x.tail : Int)) = true := by rw [bne_iff_ne]; omega
            have HG2 := Lib.hid (HG.out hg)
            clear HN HG hg
            go_wp2_with fail
            go_quiet (fail)
            go_wp2_with fail
            go_ret2
            exact ⟨ret_pair (by rw [HG2.out.2]; rfl) HG2.out.1.symm, ((Drew.refl _).drewN _).drewN _⟩
    · have HV : Hid (sumOf l = s ∧ sumOk l = ok) := by
        show _ ∧ _
        cases ok with
        | false => exact ⟨by have := HS.out.2.1 rfl; rw [this.1, sum_no this.2], (HS.out.2.1 rfl).2⟩
        | true =>
          have := HS.out.1 rfl
          rw [show i = l.length by omega] at this
          exact ⟨(sumAt_end this).2, (sumAt_end this).1⟩
      clear HS
      go_wp2_with fail
      go_ret2
      exact ⟨ret_pair (by rw [HV.out.1]) HV.out.2.symm, (Drew.refl _).drewN _⟩

set_option maxHeartbeats 2000000 in
theorem refSum_any (B : Nat) (A : Option Addr) (l : List Edg) (c : Nat) (w : World) (hs : ELs B w A l) :
    Calls Try.prog 19 #[.slice A l.length c] w fun e w' => e = .returned (.tuple #[.int .u64 (sumOf l : Int), .bool (sumOk l)]) ∧ Drew w w' := by
  have hlen := hs.len
  have HA := Lib.hid refAdd_any
  go_enter Try.func19, Try.ntmps19
  go_wp2_with fail
  go_loopw [4, 5] (fun vs vi wr => ∃ (i s : Nat), i ≤ l.length ∧ vs = .int .u64 s ∧ vi = .int .i64 i ∧ Hid (SumAt l i s) ∧ ∃ n, wr = w.drewN n) (fun _ vi _ => l.length - (intOf vi).toNat)
  case atStart => exact ⟨0, 0, by omega, rfl, rfl, sumAt_zero l, 0, rfl⟩
  case round =>
    obtain ⟨i, s, hi, rfl, rfl, HS, n, rfl⟩ := hrel
    by_cases hlt : i < l.length
    · have hs64 := HS.out.2.2
      by_cases hi0 : i = 0
      · subst hi0
        obtain ⟨b, o, rfl, _, c1, c2, c3, c4⟩ := ELs.at' hs 0 hlt
        clear hs
        cases hf : fitsB s l[0].weight with
        | true =>
          have HN : Hid (SumAt l 1 (s + l[0].weight)) := Lib.hid (sumAt_next0 HS.out hlt hf)
          have HA1 := Lib.hid (fun W => HA.out s l[0].weight W)
          rw [hf, sumV_yes hf] at HA1
          clear hf HS HA hs64
          generalize s + l[0].weight = s2 at *
          generalize l[0] = x at *
          go_wp2_with fail
          go_quiet (fail)
          go_wp2_with (go_at_call 23; with_reducible refine (HA1.out _).mono ?_; rintro e w2 ⟨rfl, rfl⟩)
          go_roundw
          case rel => exact ⟨0 + 1, s2, by omega, rfl, by go_num, HN, _, rfl⟩
          case measure => simp [intOf]; omega
        | false =>
          have HN := Lib.hid (sumAt_over HS.out hlt hf)
          have HA1 := Lib.hid (fun W => HA.out s l[0].weight W)
          rw [hf] at HA1
          clear hf HS HA hs64
          generalize sumV s l[0].weight = s2 at *
          generalize l[0] = x at *
          go_wp2_with fail
          go_quiet (fail)
          go_wp2_with (go_at_call 23; with_reducible refine (HA1.out _).mono ?_; rintro e w2 ⟨rfl, rfl⟩)
          go_ret2
          exact ⟨ret_pair (by rw [HN.out.2]; rfl) HN.out.1.symm, _, rfl⟩
      · obtain ⟨b, o, rfl, _, c1, c2, c3, c4⟩ := ELs.at' hs i hlt
        obtain ⟨b', o', hA', _, d1, d2, d3, d4⟩ := ELs.at' hs (i - 1) (by omega)
        obtain ⟨rfl, rfl⟩ : b = b' ∧ o = o' := by simpa using hA'
        clear hA' hs
        have hj : i - 1 < l.length := by omega
        have e1 : IntKind.i64.wrap ((i:Int) - 1) = (i:Int) - 1 := IntWalk.i64_in _ (by omega)
        have e2 : decide (0 < i) = true := by rw [decide_eq_true_iff]; omega
        have e3 : (0:Int) ≤ (i:Int) - 1 := by omega
        have e4 : (i:Int) - 1 < l.length := by omega
        have e5 : ((i:Int) - 1).toNat = i - 1 := by omega
        by_cases hg : (l[i - 1]'hj).head = l[i].tail
        · have g1 : ((l[i].tail : Int) != ((l[i - 1]'hj).head : Int)) = false := by rw [hg]; simp
          cases hf : fitsB s l[i].weight with
          | true =>
            have HN : Hid (SumAt l (i + 1) (s + l[i].weight)) := Lib.hid (by
              obtain ⟨j, rfl⟩ : ∃ j, i = j + 1 := ⟨i - 1, by omega⟩
              exact sumAt_next HS.out hlt hg hf)
            have HA1 := Lib.hid (fun W => HA.out s l[i].weight W)
            rw [hf, sumV_yes hf] at HA1
            clear hf HS HA hs64 hg
            generalize s + l[i].weight = s2 at *
            generalize (l[i - 1]'hj) = y at *
            generalize l[i] = x at *
            go_wp2_with fail
            go_quiet (fail)
            clear e1 e2 e3 e4 e5 c1 c2 d1 d2 d3 d4
            go_wp2_with (go_at_call 23; with_reducible refine (HA1.out _).mono ?_; rintro e w2 ⟨rfl, rfl⟩)
            go_roundw
            case rel => exact ⟨i + 1, s2, by omega, rfl, by go_num, HN, _, rfl⟩
            case measure => simp [intOf]; omega
          | false =>
            have HN := Lib.hid (sumAt_over HS.out hlt hf)
            have HA1 := Lib.hid (fun W => HA.out s l[i].weight W)
            rw [hf] at HA1
            clear hf HS HA hs64 hg
            generalize sumV s l[i].weight = s2 at *
            generalize (l[i - 1]'hj) = y at *
            generalize l[i] = x at *
            go_wp2_with fail
            go_quiet (fail)
            clear e1 e2 e3 e4 e5 c1 c2 d1 d2 d3 d4
            go_wp2_with (go_at_call 23; with_reducible refine (HA1.out _).mono ?_; rintro e w2 ⟨rfl, rfl⟩)
            go_ret2
            exact ⟨ret_pair (by rw [HN.out.2]; rfl) HN.out.1.symm, _, rfl⟩
        · have HG := Lib.hid (show sumOk l = false ∧ sumOf l = 0 by
            obtain ⟨j, rfl⟩ : ∃ j, i = j + 1 := ⟨i - 1, by omega⟩
            exact sumAt_gap HS.out hlt hg)
          have g1 : ((l[i].tail : Int) != ((l[i - 1]'hj).head : Int)) = true := by rw [bne_iff_ne]; omega
          clear HS HA hs64 hg
          generalize (l[i - 1]'hj) = y at *
          generalize l[i] = x at *
          go_wp2_with fail
          go_quiet (fail)
          go_wp2_with fail
          go_ret2
          exact ⟨ret_pair (by rw [HG.out.2]; rfl) HG.out.1.symm, ((Drew.refl _).drewN _).drewN _⟩
    · have HV : Hid (sumOf l = s ∧ sumOk l = true) := by
        have := HS.out
        rw [show i = l.length by omega] at this
        exact ⟨(sumAt_end this).2, (sumAt_end this).1⟩
      clear HS
      go_wp2_with fail
      go_ret2
      exact ⟨ret_pair (by rw [HV.out.1]) HV.out.2.symm, (Drew.refl _).drewN _⟩

set_option maxHeartbeats 1000000 in
/-- equal lists of edges are found equal -/
theorem eq_same (B B' : Nat) (A A' : Option Addr) (l : List Edg) (c c' : Nat) (w : World) (hs : ELs B w A l) (hs' : ELs B' w A' l) :
    Calls Try.prog 16 #[.slice A l.length c, .slice A' l.length c'] w fun e w' => e = .returned (.bool true) ∧ Drew w w' := by
  have hlen := hs.len
  go_enter Try.func16, Try.ntmps16
  go_wp2
  go_loopw [5] (fun i wr => ∃ k : Nat, k ≤ l.length ∧ i = .int .i64 k ∧ ∃ n, wr = w.drewN n) (fun i _ => l.length - (intOf i).toNat)
  case atStart => exact ⟨0, by omega, rfl, 0, rfl⟩
  case round =>
    obtain ⟨k, hk, rfl, n, rfl⟩ := hrel
    by_cases hlt : k < l.length
    · obtain ⟨b, o, rfl, _, h1, h2, h3, h4⟩ := ELs.at' hs k hlt
      obtain ⟨b', o', rfl, _, h1', h2', h3', h4'⟩ := ELs.at' hs' k hlt
      clear hs hs'
      generalize (l[k]).tail = p at *
      generalize (l[k]).head = q at *
      generalize (l[k]).weight = r at *
      generalize (l[k]).mid = s at *
      have e1 : (0:Int) ≤ (k:Int) := by omega
      have e2 : (k:Int) < l.length := by omega
      go_wp2
      go_quiet (fail)
      go_wp2
      go_roundw
      case rel => exact ⟨k + 1, by omega, by go_num, _, rfl⟩
      case measure => simp [intOf]; omega
    · go_wp2
      go_ret
      exact ⟨rfl, (Drew.refl _).drewN _⟩
/-- the same edges in new memory -/
theorem copy_any (B : Nat) (A : Option Addr) (l : List Edg) (c : Nat) (w : World) (hs : ELs B w A l) (hl : l.length ≤ 1073741824) :
    Calls Try.prog 17 #[.slice A l.length c] w fun e w' => ∃ A' c', e = .returned (.slice A' l.length c') ∧ OwnS w' w.heap.size 42 4 Edg.enc (.slice A' l.length c') l ∧ Below w.heap.size w w' := by
  go_enter Try.func17, Try.ntmps17
  go_wp2_with (at_builtin; refine wpList_append_sr _ rfl (.tmp 4) (.tmp 5) edge_ety rfl w.heap.size (.slice none 0 0) [] rfl (OwnS.nil _ _ _ _ _) B A l.length c l rfl rfl hs (by simp [maxLen]; omega) (by simp; omega) (Nat.le_refl _) ?_; intro A' c' w' hown hg _)
  go_ret
  refine ⟨A', c', by simp, by simpa using hown, (Below.refl _ _).grown hg (Nat.le_refl _) (by simp [Value.ownBlock])⟩
end Go.Proofs.Ytongpcfjfolfbaa
