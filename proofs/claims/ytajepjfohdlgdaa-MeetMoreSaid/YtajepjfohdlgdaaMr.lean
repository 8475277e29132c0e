/- Contracts of hub.Right and milepostref19.Right (whether the hubs rise), milepostref19.Eq, milepostlaw21.dist. -/
import Derived.Test.YtajepjfohdlgdaaRows
import Derived.Test.YtajepjfohdlgdaaPm
import Derived.Test.YtajepjfohdlgdaaG
import Derived.Deep.QuietTactic
import Derived.BigQuiet
namespace Go.Proofs.Ytajepjfohdlgdaa
open Go.RowKit

def Lbl.enc (x : Lbl) : List Value := [.int .u32 (x.hub : Int), .int .u32 (x.next : Int), .int .u64 (x.dist : Int)]
abbrev SL := SR 3 Lbl.enc

theorem SL.at' {B : Nat} {w : World} {A : Option Addr} {l : List Lbl} (h : SL B w A l) (i : Nat) (hi : i < l.length) :
    ∃ b o : Nat, A = some ⟨b, o, none⟩ ∧ b < B ∧ w.cell? ⟨b, o + i * 3, none⟩ = some (.int .u32 (l[i].hub : Int)) ∧
      w.cell? ⟨b, o + i * 3 + 1, none⟩ = some (.int .u32 (l[i].next : Int)) ∧ w.cell? ⟨b, o + i * 3 + 2, none⟩ = some (.int .u64 (l[i].dist : Int)) := by
  obtain ⟨b, o, hA, hb, hc⟩ := h.at_ i hi
  exact ⟨b, o, hA, hb, hc 0 _ rfl, hc 1 _ rfl, hc 2 _ rfl⟩

set_option maxHeartbeats 1000000 in
theorem hubRight_any (B : Nat) (A : Option Addr) (l : List Lbl) (c : Nat) (w : World) (hs : SL B w A l) :
    Calls Try.prog 17 #[.slice A l.length c] w fun e w' => e = .returned (.bool (rightB l)) ∧ Drew w w' := by
  have hlen := hs.len
  go_enter Try.func17, Try.ntmps17
  go_wp2
  go_loopw [3, 6] (fun _ i wr => ∃ k : Nat, k ≤ l.length ∧ i = .int .i64 k ∧ Hid (RisesTo l k) ∧ ∃ n, wr = w.drewN n) (fun _ i _ => l.length - (intOf i).toNat)
  case atStart => exact ⟨0, Nat.zero_le _, rfl, RisesTo.zero l 0 (by omega), 0, rfl⟩
  case round =>
    obtain ⟨k, hk, rfl, HR, n, rfl⟩ := hrel
    by_cases hlt : k < l.length
    · obtain ⟨b, o, rfl, _, h2, _, _⟩ := hs.at' k hlt
      by_cases h0 : 0 < k
      · obtain ⟨b', o', ha', _, h1, _, _⟩ := hs.at' (k - 1) (by omega)
        obtain ⟨rfl, rfl⟩ : b = b' ∧ o = o' := by simpa using ha'
        clear ha' hs
        have HN : Hid ((l[k - 1]'(by omega)).hub < (l[k]).hub → RisesTo l (k + 1)) := RisesTo.next HR hlt h0
        have HF : Hid ((l[k]).hub ≤ (l[k - 1]'(by omega)).hub → rightB l = false) := rightB_not' hlt h0
        have e1 : IntKind.i64.wrap ((k:Int) - 1) = (k:Int) - 1 := IntWalk.i64_in _ (by omega)
        have e2 : (0:Int) < (k:Int) := by omega
        have e3 : (0:Int) ≤ (k:Int) - 1 := by omega
        have e4 : (k:Int) - 1 < l.length := by omega
        have e5 : ((k:Int) - 1).toNat = k - 1 := by omega
        generalize (l[k - 1]'(by omega)).hub = p at h1 HN HF
        generalize (l[k]).hub = q at h2 HN HF
        go_wp2
        go_quiet (fail)
        clear e1 e2 e3 e4 e5 h1 h2
        by_cases hge : q ≤ p
        · go_wp2
          go_ret
          exact ⟨ret_bool (HF hge).symm, ((Drew.refl _).drewN _).drewN _⟩
        · go_wp2
          go_roundw
          case rel => exact ⟨k + 1, by omega, by go_num, HN (by omega), _, rfl⟩
          case measure => simp [intOf]; omega
      · obtain rfl : k = 0 := by omega
        have hd : decide ((0:Int) < ((0:Nat):Int)) = false := by decide
        go_wp2
        go_quiet (fail)
        go_wp2
        go_roundw
        case rel => exact ⟨0 + 1, by omega, by go_num, RisesTo.zero l _ (by omega), _, rfl⟩
        case measure => simp [intOf]; omega
    · have HA : Hid (rightB l = true) := RisesTo.all HR (by omega)
      go_wp2
      go_ret
      exact ⟨ret_bool (Eq.symm HA), (Drew.refl _).drewN _⟩

set_option maxHeartbeats 1000000 in
theorem refRight_any (B : Nat) (A : Option Addr) (l : List Lbl) (c : Nat) (w : World) (hs : SL B w A l) :
    Calls Try.prog 14 #[.slice A l.length c] w fun e w' => e = .returned (.bool (rightB l)) ∧ Drew w w' := by
  have hlen := hs.len
  go_enter Try.func14, Try.ntmps14
  go_wp2
  go_loopw [3] (fun i wr => ∃ k : Nat, 1 ≤ k ∧ k ≤ l.length + 1 ∧ i = .int .i64 k ∧ Hid (RisesTo l k) ∧ ∃ n, wr = w.drewN n) (fun i _ => l.length + 1 - (intOf i).toNat)
  case atStart => exact ⟨1, by omega, by omega, rfl, RisesTo.zero l 1 (by omega), 0, rfl⟩
  case round =>
    obtain ⟨k, h0, hk, rfl, HR, n, rfl⟩ := hrel
    by_cases hlt : k < l.length
    · obtain ⟨b, o, rfl, _, h2, _, _⟩ := hs.at' k hlt
      obtain ⟨b', o', ha', _, h1, _, _⟩ := hs.at' (k - 1) (by omega)
      obtain ⟨rfl, rfl⟩ : b = b' ∧ o = o' := by simpa using ha'
      clear ha' hs
      have HN : Hid ((l[k - 1]'(by omega)).hub < (l[k]).hub → RisesTo l (k + 1)) := RisesTo.next HR hlt h0
      have HF : Hid ((l[k]).hub ≤ (l[k - 1]'(by omega)).hub → rightB l = false) := rightB_not' hlt h0
      have e1 : IntKind.i64.wrap ((k:Int) - 1) = (k:Int) - 1 := IntWalk.i64_in _ (by omega)
      have e2 : (0:Int) < (k:Int) := by omega
      have e3 : (0:Int) ≤ (k:Int) - 1 := by omega
      have e4 : (k:Int) - 1 < l.length := by omega
      have e5 : ((k:Int) - 1).toNat = k - 1 := by omega
      generalize (l[k - 1]'(by omega)).hub = p at h1 HN HF
      generalize (l[k]).hub = q at h2 HN HF
      go_wp2
      go_quiet (fail)
      clear e1 e2 e3 e4 e5 h1 h2
      by_cases hge : q ≤ p
      · go_wp2
        go_ret
        exact ⟨ret_bool (HF hge).symm, ((Drew.refl _).drewN _).drewN _⟩
      · go_wp2
        go_roundw
        case rel => exact ⟨k + 1, by omega, by omega, by go_num, HN (by omega), _, rfl⟩
        case measure => simp [intOf]; omega
    · have HA : Hid (rightB l = true) := RisesTo.all HR (by omega)
      go_wp2
      go_ret
      exact ⟨ret_bool (Eq.symm HA), (Drew.refl _).drewN _⟩

/-- equal lists of labels are found equal -/
theorem eq_same (B : Nat) (A A' : Option Addr) (l : List Lbl) (c c' : Nat) (w : World) (hs : SL B w A l) (hs' : SL B w A' l) :
    Calls Try.prog 13 #[.slice A l.length c, .slice A' l.length c'] w fun e w' => e = .returned (.bool true) ∧ Drew w w' := by
  have hlen := hs.len
  go_enter Try.func13, Try.ntmps13
  go_wp2
  go_loopw [5] (fun i wr => ∃ k : Nat, k ≤ l.length ∧ i = .int .i64 k ∧ ∃ n, wr = w.drewN n) (fun i _ => l.length - (intOf i).toNat)
  case atStart => exact ⟨0, by omega, rfl, 0, rfl⟩
  case round =>
    obtain ⟨k, hk, rfl, n, rfl⟩ := hrel
    by_cases hlt : k < l.length
    · obtain ⟨b, o, rfl, _, h1, h2, h3⟩ := hs.at' k hlt
      obtain ⟨b', o', rfl, _, h1', h2', h3'⟩ := hs'.at' k hlt
      clear hs hs'
      generalize (l[k]).hub = p at *
      generalize (l[k]).next = q at *
      generalize (l[k]).dist = r at *
      have e1 : (0:Int) ≤ (k:Int) := by omega
      have e2 : (k:Int) < l.length := by omega
      go_wp2
      go_quiet (fail)
      go_wp2
      go_roundw
      case rel => exact ⟨k + 1, by omega, by go_num, _, rfl⟩
      case measure => simp [intOf]; omega
    · go_wp2
      go_ret
      exact ⟨rfl, (Drew.refl _).drewN _⟩
end Go.Proofs.Ytajepjfohdlgdaa
