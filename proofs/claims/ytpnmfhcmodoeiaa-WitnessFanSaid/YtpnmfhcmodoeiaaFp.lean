/- A short search in a fan, in plain words; Find in a fan. -/
import Derived.Test.YtpnmfhcmodoeiaaFw
namespace Go.Proofs.Ytpnmfhcmodoeiaa
open Go.RowKit
def fanF (many k u : Nat) : Option Nat := if 1 ≤ u ∧ u ≤ k ∧ u + 13 ≤ many then some (many - u + 1) else none
theorem fan_relax {S : Nat → Bool} {many : Nat} (hm : many ≤ 70000) (hS : ∀ u, u ≠ 0 → S u = false) : ∀ k, k ≤ many → relax S (fanAv many) 0 (fanL many k) (fun _ => none) = fanF many k
  | 0, _ => by
    show (fun _ => none) = fanF many 0
    funext u
    unfold fanF
    rw [if_neg (by omega)]
  | k + 1, hk => by
    have ih := fan_relax hm hS k (by omega)
    obtain ⟨_, x2, x3, _⟩ := fanE_is (i := k) (many := many) (by omega) hm
    have e : relax S (fanAv many) 0 (fanL many (k + 1)) (fun _ => none) = relax1 S (fanAv many) 0 (fanF many k) (fanE many k) := by
      rw [← ih, fanL_succ]
      unfold relax
      rw [List.foldl_append]
      rfl
    rw [e]
    unfold relax1 goes
    rw [x2, x3, hS (k + 1) (by omega)]
    have hfit : fitsB 0 (many - k) = true := fitsB_mk (by omega)
    rw [hfit]
    by_cases ha : many < k + 1 + 13
    · have hav : fanAv many (k + 1) = true := by unfold fanAv; rw [decide_eq_true ha, decide_eq_true (by omega : k + 1 ≤ many)]; rfl
      rw [hav, if_neg (by simp)]
      funext u
      unfold fanF
      by_cases hu : 1 ≤ u ∧ u ≤ k ∧ u + 13 ≤ many
      · rw [if_pos hu, if_pos ⟨hu.1, by omega, hu.2.2⟩]
      · rw [if_neg hu, if_neg (by omega)]
    · have hav : fanAv many (k + 1) = false := by unfold fanAv; rw [decide_eq_false ha]; rfl
      rw [hav, if_pos (by rfl)]
      have hn : fanF many k (k + 1) = none := if_neg (by omega)
      rw [comeF_new hn]
      funext u
      by_cases hu : u = k + 1
      · subst hu
        rw [upd_same]
        unfold fanF
        rw [if_pos ⟨by omega, by omega, by omega⟩]
        congr 1
        omega
      · rw [upd_other _ _ hu]
        unfold fanF
        by_cases h2 : 1 ≤ u ∧ u ≤ k ∧ u + 13 ≤ many
        · rw [if_pos h2, if_pos ⟨h2.1, by omega, h2.2.2⟩]
        · rw [if_neg h2, if_neg (by omega)]
theorem fan_start : IsLeast (start 0) 0 0 := ⟨upd_same _ _ _, fun u e h => by
  unfold start at h
  by_cases hu : u = 0
  · subst hu; rw [upd_same] at h; injection h with h; omega
  · rw [upd_other _ _ hu] at h; cases h⟩
theorem off_start : off (start 0) 0 = fun _ => none := by
  funext u
  by_cases hu : u = 0
  · subst hu; exact off_same _ _
  · rw [off_other _ hu]; unfold start; exact upd_other _ _ hu
theorem fan_finds {many most : Nat} (h1 : 20 ≤ many) (hm : many ≤ 70000) {a : List Nat} {b : Bool} {e : Int} (h : Finds (fanOut many (many + 5)) (fanAv many) 0 (many + 5) most a b e) : e = 0 ∧ (b = true ↔ 14 ≤ most) := by
  have hout0 : fanOut many (many + 5) 0 = (fanL many many, 0) := if_pos rfl
  have hf1 : relax (with_ (fun _ => false) 0) (fanAv many) 0 (fanOut many (many + 5) 0).1 (off (start 0) 0) = fanF many many := by
    rw [hout0, off_start]
    exact fan_relax hm (fun u hu => with_other _ hu) many (Nat.le_refl _)
  have hl1 : IsLeast (fanF many many) (many - 13) 14 := by
    refine ⟨?_, fun u e hu => ?_⟩
    · unfold fanF; rw [if_pos ⟨by omega, by omega, by omega⟩]; congr 1; omega
    · unfold fanF at hu
      split at hu
      · injection hu with hu; omega
      · cases hu
  have hlast : many - 13 ≠ many + 5 := by omega
  by_cases hms : 14 ≤ most
  · have hout1 : fanOut many (many + 5) (many - 13) = ([endE (many - 13) (many + 5)], 0) := by unfold fanOut; rw [if_neg (by omega), if_pos (by omega)]
    have hE : (endE (many - 13) (many + 5)).head = many + 5 ∧ (endE (many - 13) (many + 5)).weight = 0 := ⟨Nat.mod_eq_of_lt (by omega), rfl⟩
    have hS2 : with_ (with_ (fun _ => false) 0) (many - 13) (many + 5) = false := by rw [with_other _ (by omega), with_other _ (by omega)]
    have hav : fanAv many (many + 5) = false := by unfold fanAv; rw [show decide (many + 5 ≤ many) = false from decide_eq_false (by omega), Bool.and_false]
    have hf2 : relax (with_ (with_ (fun _ => false) 0) (many - 13)) (fanAv many) 14 (fanOut many (many + 5) (many - 13)).1 (off (fanF many many) (many - 13)) = upd (off (fanF many many) (many - 13)) (many + 5) 14 := by
      rw [hout1]
      show relax1 _ _ _ _ _ = _
      unfold relax1 goes
      rw [hE.1, hE.2, hS2, hav]
      rw [if_pos (by rfl)]
      refine comeF_new ?_
      rw [off_other _ (by omega)]
      unfold fanF
      rw [if_neg (by omega)]
    have hl2 : IsLeast (upd (off (fanF many many) (many - 13)) (many + 5) 14) (many + 5) 14 := by
      refine ⟨upd_same _ _ _, fun u e hu => ?_⟩
      by_cases hul : u = many + 5
      · subst hul; rw [upd_same] at hu; injection hu with hu; omega
      · rw [upd_other _ _ hul] at hu
        by_cases hu2 : u = many - 13
        · subst hu2; rw [off_same] at hu; cases hu
        · rw [off_other _ hu2] at hu
          unfold fanF at hu
          split at hu
          · injection hu with hu; omega
          · cases hu
    have r2 : Runs (fanOut many (many + 5)) (fanAv many) (many + 5) most 2 (with_ (with_ (fun _ => false) 0) (many - 13)) (upd (off (fanF many many) (many - 13)) (many + 5) 14) [] true 0 := .is 2 _ _ 14 (by omega) hl2 hms
    have r1 : Runs (fanOut many (many + 5)) (fanAv many) (many + 5) most 1 (with_ (fun _ => false) 0) (fanF many many) [many - 13] true 0 :=
      .step 1 _ _ (many - 13) 14 [] true 0 (by omega) hl1 hms hlast (by rw [hout1]) (by rw [hf2]; exact r2)
    have r0 : Finds (fanOut many (many + 5)) (fanAv many) 0 (many + 5) most [0, many - 13] true 0 :=
      .step 0 _ _ 0 0 [many - 13] true 0 (by omega) fan_start (Nat.zero_le _) (by omega) (by rw [hout0]) (by rw [hf1]; exact r1)
    obtain ⟨_, e1, e2⟩ := Runs.det r0 h
    exact ⟨e2.symm, fun _ => hms, fun _ => e1.symm⟩
  · have r1 : Runs (fanOut many (many + 5)) (fanAv many) (many + 5) most 1 (with_ (fun _ => false) 0) (fanF many many) [] false 0 := .far 1 _ _ (many - 13) 14 hl1 (by omega)
    have r0 : Finds (fanOut many (many + 5)) (fanAv many) 0 (many + 5) most [0] false 0 :=
      .step 0 _ _ 0 0 [] false 0 (by omega) fan_start (Nat.zero_le _) (by omega) (by rw [hout0]) (by rw [hf1]; exact r1)
    obtain ⟨_, e1, e2⟩ := Runs.det r0 h
    exact ⟨e2.symm, fun hb => (by rw [← e1] at hb; cases hb), fun hh => absurd hh hms⟩
/-- a fan as a net whose functions only read -/
theorem fan_still (B FB many last : Nat) (hB : FB < B) (h1 : 1 ≤ many) (hm : many ≤ 70000) (hl : last < 4294967296) : StillC B 21 22 (.pointer (some ⟨FB, 0, none⟩)) (fanOut many last) (fanAv many) (FanAt FB many last) where
  enterO := fun args w => run_enter Try.func21 (by kernel_rfl) (by rfl) args w
  enterA := fun args w => run_enter Try.func22 (by kernel_rfl) (by rfl) args w
  ask := fun v w hv hI _ => fan_out FB many last v w hI h1 hm hv hl
  shun := fun v w hv hI => fan_avoid FB many last v w hI hm hv
  stay := fun w w' hI hb => (hb FB hB).trans hI
theorem big_net {B : Nat} {fo fa : FuncId} {p : Value} {out : Nat → List Edg × Int} {av : Nat → Bool} {I : World → Prop} (h : StillC B fo fa p out av I) (hl : ∀ v, (out v).1.length ≤ 70000) : NetC (stillNet B fo fa p out av I) where
  enterO := h.enterO
  enterA := h.enterA
  ask := fun v seen O w hv _ hp hB => by
    obtain ⟨hO, hn⟩ := hp
    have hB' : B ≤ w.heap.size := hB
    refine (h.ask v w hv hn hB).mono fun e w' ⟨A, c, he, ho, hb⟩ => ?_
    refine ⟨A, c, O, he, (own_er ho (by have := hl v; omega)).mono fun b hb => ⟨hb.1, hb.2, hO b⟩, ⟨hO, h.stay _ _ hn fun b hb2 => hb.block b (by omega)⟩, moves_below hb⟩
  shun := fun v seen O w hv hp _ => by
    refine (h.shun v w hv hp.2).mono fun e w' ⟨he, hw⟩ => ?_
    subst hw
    exact ⟨he, Below.refl _ _⟩
  stay := fun seen O w w' hp hb => ⟨hp.1, h.stay _ _ hp.2 fun b hb2 => hb b (.inl hb2)⟩
  lt := fun seen O w hp b hb => absurd hb (hp.1 b)
theorem find_fan (FB many most : Nat) (h1 : 20 ≤ many) (hm : many ≤ 70000) (w : World) (h : FanAt FB many (many + 5) w) :
    Calls Try.prog 13 #[.func (.func 21) #[.pointer (some ⟨FB, 0, none⟩)] #[], .func (.func 22) #[.pointer (some ⟨FB, 0, none⟩)] #[], .int .u32 0, .int .u32 ((many + 5 : Nat) : Int), .int .u64 (most : Int)] w fun e w' =>
      ∃ b, e = .returned (.tuple #[.bool b, .int .i64 0]) ∧ (b = true ↔ 14 ≤ most) ∧ Below w.heap.size w w' := by
  have hlt : FB < w.heap.size := (Array.getElem?_eq_some_iff.1 h).1
  have hs := fan_still w.heap.size FB many (many + 5) hlt (by omega) hm (by omega)
  have := find_any (stillNet w.heap.size 21 22 (.pointer (some ⟨FB, 0, none⟩)) (fanOut many (many + 5)) (fanAv many) (FanAt FB many (many + 5))) (big_net hs fun v => fanOut_len hm) fullFront full_front 0 (many + 5) most 70000 (by omega) (fun v => fanOut_len hm) (by show 1 + 16 * 70000 ≤ 2000000; omega)
    (fun _ => False) w ⟨fun _ h => h, h⟩ (Nat.le_refl _)
  refine this.mono fun e w' ⟨a, b, er, O', k1, k2, k3, k4⟩ => ?_
  obtain ⟨e1, e2⟩ := fan_finds h1 hm k1
  subst e1
  exact ⟨b, k2, e2, k4.low (fun _ h => h.elim) (Nat.le_refl _)⟩
end Go.Proofs.Ytpnmfhcmodoeiaa
