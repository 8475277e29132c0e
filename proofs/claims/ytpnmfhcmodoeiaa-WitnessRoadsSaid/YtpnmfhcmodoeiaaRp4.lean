/- Roads in plain words: what a search along one comes to. -/
import Derived.Test.YtpnmfhcmodoeiaaRd
namespace Go.Proofs.Ytpnmfhcmodoeiaa

/-- how far the vertex at a place is; none: too far, or there is none -/
def farV (Ws : List W64) : Nat → Option Nat
  | 0 => some 0
  | i + 1 => match farV Ws i with
    | none => none
    | some d => if h : i < Ws.length then (if d + (Ws[i]'h).1 < 9223372036854775808 then some (d + (Ws[i]'h).1) else none) else none
section
variable {Ws : List W64} {bad avoid to most : Nat}
theorem farV_none {i : Nat} (h : farV Ws i = none) : ∀ j, i ≤ j → farV Ws j = none := by
  intro j hj
  induction j with
  | zero => have : i = 0 := by omega
            subst this; exact h
  | succ j ih =>
    by_cases e : i = j + 1
    · subst e; exact h
    · unfold farV; rw [ih (by omega)]
theorem farV_on {i d : Nat} (h : farV Ws i = some d) (hi : i < Ws.length) (hd : d + (Ws[i]).1 < 9223372036854775808) : farV Ws (i + 1) = some (d + (Ws[i]).1) := by
  unfold farV; rw [h]; simp only; rw [dif_pos hi, if_pos hd]
theorem farV_far {i d : Nat} (h : farV Ws i = some d) (hi : i < Ws.length) (hd : ¬ d + (Ws[i]).1 < 9223372036854775808) : farV Ws (i + 1) = none := by
  unfold farV; rw [h]; simp only; rw [dif_pos hi, if_neg hd]
theorem farV_end {i : Nat} (hi : Ws.length ≤ i) : farV Ws (i + 1) = none := by
  unfold farV
  cases farV Ws i with
  | none => rfl
  | some d => simp only; rw [dif_neg (by omega)]
theorem farV_short : ∀ {i d : Nat}, farV Ws i = some d → i ≤ Ws.length
  | 0, _, _ => Nat.zero_le _
  | i + 1, d, h => by
    rcases Nat.lt_or_ge i Ws.length with h1 | h1
    · omega
    · rw [farV_end h1] at h; cases h
/-- what a search comes to, that has come to a place -/
def roadV (Ws : List W64) (bad avoid to most : Nat) : Nat → Nat → Bool × Int
  | 0, _ => (false, 0)
  | n + 1, i => match farV Ws i with
    | none => (false, 0)
    | some d => if most < d ∨ (0 < i ∧ i = avoid) then (false, 0) else if i = to then (true, 0) else if i = bad then (false, 7) else roadV Ws bad avoid to most n (i + 1)
theorem roadV_none (n : Nat) {i : Nat} (h : farV Ws i = none) : roadV Ws bad avoid to most n i = (false, 0) := by
  cases n with
  | zero => rfl
  | succ n => unfold roadV; rw [h]
theorem roadV_no (n : Nat) {i d : Nat} (h : farV Ws i = some d) (h2 : most < d ∨ (0 < i ∧ i = avoid)) : roadV Ws bad avoid to most n i = (false, 0) := by
  cases n with
  | zero => rfl
  | succ n => unfold roadV; rw [h]; simp only; rw [if_pos h2]
theorem roadV_is (n : Nat) {i d : Nat} (h : farV Ws i = some d) (h2 : ¬ (most < d ∨ (0 < i ∧ i = avoid))) (h3 : i = to) : roadV Ws bad avoid to most (n + 1) i = (true, 0) := by
  unfold roadV; rw [h]; simp only; rw [if_neg h2, if_pos h3]
theorem roadV_bad (n : Nat) {i d : Nat} (h : farV Ws i = some d) (h2 : ¬ (most < d ∨ (0 < i ∧ i = avoid))) (h3 : i ≠ to) (h4 : i = bad) : roadV Ws bad avoid to most (n + 1) i = (false, 7) := by
  unfold roadV; rw [h]; simp only; rw [if_neg h2, if_neg h3, if_pos h4]
theorem roadV_on (n : Nat) {i d : Nat} (h : farV Ws i = some d) (h2 : ¬ (most < d ∨ (0 < i ∧ i = avoid))) (h3 : i ≠ to) (h4 : i ≠ bad) : roadV Ws bad avoid to most (n + 1) i = roadV Ws bad avoid to most n (i + 1) := by
  conv => lhs; unfold roadV
  rw [h]; simp only; rw [if_neg h2, if_neg h3, if_neg h4]
/-- one vertex waits -/
def lone (i d : Nat) : Nat → Option Nat := upd (fun _ => none) i d
theorem lone_least (i d : Nat) : IsLeast (lone i d) i d := ⟨upd_same _ _ _, fun u e h => by
  unfold lone at h
  by_cases hu : u = i
  · subst hu; rw [upd_same] at h; injection h with h; omega
  · rw [upd_other _ _ hu] at h; cases h⟩
theorem lone_off (i d : Nat) : off (lone i d) i = fun _ => none := by
  funext u
  by_cases hu : u = i
  · subst hu; exact off_same _ _
  · rw [off_other _ hu]; exact upd_other _ _ hu
theorem road_runs : ∀ (n i d : Nat) (S : Nat → Bool), i + n = 16 → farV Ws i = some d → ¬ (0 < i ∧ i = avoid) → (∀ u, S u = true → u < i) →
    ∃ a, Runs (roadOut Ws bad) (fun v => v == avoid) to most i S (lone i d) a (roadV Ws bad avoid to most n i).1 (roadV Ws bad avoid to most n i).2
  | 0, i, d, S, hn, _, _, _ => by
    have : i = 16 := by omega
    subst this
    exact ⟨[], .full S _⟩
  | n + 1, i, d, S, hn, hd, hav, hS => by
    have hl := lone_least i d
    by_cases h1 : most < d
    · rw [roadV_no _ hd (.inl h1)]
      exact ⟨[], .far i S _ i d hl h1⟩
    · have h1' : ¬ (most < d ∨ (0 < i ∧ i = avoid)) := fun e => e.elim h1 hav
      by_cases h2 : i = to
      · rw [roadV_is n hd h1' h2]
        subst h2
        exact ⟨[], .is i S _ d (by omega) hl (by omega)⟩
      · by_cases h3 : i = bad
        · rw [roadV_bad n hd h1' h2 h3]
          have := Runs.err (out := roadOut Ws bad) (av := fun v => v == avoid) (to := to) (most := most) i S _ i d (by omega) hl (by omega) h2 (by rw [roadOut_bad h3]; decide)
          rw [roadOut_bad h3] at this
          exact ⟨_, this⟩
        · rw [roadV_on n hd h1' h2 h3]
          have hS' : ∀ u, with_ S i u = true → u < i + 1 := fun u hu => by
            by_cases e : u = i
            · omega
            · rw [with_other _ e] at hu; have := hS u hu; omega
          have hnone : (∀ a b e, Runs (roadOut Ws bad) (fun v => v == avoid) to most (i + 1) (with_ S i) (relax (with_ S i) (fun v => v == avoid) d (roadOut Ws bad i).1 (off (lone i d) i)) a b e →
              Runs (roadOut Ws bad) (fun v => v == avoid) to most i S (lone i d) (i :: a) b e) := fun a b e h =>
            .step i S _ i d a b e (by omega) hl (by omega) h2 (by
              unfold roadOut; rw [if_neg h3]; split <;> rfl) h
          by_cases h4 : i < Ws.length
          · have hu : i < Ws.length ∧ i < 4294967295 := ⟨h4, by omega⟩
            rw [roadOut_on h3 hu, lone_off] at hnone
            have hSi : with_ S i (i + 1) = false := by
              cases hs : with_ S i (i + 1) with
              | false => rfl
              | true => have := hS' _ hs; omega
            have hrel : relax (with_ S i) (fun v => v == avoid) d [roadE Ws i hu] (fun _ => none) = if d + (Ws[i]).1 < 9223372036854775808 ∧ i + 1 ≠ avoid then lone (i + 1) (d + (Ws[i]).1) else fun _ => none := by
              show relax1 _ _ _ _ _ = _
              unfold relax1 goes roadE
              simp only [hSi]
              by_cases q1 : d + (Ws[i]).1 < 9223372036854775808
              · by_cases q2 : i + 1 = avoid
                · rw [if_neg (by simp [q2]), if_neg (fun e => e.2 q2)]
                · rw [if_pos (by simp [fitsB_mk q1, q2]), if_pos ⟨q1, q2⟩]
                  exact comeF_new rfl
              · rw [if_neg (by simp [fitsB_mk' (Nat.not_lt.1 q1)]), if_neg (fun e => q1 e.1)]
            rw [hrel] at hnone
            by_cases q1 : d + (Ws[i]).1 < 9223372036854775808
            · by_cases q2 : i + 1 = avoid
              · rw [if_neg (fun e => e.2 q2)] at hnone
                rw [roadV_no n (farV_on hd h4 q1) (.inr ⟨by omega, q2⟩)]
                exact ⟨_, hnone _ _ _ (.none _ _ _ fun _ => rfl)⟩
              · rw [if_pos ⟨q1, q2⟩] at hnone
                obtain ⟨a, ha⟩ := road_runs n (i + 1) (d + (Ws[i]).1) (with_ S i) (by omega) (farV_on hd h4 q1) (fun e => q2 e.2) hS'
                exact ⟨_, hnone _ _ _ ha⟩
            · rw [if_neg (fun e => q1 e.1)] at hnone
              rw [roadV_none n (farV_far hd h4 q1)]
              exact ⟨_, hnone _ _ _ (.none _ _ _ fun _ => rfl)⟩
          · rw [roadOut_end h3 (by omega), lone_off] at hnone
            rw [roadV_none n (farV_end (by omega))]
            exact ⟨_, hnone _ _ _ (.none _ _ _ fun _ => rfl)⟩
theorem road_finds {a : List Nat} {b : Bool} {e : Int} (h : Finds (roadOut Ws bad) (fun v => v == avoid) 0 to most a b e) : (b, e) = roadV Ws bad avoid to most 16 0 := by
  obtain ⟨a', h'⟩ := road_runs (Ws := Ws) (bad := bad) (avoid := avoid) (to := to) (most := most) 16 0 0 (fun _ => false) rfl rfl (fun e => by omega) (fun u hu => by cases hu)
  obtain ⟨_, h2, h3⟩ := Runs.det h h'
  rw [h2, h3]
end
end Go.Proofs.Ytpnmfhcmodoeiaa
