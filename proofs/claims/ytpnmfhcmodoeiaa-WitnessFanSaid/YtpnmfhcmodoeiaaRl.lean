/- The search by a list of whom was come to: a function that can be reckoned, and it is the search. -/
import Derived.Test.YtpnmfhcmodoeiaaSr
namespace Go.Proofs.Ytpnmfhcmodoeiaa

structure Rch where
  v : Nat
  dist : Nat
  done : Bool
def Rch.nil : Rch := ⟨0, 0, true⟩
def rg (l : List Rch) (i : Nat) : Rch := l.getD i Rch.nil
theorem rg_eq {l : List Rch} {i : Nat} (h : i < l.length) : rg l i = l[i] := by unfold rg; rw [List.getD_eq_getElem?_getD, List.getElem?_eq_getElem h]; rfl
/-- is the one at i ahead of the best so far? -/
def ahead (l : List Rch) (i : Nat) : Option Nat → Bool
  | none => true
  | some k => decide ((rg l i).dist < (rg l k).dist) || (decide ((rg l i).dist = (rg l k).dist) && decide ((rg l i).v < (rg l k).v))
/-- the place of the least one that is not settled, among the first i -/
def nextTo (l : List Rch) : Nat → Option Nat
  | 0 => none
  | i + 1 => if (!(rg l i).done && ahead l i (nextTo l i)) = true then some i else nextTo l i
def whereIs (l : List Rch) (v : Nat) : Nat → Option Nat
  | 0 => none
  | i + 1 => match whereIs l v i with
    | some k => some k
    | none => if (rg l i).v = v then some i else none
/-- a vertex is come to -/
def comeL (l : List Rch) (v d : Nat) : List Rch :=
  match whereIs l v l.length with
  | none => l ++ [⟨v, d, false⟩]
  | some i => if (rg l i).done = false ∧ d < (rg l i).dist then l.set i ⟨(rg l i).v, d, (rg l i).done⟩ else l
def relaxL1 (av : Nat → Bool) (d : Nat) (l : List Rch) (x : Edg) : List Rch := if (fitsB d x.weight && !av x.head) = true then comeL l x.head (d + x.weight) else l
def relaxL (av : Nat → Bool) (d : Nat) (L : List Edg) (l : List Rch) : List Rch := L.foldl (relaxL1 av d) l
def mark (l : List Rch) (i : Nat) : List Rch := l.set i ⟨(rg l i).v, (rg l i).dist, true⟩
def runL (out : Nat → List Edg × Int) (av : Nat → Bool) (to most : Nat) : Nat → List Rch → List Nat × Bool × Int
  | 0, _ => ([], false, 0)
  | n + 1, l => match nextTo l l.length with
    | none => ([], false, 0)
    | some i =>
      if most < (rg l i).dist then ([], false, 0)
      else if (rg l i).v = to then ([], true, 0)
      else if (out (rg l i).v).2 ≠ 0 then ([(rg l i).v], false, (out (rg l i).v).2)
      else
        let r := runL out av to most n (relaxL av (rg l i).dist (out (rg l i).v).1 (mark l i))
        ((rg l i).v :: r.1, r.2.1, r.2.2)
/-- the list stands for who is settled and who waits -/
structure Rep (l : List Rch) (S : Nat → Bool) (f : Nat → Option Nat) : Prop where
  one : ∀ i j, i < l.length → j < l.length → (rg l i).v = (rg l j).v → i = j
  wait : ∀ i, i < l.length → (rg l i).done = false → f (rg l i).v = some (rg l i).dist ∧ S (rg l i).v = false
  done : ∀ i, i < l.length → (rg l i).done = true → f (rg l i).v = none ∧ S (rg l i).v = true
  away : ∀ v, (∀ i, i < l.length → (rg l i).v ≠ v) → f v = none ∧ S v = false
section
variable {l : List Rch} {S : Nat → Bool} {f : Nat → Option Nat} {v d i k : Nat}
theorem rg_set (h : i < l.length) (x : Rch) (k : Nat) : rg (l.set i x) k = if k = i then x else rg l k := by
  by_cases hk : k < l.length
  · rw [rg_eq (by simpa using hk), List.getElem_set, rg_eq hk]
    by_cases e : k = i
    · rw [if_pos e, if_pos e.symm]
    · rw [if_neg e, if_neg (Ne.symm e)]
  · unfold rg
    rw [if_neg (by omega), List.getD_eq_getElem?_getD, List.getD_eq_getElem?_getD, List.getElem?_eq_none (by simpa using hk), List.getElem?_eq_none (by simpa using hk)]
theorem rg_app (x : Rch) (k : Nat) : rg (l ++ [x]) k = if k < l.length then rg l k else if k = l.length then x else Rch.nil := by
  unfold rg
  by_cases hk : k < l.length
  · rw [if_pos hk, List.getD_eq_getElem?_getD, List.getD_eq_getElem?_getD, List.getElem?_append_left hk]
  · rw [if_neg hk]
    by_cases e : k = l.length
    · subst e; rw [if_pos rfl]; simp
    · rw [if_neg e, List.getD_eq_getElem?_getD, List.getElem?_eq_none (by simp; omega)]; rfl
theorem whereIs_some : ∀ n {i}, whereIs l v n = some i → i < n ∧ (rg l i).v = v
  | 0, i, h => by cases h
  | n + 1, i, h => by
    unfold whereIs at h
    cases hw : whereIs l v n with
    | some k =>
      rw [hw] at h
      injection h with h
      subst h
      have := whereIs_some n hw
      exact ⟨by omega, this.2⟩
    | none =>
      rw [hw] at h
      simp only at h
      split at h
      · rename_i e; injection h with h; subst h; exact ⟨by omega, e⟩
      · cases h
theorem whereIs_none : ∀ n, whereIs l v n = none → ∀ i, i < n → (rg l i).v ≠ v
  | 0, _, i, hi => by omega
  | n + 1, h, i, hi => by
    unfold whereIs at h
    cases hw : whereIs l v n with
    | some k => rw [hw] at h; cases h
    | none =>
      rw [hw] at h
      simp only at h
      split at h
      · cases h
      · rename_i e
        by_cases hin : i = n
        · subst hin; exact e
        · exact whereIs_none n hw i (by omega)
theorem Rep.start (v : Nat) : Rep [⟨v, 0, false⟩] (fun _ => false) (start v) := by
  refine ⟨fun i j hi hj _ => ?_, fun i hi _ => ?_, fun i hi h => ?_, fun u h => ?_⟩
  · simp at hi hj; omega
  · simp at hi; subst hi; exact ⟨upd_same _ _ _, rfl⟩
  · simp at hi; subst hi; cases h
  · exact ⟨upd_other _ _ (Ne.symm (h 0 (by simp))), rfl⟩
theorem Rep.mark (h : Rep l S f) (hi : i < l.length) : Rep (mark l i) (with_ S (rg l i).v) (off f (rg l i).v) := by
  have hv : ∀ k, (rg (Go.Proofs.Ytpnmfhcmodoeiaa.mark l i) k).v = (rg l k).v := fun k => by
    unfold Go.Proofs.Ytpnmfhcmodoeiaa.mark; rw [rg_set hi]; split
    · rename_i e; rw [e]
    · rfl
  have hl : (Go.Proofs.Ytpnmfhcmodoeiaa.mark l i).length = l.length := by unfold Go.Proofs.Ytpnmfhcmodoeiaa.mark; simp
  refine ⟨fun a b ha hb hab => ?_, fun a ha hd => ?_, fun a ha hd => ?_, fun u hu => ?_⟩
  · rw [hl] at ha hb; rw [hv, hv] at hab; exact h.one a b ha hb hab
  · rw [hl] at ha
    rw [hv]
    by_cases e : a = i
    · subst e
      unfold Go.Proofs.Ytpnmfhcmodoeiaa.mark at hd
      rw [rg_set hi, if_pos rfl] at hd
      cases hd
    · have hne : (rg l a).v ≠ (rg l i).v := fun h2 => e (h.one a i ha hi h2)
      unfold Go.Proofs.Ytpnmfhcmodoeiaa.mark at hd ⊢
      rw [rg_set hi, if_neg e] at hd ⊢
      rw [off_other _ hne, with_other _ hne]
      exact h.wait a ha hd
  · rw [hl] at ha
    rw [hv]
    by_cases e : a = i
    · subst e; exact ⟨off_same _ _, with_same _ _⟩
    · have hne : (rg l a).v ≠ (rg l i).v := fun h2 => e (h.one a i ha hi h2)
      unfold Go.Proofs.Ytpnmfhcmodoeiaa.mark at hd
      rw [rg_set hi, if_neg e] at hd
      rw [off_other _ hne, with_other _ hne]
      exact h.done a ha hd
  · have hne : ∀ k, k < l.length → (rg l k).v ≠ u := fun k hk => by have := hu k (by rw [hl]; exact hk); rwa [hv] at this
    rw [off_other _ (Ne.symm (hne i hi)), with_other _ (Ne.symm (hne i hi))]
    exact h.away u hne
theorem Rep.come (h : Rep l S f) (v d : Nat) : Rep (comeL l v d) S (if S v = true then f else comeF f v d) := by
  unfold comeL
  cases hw : whereIs l v l.length with
  | none =>
    have hno := whereIs_none _ hw
    have hn := h.away v hno
    rw [hn.2, if_neg Bool.false_ne_true, comeF_new hn.1]
    refine ⟨fun a b ha hb hab => ?_, fun a ha hd => ?_, fun a ha hd => ?_, fun u hu => ?_⟩
    · simp only [List.length_append, List.length_cons, List.length_nil] at ha hb
      rw [rg_app, rg_app] at hab
      by_cases h1 : a < l.length
      · rw [if_pos h1] at hab
        by_cases h2 : b < l.length
        · rw [if_pos h2] at hab; exact h.one a b h1 h2 hab
        · rw [if_neg h2, if_pos (by omega)] at hab
          exact absurd hab (hno a h1)
      · rw [if_neg h1, if_pos (by omega)] at hab
        by_cases h2 : b < l.length
        · rw [if_pos h2] at hab
          exact absurd hab.symm (hno b h2)
        · omega
    · simp only [List.length_append, List.length_cons, List.length_nil] at ha
      rw [rg_app] at hd ⊢
      by_cases h1 : a < l.length
      · rw [if_pos h1] at hd ⊢
        have := h.wait a h1 hd
        exact ⟨by rw [upd_other _ _ (hno a h1)]; exact this.1, this.2⟩
      · rw [if_neg h1, if_pos (by omega)] at hd ⊢
        exact ⟨upd_same _ _ _, hn.2⟩
    · simp only [List.length_append, List.length_cons, List.length_nil] at ha
      rw [rg_app] at hd ⊢
      by_cases h1 : a < l.length
      · rw [if_pos h1] at hd ⊢
        have := h.done a h1 hd
        exact ⟨by rw [upd_other _ _ (hno a h1)]; exact this.1, this.2⟩
      · rw [if_neg h1, if_pos (by omega)] at hd
        cases hd
    · have h1 : ∀ i, i < l.length → (rg l i).v ≠ u := fun i hi => by
        have := hu i (by simp; omega)
        rwa [rg_app, if_pos hi] at this
      have h2 : u ≠ v := fun e => by
        have := hu l.length (by simp)
        rw [rg_app, if_neg (by omega), if_pos rfl] at this
        exact this e.symm
      rw [upd_other _ _ h2]
      exact h.away u h1
  | some i =>
    obtain ⟨hi, hv⟩ := whereIs_some _ hw
    subst hv
    cases hd : (rg l i).done with
    | true =>
      have := h.done i hi hd
      rw [this.2, if_pos rfl]
      simp only
      rw [hd, if_neg (by simp)]
      exact h
    | false =>
      obtain ⟨hf, hS⟩ := h.wait i hi hd
      rw [hS, if_neg Bool.false_ne_true]
      simp only
      by_cases hlt : d < (rg l i).dist
      · rw [hd, if_pos ⟨rfl, hlt⟩, comeF_near hf hlt]
        have hv : ∀ k, (rg (l.set i ⟨(rg l i).v, d, false⟩) k).v = (rg l k).v := fun k => by
          rw [rg_set hi]; split
          · rename_i e; rw [e]
          · rfl
        refine ⟨fun a b ha hb hab => ?_, fun a ha hd2 => ?_, fun a ha hd2 => ?_, fun u hu => ?_⟩
        · rw [hv, hv] at hab; exact h.one a b (by simpa using ha) (by simpa using hb) hab
        · have ha : a < l.length := by simpa using ha
          rw [hv]
          by_cases e : a = i
          · subst e; rw [rg_set hi, if_pos rfl]; exact ⟨upd_same _ _ _, hS⟩
          · rw [rg_set hi, if_neg e] at hd2 ⊢
            have hne : (rg l a).v ≠ (rg l i).v := fun h2 => e (h.one a i ha hi h2)
            have := h.wait a ha hd2
            exact ⟨by rw [upd_other _ _ hne]; exact this.1, this.2⟩
        · have ha : a < l.length := by simpa using ha
          rw [hv]
          by_cases e : a = i
          · subst e; rw [rg_set hi, if_pos rfl] at hd2; cases hd2
          · rw [rg_set hi, if_neg e] at hd2
            have hne : (rg l a).v ≠ (rg l i).v := fun h2 => e (h.one a i ha hi h2)
            have := h.done a ha hd2
            exact ⟨by rw [upd_other _ _ hne]; exact this.1, this.2⟩
        · have h1 : ∀ k, k < l.length → (rg l k).v ≠ u := fun k hk => by
            have := hu k (by simpa using hk); rwa [hv] at this
          rw [upd_other _ _ (Ne.symm (h1 i hi))]
          exact h.away u h1
      · rw [hd, if_neg (fun e => hlt e.2), comeF_old hf (by omega)]
        exact h
theorem Rep.relax1 {av : Nat → Bool} (h : Rep l S f) (x : Edg) : Rep (relaxL1 av d l x) S (relax1 S av d f x) := by
  unfold relaxL1 Go.Proofs.Ytpnmfhcmodoeiaa.relax1 goes
  cases h1 : fitsB d x.weight with
  | false => simpa using h
  | true =>
    cases h2 : av x.head with
    | true => simpa using h
    | false =>
      have h3 := h.come x.head (d + x.weight)
      cases h4 : S x.head with
      | true => rw [h4, if_pos rfl] at h3; simpa using h3
      | false => rw [h4, if_neg Bool.false_ne_true] at h3; simpa using h3
theorem Rep.relax {av : Nat → Bool} (L : List Edg) : ∀ {l f}, Rep l S f → Rep (relaxL av d L l) S (relax S av d L f) := by
  induction L with
  | nil => intro l f h; exact h
  | cons x L ih => intro l f h; exact ih (h.relax1 x)
theorem nextTo_none : ∀ n, nextTo l n = none → ∀ i, i < n → (rg l i).done = true
  | 0, _, i, hi => by omega
  | n + 1, h, i, hi => by
    unfold nextTo at h
    split at h
    · cases h
    · rename_i hc
      rw [h] at hc
      by_cases hin : i = n
      · subst hin; simpa [ahead] using hc
      · exact nextTo_none n h i (by omega)
/-- one is not behind another one -/
def notBehind (a b : Rch) : Prop := a.dist < b.dist ∨ a.dist = b.dist ∧ a.v ≤ b.v
theorem nextTo_some : ∀ n {k}, nextTo l n = some k → k < n ∧ (rg l k).done = false ∧ ∀ i, i < n → (rg l i).done = false → notBehind (rg l k) (rg l i)
  | 0, k, h => by cases h
  | n + 1, k, h => by
    unfold nextTo at h
    split at h
    · rename_i hc
      injection h with h
      subst h
      rw [Bool.and_eq_true, Bool.not_eq_true'] at hc
      refine ⟨by omega, hc.1, fun i hi hd => ?_⟩
      by_cases hin : i = n
      · subst hin; exact .inr ⟨rfl, Nat.le_refl _⟩
      · cases hn : nextTo l n with
        | none => have := nextTo_none n hn i (by omega); rw [this] at hd; cases hd
        | some k =>
          obtain ⟨_, _, h3⟩ := nextTo_some n hn
          have h4 := h3 i (by omega) hd
          have h5 := hc.2
          rw [hn] at h5
          unfold notBehind at *
          simp [ahead] at h5
          omega
    · rename_i hc
      obtain ⟨h1, h2, h3⟩ := nextTo_some n h
      refine ⟨by omega, h2, fun i hi hd => ?_⟩
      by_cases hin : i = n
      · subst hin
        rw [h] at hc
        unfold notBehind
        simp [ahead, hd] at hc
        omega
      · exact h3 i (by omega) hd
theorem Rep.least (h : Rep l S f) (hk : nextTo l l.length = some k) : k < l.length ∧ IsLeast f (rg l k).v (rg l k).dist := by
  obtain ⟨h1, h2, h3⟩ := nextTo_some _ hk
  refine ⟨h1, (h.wait k h1 h2).1, fun u e hu => ?_⟩
  by_cases hx : ∃ i, i < l.length ∧ (rg l i).v = u
  · obtain ⟨i, hi, rfl⟩ := hx
    cases hd : (rg l i).done with
    | true => rw [(h.done i hi hd).1] at hu; cases hu
    | false =>
      rw [(h.wait i hi hd).1] at hu
      injection hu with hu
      subst hu
      exact h3 i hi hd
  · rw [(h.away u fun i hi e => hx ⟨i, hi, e⟩).1] at hu; cases hu
theorem Rep.empty (h : Rep l S f) (hk : nextTo l l.length = none) (u : Nat) : f u = none := by
  by_cases hx : ∃ i, i < l.length ∧ (rg l i).v = u
  · obtain ⟨i, hi, rfl⟩ := hx
    exact (h.done i hi (nextTo_none _ hk i hi)).1
  · exact (h.away u fun i hi e => hx ⟨i, hi, e⟩).1
end
/-- what is reckoned by the list is what the search answers -/
theorem runL_runs (out : Nat → List Edg × Int) (av : Nat → Bool) (to most : Nat) : ∀ (n k : Nat) (l : List Rch) (S : Nat → Bool) (f : Nat → Option Nat), k + n = 16 → Rep l S f →
    Runs out av to most k S f (runL out av to most n l).1 (runL out av to most n l).2.1 (runL out av to most n l).2.2
  | 0, k, l, S, f, hk, _ => by
    have : k = 16 := by omega
    subst this
    exact .full S f
  | n + 1, k, l, S, f, hk, h => by
    unfold runL
    cases hn : nextTo l l.length with
    | none => exact .none k S f (h.empty hn)
    | some i =>
      obtain ⟨hi, hl⟩ := h.least hn
      simp only
      by_cases h1 : most < (rg l i).dist
      · rw [if_pos h1]; exact .far k S f _ _ hl h1
      · rw [if_neg h1]
        by_cases h2 : (rg l i).v = to
        · rw [if_pos h2]; subst h2; exact .is k S f _ (by omega) hl (by omega)
        · rw [if_neg h2]
          by_cases h3 : (out (rg l i).v).2 = 0
          · rw [if_neg (fun e => e h3)]
            exact .step k S f _ _ _ _ _ (by omega) hl (by omega) h2 h3 (runL_runs out av to most n (k + 1) _ _ _ (by omega) ((h.mark hi).relax _))
          · rw [if_pos h3]
            exact .err k S f _ _ (by omega) hl (by omega) h2 h3
/-- the search is what is reckoned -/
theorem finds_runL {out : Nat → List Edg × Int} {av : Nat → Bool} {src to most : Nat} {a : List Nat} {b : Bool} {e : Int} (h : Finds out av src to most a b e) :
    a = (runL out av to most 16 [⟨src, 0, false⟩]).1 ∧ b = (runL out av to most 16 [⟨src, 0, false⟩]).2.1 ∧ e = (runL out av to most 16 [⟨src, 0, false⟩]).2.2 :=
  Runs.det h (runL_runs out av to most 16 0 _ _ _ rfl (Rep.start src))
end Go.Proofs.Ytpnmfhcmodoeiaa
