/- Heaps in plain words: items, their order, rising and sinking. -/
import Derived.WalkKit
import Derived.Test.YtpnmfhcmodoeiaaRows
namespace Go.Proofs.Ytpnmfhcmodoeiaa

structure Itm where
  key : Nat
  id : Nat
  hkey : key < 18446744073709551616
  hid : id < 4294967296
theorem Itm.ext_ {a b : Itm} (h1 : a.key = b.key) (h2 : a.id = b.id) : a = b := by cases a; cases b; simp only at h1 h2; subst h1 h2; rfl
instance : DecidableEq Itm := fun a b =>
  if h : a.key = b.key ∧ a.id = b.id then .isTrue (Itm.ext_ h.1 h.2) else .isFalse (fun e => h (by subst e; exact ⟨rfl, rfl⟩))
def Itm.nil : Itm := ⟨0, 0, by omega, by omega⟩
/-- where an item stands in the order -/
def Itm.r (a : Itm) : Nat := a.key * 4294967296 + a.id
theorem Itm.r_inj {a b : Itm} (h : a.r = b.r) : a = b := by
  have := a.hid; have := b.hid
  unfold Itm.r at h
  exact Itm.ext_ (by omega) (by omega)
/-- is an item ahead? -/
def ltB (a b : Itm) : Bool := decide (a.key < b.key ∨ a.key = b.key ∧ a.id < b.id)
theorem ltB_eq (a b : Itm) : ltB a b = decide (a.r < b.r) := by
  have := a.hid; have := b.hid
  unfold ltB Itm.r
  rw [Bool.eq_iff_iff, decide_eq_true_iff, decide_eq_true_iff]
  omega

def gt (l : List Itm) (i : Nat) : Itm := l.getD i Itm.nil
theorem gt_eq {l : List Itm} {i : Nat} (h : i < l.length) : gt l i = l[i] := by unfold gt; rw [List.getD_eq_getElem?_getD, List.getElem?_eq_getElem h]; rfl
def swq (l : List Itm) (i j : Nat) : List Itm := (l.set i (gt l j)).set j (gt l i)
theorem swq_length (l : List Itm) (i j : Nat) : (swq l i j).length = l.length := by simp [swq]
theorem gt_swq (l : List Itm) {i j k : Nat} (hk : k < l.length) : gt (swq l i j) k = if k = j then gt l i else if k = i then gt l j else gt l k := by
  have hk2 : k < (swq l i j).length := by rw [swq_length]; exact hk
  have e : (swq l i j)[k] = if j = k then gt l i else if i = k then gt l j else l[k] := by
    simp only [swq, List.getElem_set]
  rw [gt_eq hk2, e]
  by_cases h1 : k = j
  · rw [if_pos h1, if_pos h1.symm]
  · rw [if_neg h1, if_neg (Ne.symm h1)]
    by_cases h2 : k = i
    · rw [if_pos h2, if_pos h2.symm]
    · rw [if_neg h2, if_neg (Ne.symm h2), gt_eq hk]
theorem swq_perm (l : List Itm) {i j : Nat} (hi : i < l.length) (hj : j < l.length) : (swq l i j).Perm l := by
  rw [List.perm_iff_count]
  intro x
  unfold swq
  rw [List.count_set (by simpa using hj), List.count_set hi, List.getElem_set, gt_eq hi, gt_eq hj]
  have h1 : 0 < l.count l[i] := List.count_pos_iff.2 (List.getElem_mem hi)
  have h2 : 0 < l.count l[j] := List.count_pos_iff.2 (List.getElem_mem hj)
  by_cases hij : i = j
  · subst hij
    simp only [if_true]
    by_cases hx : l[i] = x
    · subst hx; simp <;> omega
    · simp [hx]
  · rw [if_neg hij]
    by_cases hx : l[i] = x
    · subst hx
      by_cases hy : l[j] = l[i]
      · rw [hy]; simp <;> omega
      · simp [hy] <;> omega
    · by_cases hy : l[j] = x
      · subst hy; simp [hx] <;> omega
      · simp [hx, hy]

def par (j : Nat) : Nat := (j - 1) / 2
def vv (l : List Itm) (j : Nat) : Nat := (gt l j).r
theorem vv_swq (l : List Itm) {i j k : Nat} (_hi : i < l.length) (_hj : j < l.length) (hk : k < l.length) : vv (swq l i j) k = if k = j then vv l i else if k = i then vv l j else vv l k := by
  unfold vv
  rw [gt_swq l hk]
  split
  · rfl
  · split <;> rfl
/-- none is ahead of the one above it -/
def IsHeap (l : List Itm) : Prop := ∀ j, 0 < j → j < l.length → vv l (par j) ≤ vv l j
theorem IsHeap.nil : IsHeap [] := fun j _ h => by simp at h
theorem IsHeap.root {l : List Itm} (h : IsHeap l) : ∀ j, j < l.length → vv l 0 ≤ vv l j := by
  intro j
  induction j using Nat.strongRecOn with
  | _ j ih =>
    intro hj
    rcases Nat.eq_zero_or_pos j with rfl | h0
    · exact Nat.le_refl _
    · exact Nat.le_trans (ih (par j) (by unfold par; omega) (by unfold par; omega)) (h j h0 hj)

/-- the item at a place rises -/
def upF : Nat → List Itm → Nat → List Itm
  | 0, l, _ => l
  | f + 1, l, i => if i = 0 then l else if ltB (gt l i) (gt l (par i)) = true then upF f (swq l i (par i)) (par i) else l
/-- all is right but the one at a place, which may be ahead of those above it -/
def HeapUp (l : List Itm) (i : Nat) : Prop := (∀ j, 0 < j → j < l.length → j ≠ i → vv l (par j) ≤ vv l j) ∧ (0 < i → ∀ c, 0 < c → c < l.length → par c = i → vv l (par i) ≤ vv l c)
theorem up_step {l : List Itm} {i : Nat} (hi : i < l.length) (h0 : 0 < i) (h : HeapUp l i) (hl : vv l i < vv l (par i)) : HeapUp (swq l i (par i)) (par i) := by
  have hp : par i < i := by unfold par; omega
  have hpl : par i < l.length := by omega
  refine ⟨fun j j0 hj hne => ?_, fun p0 c c0 hc hcp => ?_⟩
  · rw [swq_length] at hj
    have hpj : par j < l.length := by unfold par; omega
    rw [vv_swq l hi hpl hj, vv_swq l hi hpl hpj, if_neg hne]
    by_cases hji : j = i
    · subst hji
      rw [if_pos rfl, if_pos rfl]; omega
    · rw [if_neg hji]
      by_cases h2 : par j = par i
      · rw [if_pos h2]
        have := h.1 j j0 hj hji
        rw [h2] at this
        omega
      · rw [if_neg h2]
        by_cases h3 : par j = i
        · rw [if_pos h3]
          exact h.2 h0 j j0 hj h3
        · rw [if_neg h3]
          exact h.1 j j0 hj hji
  · rw [swq_length] at hc
    have hpp : par (par i) < l.length := by unfold par at *; omega
    have e1 : par (par i) ≠ par i := by unfold par at *; omega
    have e2 : par (par i) ≠ i := by unfold par at *; omega
    have hcn : c ≠ par i := by unfold par at *; omega
    rw [vv_swq l hi hpl hpp, vv_swq l hi hpl hc, if_neg e1, if_neg e2, if_neg hcn]
    have h4 := h.1 (par i) p0 hpl (by omega)
    by_cases hci : c = i
    · rw [if_pos hci]; exact h4
    · rw [if_neg hci]
      have := h.1 c c0 hc hci
      rw [hcp] at this
      omega
theorem up_heap : ∀ (f : Nat) (l : List Itm) (i : Nat), i ≤ f → i < l.length → HeapUp l i → IsHeap (upF f l i) ∧ (upF f l i).Perm l
  | 0, l, i, hf, hi, h => by
    have : i = 0 := by omega
    subst this
    exact ⟨fun j j0 hj => h.1 j j0 hj (by omega), List.Perm.refl _⟩
  | f + 1, l, i, hf, hi, h => by
    unfold upF
    by_cases h0 : i = 0
    · rw [if_pos h0]
      exact ⟨fun j j0 hj => h.1 j j0 hj (by omega), List.Perm.refl _⟩
    · rw [if_neg h0, ltB_eq]
      by_cases hl : vv l i < vv l (par i)
      · have hpi : par i < i := by unfold par; omega
        rw [if_pos (by simpa [vv] using hl)]
        obtain ⟨h1, h2⟩ := up_heap f (swq l i (par i)) (par i) (by omega) (by rw [swq_length]; omega) (up_step hi (by omega) h hl)
        exact ⟨h1, h2.trans (swq_perm l hi (by omega))⟩
      · rw [if_neg (by simpa [vv] using hl)]
        refine ⟨fun j j0 hj => ?_, List.Perm.refl _⟩
        by_cases hj2 : j = i
        · subst hj2; omega
        · exact h.1 j j0 hj hj2
/-- an item more -/
theorem push_up {l : List Itm} (h : IsHeap l) (x : Itm) : HeapUp (l ++ [x]) l.length := by
  have hv : ∀ j, j < l.length → vv (l ++ [x]) j = vv l j := fun j hj => by
    unfold vv; rw [gt_eq (by simp; omega), gt_eq hj, List.getElem_append_left hj]
  refine ⟨fun j j0 hj hne => ?_, fun _ c c0 hc hcp => ?_⟩
  · simp only [List.length_append, List.length_cons, List.length_nil] at hj
    have hj2 : j < l.length := by omega
    rw [hv j hj2, hv (par j) (by unfold par; omega)]
    exact h j j0 hj2
  · simp only [List.length_append, List.length_cons, List.length_nil] at hc
    unfold par at hcp
    omega

/-- the lesser one below -/
def below (l : List Itm) (b : Nat) : Nat := if b + 1 < l.length ∧ ltB (gt l (b + 1)) (gt l b) = true then b + 1 else b
/-- the item at a place sinks -/
def dnF : Nat → List Itm → Nat → List Itm
  | 0, l, _ => l
  | f + 1, l, i => if l.length ≤ 2 * i + 1 then l else if ltB (gt l (below l (2 * i + 1))) (gt l i) = true then dnF f (swq l i (below l (2 * i + 1))) (below l (2 * i + 1)) else l
def HeapDn (l : List Itm) (i : Nat) : Prop := (∀ j, 0 < j → j < l.length → par j ≠ i → vv l (par j) ≤ vv l j) ∧ (0 < i → ∀ c, 0 < c → c < l.length → par c = i → vv l (par i) ≤ vv l c)
theorem below_spec (l : List Itm) {i : Nat} (h : 2 * i + 1 < l.length) : below l (2 * i + 1) < l.length ∧ par (below l (2 * i + 1)) = i ∧ i < below l (2 * i + 1) ∧ ∀ c, 0 < c → c < l.length → par c = i → vv l (below l (2 * i + 1)) ≤ vv l c := by
  unfold below
  rw [ltB_eq]
  by_cases hb : 2 * i + 1 + 1 < l.length ∧ vv l (2 * i + 1 + 1) < vv l (2 * i + 1)
  · rw [if_pos ⟨hb.1, by simpa [vv] using hb.2⟩]
    refine ⟨hb.1, by unfold par; omega, by omega, fun c c0 hc hp => ?_⟩
    have : c = 2 * i + 1 ∨ c = 2 * i + 1 + 1 := by unfold par at hp; omega
    rcases this with rfl | rfl <;> omega
  · rw [if_neg (fun e => hb ⟨e.1, by simpa [vv] using e.2⟩)]
    refine ⟨h, by unfold par; omega, by omega, fun c c0 hc hp => ?_⟩
    have : c = 2 * i + 1 ∨ c = 2 * i + 1 + 1 := by unfold par at hp; omega
    rcases this with rfl | rfl
    · omega
    · have := fun e => hb ⟨hc, e⟩
      omega
theorem dn_step {l : List Itm} {i b : Nat} (hi : i < l.length) (hb : b < l.length) (hp : par b = i) (hib : i < b) (hmin : ∀ c, 0 < c → c < l.length → par c = i → vv l b ≤ vv l c) (h : HeapDn l i) (hl : vv l b < vv l i) : HeapDn (swq l i b) b := by
  refine ⟨fun j j0 hj hne => ?_, fun _ c c0 hc hcp => ?_⟩
  · rw [swq_length] at hj
    have hpj : par j < l.length := by unfold par; omega
    rw [vv_swq l hi hb hj, vv_swq l hi hb hpj, if_neg hne]
    by_cases h1 : par j = i
    · rw [if_pos h1]
      have hji : j ≠ i := by unfold par at h1; omega
      by_cases h2 : j = b
      · rw [if_pos h2]; omega
      · rw [if_neg h2, if_neg hji]
        exact hmin j j0 hj h1
    · rw [if_neg h1]
      have h2 : j ≠ b := fun e => h1 (by rw [e]; exact hp)
      rw [if_neg h2]
      by_cases h3 : j = i
      · rw [if_pos h3]
        subst h3
        exact h.2 j0 b (by omega) hb hp
      · rw [if_neg h3]
        exact h.1 j j0 hj h1
  · rw [swq_length] at hc
    rw [hp]
    have e1 : c ≠ b := by unfold par at hcp; omega
    have e2 : c ≠ i := by unfold par at hcp; omega
    rw [vv_swq l hi hb hi, vv_swq l hi hb hc, if_neg (by omega), if_pos rfl, if_neg e1, if_neg e2]
    have := h.1 c c0 hc (by omega)
    rw [hcp] at this
    exact this
theorem dn_heap : ∀ (f : Nat) (l : List Itm) (i : Nat), l.length ≤ f + i → i < l.length → HeapDn l i → IsHeap (dnF f l i) ∧ (dnF f l i).Perm l
  | 0, l, i, hf, hi, h => by omega
  | f + 1, l, i, hf, hi, h => by
    unfold dnF
    by_cases h0 : l.length ≤ 2 * i + 1
    · rw [if_pos h0]
      refine ⟨fun j j0 hj => h.1 j j0 hj (by unfold par; omega), List.Perm.refl _⟩
    · rw [if_neg h0, ltB_eq]
      obtain ⟨b1, b2, b3, b4⟩ := below_spec l (i := i) (by omega)
      by_cases hl : vv l (below l (2 * i + 1)) < vv l i
      · rw [if_pos (by simpa [vv] using hl)]
        obtain ⟨h1, h2⟩ := dn_heap f (swq l i (below l (2 * i + 1))) (below l (2 * i + 1)) (by rw [swq_length]; omega) (by rw [swq_length]; exact b1) (dn_step hi b1 b2 b3 b4 h hl)
        exact ⟨h1, h2.trans (swq_perm l hi b1)⟩
      · rw [if_neg (by simpa [vv] using hl)]
        refine ⟨fun j j0 hj => ?_, List.Perm.refl _⟩
        by_cases hj2 : par j = i
        · have := b4 j j0 hj hj2
          rw [hj2]; omega
        · exact h.1 j j0 hj hj2
/-- what is left when the least item is taken: the last one comes first, and sinks -/
def popF (l : List Itm) : List Itm := dnF l.length ((l.set 0 (gt l (l.length - 1))).take (l.length - 1)) 0
theorem pop_perm {l : List Itm} (h : 0 < l.length) : ((l.set 0 (gt l (l.length - 1))).take (l.length - 1) ++ [gt l 0]).Perm l := by
  have hs := swq_perm l (i := 0) (j := l.length - 1) h (by omega)
  have e : swq l 0 (l.length - 1) = (l.set 0 (gt l (l.length - 1))).take (l.length - 1) ++ [gt l 0] := by
    unfold swq
    apply List.ext_getElem
    · simp; omega
    · intro k h1 h2
      rw [List.getElem_set]
      by_cases hk : l.length - 1 = k
      · rw [if_pos hk, List.getElem_append_right (by simp; omega)]; simp
      · simp at h1
        rw [if_neg hk, List.getElem_append_left (by simp; omega), List.getElem_take]
  rw [← e]
  exact hs
theorem pop_heap {l : List Itm} (hh : IsHeap l) (h : 0 < l.length) : IsHeap (popF l) ∧ (popF l ++ [gt l 0]).Perm l := by
  unfold popF
  by_cases h1 : l.length = 1
  · have e : (l.set 0 (gt l (l.length - 1))).take (l.length - 1) = [] := by rw [h1]; simp
    have hp := pop_perm h
    rw [e] at hp ⊢
    rw [h1]
    have e2 : dnF 1 [] 0 = [] := by unfold dnF; simp
    rw [e2]
    exact ⟨IsHeap.nil, hp⟩
  · have hlen : ((l.set 0 (gt l (l.length - 1))).take (l.length - 1)).length = l.length - 1 := by simp <;> omega
    have hv : ∀ j, 0 < j → j < l.length - 1 → vv ((l.set 0 (gt l (l.length - 1))).take (l.length - 1)) j = vv l j := fun j j0 hj => by
      have hj' : j < ((l.set 0 (gt l (l.length - 1))).take (l.length - 1)).length := by rw [hlen]; exact hj
      unfold vv
      rw [gt_eq hj', List.getElem_take, List.getElem_set, if_neg (by omega)]
      exact congrArg Itm.r (gt_eq (by omega)).symm
    obtain ⟨a, b⟩ := dn_heap l.length ((l.set 0 (gt l (l.length - 1))).take (l.length - 1)) 0 (by rw [hlen]; omega) (by rw [hlen]; omega)
      ⟨fun j j0 hj hp => by
        rw [hlen] at hj
        have : 0 < par j := by omega
        rw [hv j j0 hj, hv (par j) this (by unfold par; omega)]
        exact hh j j0 (by omega), fun h => by omega⟩
    exact ⟨a, (b.append_right _).trans (pop_perm h)⟩
/-- a least item -/
def Least (l : List Itm) (x : Itm) : Prop := x ∈ l ∧ ∀ y ∈ l, x.r ≤ y.r
theorem least_one {l m : List Itm} {x y : Itm} (h : l.Perm m) (hx : Least l x) (hy : Least m y) : x = y :=
  Itm.r_inj (Nat.le_antisymm (hx.2 y (h.mem_iff.2 hy.1)) (hy.2 x (h.mem_iff.1 hx.1)))
theorem heap_least {l : List Itm} (hh : IsHeap l) (h : 0 < l.length) : Least l (gt l 0) := by
  refine ⟨by rw [gt_eq h]; exact List.getElem_mem h, fun y hy => ?_⟩
  obtain ⟨j, hj, rfl⟩ := List.getElem_of_mem hy
  have := hh.root j hj
  unfold vv at this
  rwa [gt_eq hj] at this
end Go.Proofs.Ytpnmfhcmodoeiaa
