/- Ways in a row and in a ring, in plain words. -/
import Derived.Test.YtongpcfjfolfbaaUv
namespace Go.Proofs.Ytongpcfjfolfbaa
open Go.RowKit

/-- an edge of numbers, each cut to its bounds -/
def mkE (t h wt m : Nat) : Edg := ⟨t % 4294967296, h % 4294967296, wt % 18446744073709551616, m % 4294967296, Nat.mod_lt _ (by omega), Nat.mod_lt _ (by omega), Nat.mod_lt _ (by omega), Nat.mod_lt _ (by omega)⟩
theorem mkE_tail {t h wt m : Nat} (k : t < 4294967296) : (mkE t h wt m).tail = t := Nat.mod_eq_of_lt k
theorem mkE_head {t h wt m : Nat} (k : h < 4294967296) : (mkE t h wt m).head = h := Nat.mod_eq_of_lt k
theorem mkE_weight {t h wt m : Nat} (k : wt < 18446744073709551616) : (mkE t h wt m).weight = wt := Nat.mod_eq_of_lt k
theorem mkE_mid {t h wt m : Nat} (k : m < 4294967296) : (mkE t h wt m).mid = m := Nat.mod_eq_of_lt k

/-- what Row tells of a pair -/
def rowG (left round : Bool) (a b : Nat) : Edg × Int :=
  if round = true then (mkE a b (b + 18446744073709551616 - a) a, 0)
  else if b ≤ a then (Edg.nil, 3)
  else (mkE a b (b - a) (if b = a + 1 then 4294967295 else if left = true then b - 1 else a + 1), 0)

/-- edges of a row, from a vertex, so many -/
def rowL (a : Nat) : Nat → List Edg
  | 0 => []
  | n + 1 => rowL a n ++ [mkE (a + n) (a + n + 1) 1 4294967295]
theorem rowL_length (a : Nat) : ∀ n, (rowL a n).length = n
  | 0 => rfl
  | n + 1 => by rw [rowL, List.length_append, rowL_length a n]; rfl
theorem rowL_get (a : Nat) : ∀ (n i : Nat) (_ : i < n) (h' : i < (rowL a n).length), (rowL a n)[i] = mkE (a + i) (a + i + 1) 1 4294967295
  | n + 1, i, h, h' => by
    simp only [rowL] at h' ⊢
    by_cases e : i < n
    · rw [List.getElem_append_left (by rw [rowL_length]; exact e)]
      exact rowL_get a n i e _
    · have : i = n := by omega
      subst this
      rw [List.getElem_append_right (by rw [rowL_length]; omega)]
      simp [rowL_length]
theorem rowL_front (a : Nat) : ∀ n, rowL a (n + 1) = mkE a (a + 1) 1 4294967295 :: rowL (a + 1) n
  | 0 => by simp [rowL]
  | n + 1 => by
    have := rowL_front a n
    rw [rowL, this, rowL, List.cons_append, show a + (n + 1) = a + 1 + n by omega]

theorem row_one (left : Bool) (a : Nat) : rowG left false a (a + 1) = (mkE a (a + 1) 1 4294967295, 0) := by
  unfold rowG
  rw [if_neg (by simp), if_neg (by omega), if_pos rfl, show a + 1 - a = 1 by omega]
theorem row_leaf (left : Bool) (k : Nat) (L : List Edg) (a : Nat) (ha : a + 1 < 4294967296) (hL : L.length < 65536) : openV (rowG left false) k L a (a + 1) = .good 1 (L ++ [mkE a (a + 1) 1 4294967295]) := by
  have h := row_one left a
  have := openV_leaf (g := rowG left false) (k := k) (L := L) (a := a) (b := a + 1) (by rw [h]) (by rw [h]; exact ⟨mkE_tail (by omega), mkE_head (by omega)⟩) (by rw [h]; exact mkE_mid (by omega)) hL
  rw [this, h]
  rfl
theorem row_leaf_full (left : Bool) (k : Nat) (L : List Edg) (a : Nat) (ha : a + 1 < 4294967296) (hL : ¬ L.length < 65536) : openV (rowG left false) k L a (a + 1) = .bad 9 := by
  have h := row_one left a
  exact openV_full (g := rowG left false) (k := k) (L := L) (a := a) (b := a + 1) (by rw [h]) (by rw [h]; exact ⟨mkE_tail (by omega), mkE_head (by omega)⟩) (by rw [h]; exact mkE_mid (by omega)) hL

theorem row_left (a n : Nat) : rowG true false a (a + (n + 2)) = (mkE a (a + (n + 2)) (n + 2) (a + (n + 1)), 0) := by
  unfold rowG
  rw [if_neg (by simp), if_neg (by omega), if_neg (by omega), if_pos rfl, show a + (n + 2) - a = n + 2 by omega, show a + (n + 2) - 1 = a + (n + 1) by omega]
theorem row_right (a n : Nat) : rowG false false a (a + (n + 2)) = (mkE a (a + (n + 2)) (n + 2) (a + 1), 0) := by
  unfold rowG
  rw [if_neg (by simp), if_neg (by omega), if_neg (by omega), if_neg (by simp), show a + (n + 2) - a = n + 2 by omega]

theorem row_open_left : ∀ (n k : Nat) (L : List Edg) (a : Nat), n ≤ k → a + n + 1 < 4294967295 → L.length + (n + 1) ≤ 65536 →
    openV (rowG true false) k L a (a + (n + 1)) = .good (n + 1) (L ++ rowL a (n + 1))
  | 0, k, L, a, _, ha, hL => by
    have := row_leaf true k L a (by omega) (by omega)
    simpa [rowL] using this
  | n + 1, 0, L, a, hk, _, _ => by omega
  | n + 1, k + 1, L, a, hk, ha, hL => by
    have h := row_left a n
    have h1 := row_open_left n k L a (by omega) (by omega) (by omega)
    have h2 := row_leaf true k (L ++ rowL a (n + 1)) (a + (n + 1)) (by omega) (by rw [List.length_append, rowL_length]; omega)
    have hm : (rowG true false a (a + (n + 2))).1.mid = a + (n + 1) := by rw [h]; exact mkE_mid (by omega)
    have := openV_sum (g := rowG true false) (k := k) (L := L) (a := a) (b := a + (n + 2)) (by rw [h]) (by rw [h]; exact ⟨mkE_tail (by omega), mkE_head (by omega)⟩) (by rw [hm]; omega)
      (by rw [hm]; exact h1) (by rw [hm]; exact h2) (by rw [h]; exact ⟨fitsB_mk (by omega), (mkE_weight (by omega)).symm⟩)
    rw [this, List.append_assoc]
    rfl
theorem row_open_right : ∀ (n k : Nat) (L : List Edg) (a : Nat), n ≤ k → a + n + 1 < 4294967295 → L.length + (n + 1) ≤ 65536 →
    openV (rowG false false) k L a (a + (n + 1)) = .good (n + 1) (L ++ rowL a (n + 1))
  | 0, k, L, a, _, ha, hL => by
    have := row_leaf false k L a (by omega) (by omega)
    simpa [rowL] using this
  | n + 1, 0, L, a, hk, _, _ => by omega
  | n + 1, k + 1, L, a, hk, ha, hL => by
    have h := row_right a n
    have h1 := row_leaf false k L a (by omega) (by omega)
    have h2 := row_open_right n k (L ++ [mkE a (a + 1) 1 4294967295]) (a + 1) (by omega) (by omega) (by simp; omega)
    rw [show a + 1 + (n + 1) = a + (n + 2) by omega] at h2
    have hm : (rowG false false a (a + (n + 2))).1.mid = a + 1 := by rw [h]; exact mkE_mid (by omega)
    have := openV_sum (g := rowG false false) (k := k) (L := L) (a := a) (b := a + (n + 2)) (by rw [h]) (by rw [h]; exact ⟨mkE_tail (by omega), mkE_head (by omega)⟩) (by rw [hm]; omega)
      (by rw [hm]; exact h1) (by rw [hm]; exact h2) (by rw [h]; exact ⟨fitsB_mk (by omega), by rw [mkE_weight (by omega)]; omega⟩)
    rw [this, List.append_assoc, rowL_front a (n + 1), show 1 + (n + 1) = n + 1 + 1 by omega]
    rfl
theorem row_open (left : Bool) (n k : Nat) (a : Nat) (hk : n ≤ k) (ha : a + n + 1 < 4294967295) (hL : n + 1 ≤ 65536) : openV (rowG left false) k [] a (a + (n + 1)) = .good (n + 1) (rowL a (n + 1)) := by
  cases left with
  | true => simpa using row_open_left n k [] a hk ha (by simpa using hL)
  | false => simpa using row_open_right n k [] a hk ha (by simpa using hL)
theorem row_over_left : ∀ (n k : Nat) (L : List Edg) (a : Nat), n ≤ k → a + n + 1 < 4294967295 → L.length ≤ 65536 → 65536 < L.length + (n + 1) →
    openV (rowG true false) k L a (a + (n + 1)) = .bad 9
  | 0, k, L, a, _, ha, hL, h6 => row_leaf_full true k L a (by omega) (by omega)
  | n + 1, 0, L, a, hk, _, _, _ => by omega
  | n + 1, k + 1, L, a, hk, ha, hL, h6 => by
    have h := row_left a n
    have hm : (rowG true false a (a + (n + 2))).1.mid = a + (n + 1) := by rw [h]; exact mkE_mid (by omega)
    by_cases h7 : 65536 < L.length + (n + 1)
    · have h1 := row_over_left n k L a (by omega) (by omega) hL h7
      exact openV_bad1 (g := rowG true false) (k := k) (L := L) (a := a) (b := a + (n + 2)) (by rw [h]) (by rw [h]; exact ⟨mkE_tail (by omega), mkE_head (by omega)⟩) (by rw [hm]; omega) (by rw [hm]; exact h1)
    · have h1 := row_open_left n k L a (by omega) (by omega) (by omega)
      have h2 := row_leaf_full true k (L ++ rowL a (n + 1)) (a + (n + 1)) (by omega) (by rw [List.length_append, rowL_length]; omega)
      exact openV_bad2 (g := rowG true false) (k := k) (L := L) (a := a) (b := a + (n + 2)) (by rw [h]) (by rw [h]; exact ⟨mkE_tail (by omega), mkE_head (by omega)⟩) (by rw [hm]; omega) (by rw [hm]; exact h1) (by rw [hm]; exact h2)
theorem row_over_right : ∀ (n k : Nat) (L : List Edg) (a : Nat), n ≤ k → a + n + 1 < 4294967295 → L.length ≤ 65536 → 65536 < L.length + (n + 1) →
    openV (rowG false false) k L a (a + (n + 1)) = .bad 9
  | 0, k, L, a, _, ha, hL, h6 => row_leaf_full false k L a (by omega) (by omega)
  | n + 1, 0, L, a, hk, _, _, _ => by omega
  | n + 1, k + 1, L, a, hk, ha, hL, h6 => by
    have h := row_right a n
    have hm : (rowG false false a (a + (n + 2))).1.mid = a + 1 := by rw [h]; exact mkE_mid (by omega)
    by_cases h7 : L.length < 65536
    · have h1 := row_leaf false k L a (by omega) h7
      have h2 := row_over_right n k (L ++ [mkE a (a + 1) 1 4294967295]) (a + 1) (by omega) (by omega) (by simp; omega) (by simp; omega)
      rw [show a + 1 + (n + 1) = a + (n + 2) by omega] at h2
      exact openV_bad2 (g := rowG false false) (k := k) (L := L) (a := a) (b := a + (n + 2)) (by rw [h]) (by rw [h]; exact ⟨mkE_tail (by omega), mkE_head (by omega)⟩) (by rw [hm]; omega) (by rw [hm]; exact h1) (by rw [hm]; exact h2)
    · have h1 := row_leaf_full false k L a (by omega) h7
      exact openV_bad1 (g := rowG false false) (k := k) (L := L) (a := a) (b := a + (n + 2)) (by rw [h]) (by rw [h]; exact ⟨mkE_tail (by omega), mkE_head (by omega)⟩) (by rw [hm]; omega) (by rw [hm]; exact h1)
theorem row_over (left : Bool) (k : Nat) (a : Nat) (hk : 65536 ≤ k) (ha : a ≤ 2147483648) : openV (rowG left false) k [] a (a + 65537) = .bad 9 := by
  cases left with
  | true => exact row_over_left 65536 k [] a hk (by omega) (by simp) (by simp)
  | false => exact row_over_right 65536 k [] a hk (by omega) (by simp) (by simp)
theorem row_round (left : Bool) : ∀ (k : Nat) (L : List Edg) (a b : Nat), a < 4294967295 → b < 4294967296 → openV (rowG left true) k L a b = .bad 9
  | k, L, a, b, ha, hb => by
    have h : rowG left true a b = (mkE a b (b + 18446744073709551616 - a) a, 0) := by unfold rowG; rw [if_pos rfl]
    have hm : (rowG left true a b).1.mid = a := by rw [h]; exact mkE_mid (by omega)
    cases k with
    | zero => exact openV_deep (by rw [h]) (by rw [h]; exact ⟨mkE_tail (by omega), mkE_head (by omega)⟩) (by rw [hm]; omega)
    | succ k => exact openV_bad1 (by rw [h]) (by rw [h]; exact ⟨mkE_tail (by omega), mkE_head (by omega)⟩) (by rw [hm]; omega) (by rw [hm]; exact row_round left k L a a ha (by omega))

/-- two to some power, modulo 19 -/
def pw (k : Nat) : Nat := 2 ^ k % 19
def ringG (a b : Nat) : Edg × Int :=
  if 18 < a ∨ 18 < b then (Edg.nil, 3)
  else match (List.range 18).find? (fun k => pw k == (b + 19 - a) % 19) with
    | none => (Edg.nil, 3)
    | some k => (mkE a b (2 ^ k) (if k = 0 then 4294967295 else (a + pw (k - 1)) % 19), 0)
/-- edges of the ring, from a vertex, so many -/
def ringL (a : Nat) : Nat → List Edg
  | 0 => []
  | n + 1 => ringL a n ++ [mkE ((a + n) % 19) ((a + n + 1) % 19) 1 4294967295]
theorem ringL_length (a : Nat) : ∀ n, (ringL a n).length = n
  | 0 => rfl
  | n + 1 => by rw [ringL, List.length_append, ringL_length a n]; rfl
theorem ringL_get (a : Nat) : ∀ (n i : Nat) (_ : i < n) (h' : i < (ringL a n).length), (ringL a n)[i] = mkE ((a + i) % 19) ((a + i + 1) % 19) 1 4294967295
  | n + 1, i, h, h' => by
    simp only [ringL] at h' ⊢
    by_cases e : i < n
    · rw [List.getElem_append_left (by rw [ringL_length]; exact e)]
      exact ringL_get a n i e _
    · have : i = n := by omega
      subst this
      rw [List.getElem_append_right (by rw [ringL_length]; omega)]
      simp [ringL_length]
theorem ringL_app (a m : Nat) : ∀ n, ringL a (m + n) = ringL a m ++ ringL ((a + m) % 19) n
  | 0 => by simp [ringL]
  | n + 1 => by
    rw [← Nat.add_assoc, ringL, ringL_app a m n, ringL, List.append_assoc, show (a + (m + n)) % 19 = ((a + m) % 19 + n) % 19 by omega, show (a + (m + n) + 1) % 19 = ((a + m) % 19 + n + 1) % 19 by omega]
theorem find_pw : ∀ m, m < 18 → (List.range 18).find? (fun k => pw k == pw m) = some m := by decide
theorem ring_at (a m : Nat) (ha : a ≤ 18) (hm : m < 18) : ringG a ((a + 2 ^ m) % 19) = (mkE a ((a + 2 ^ m) % 19) (2 ^ m) (if m = 0 then 4294967295 else (a + pw (m - 1)) % 19), 0) := by
  unfold ringG
  have h : ((a + 2 ^ m) % 19 + 19 - a) % 19 = pw m := by unfold pw; omega
  rw [if_neg (by omega), h, find_pw m hm]
theorem pow_bd (m : Nat) (hm : m < 18) : 2 ^ m < 18446744073709551616 := by
  have : 2 ^ m ≤ 2 ^ 17 := Nat.pow_le_pow_right (by omega) (by omega)
  have e : (2 : Nat) ^ 17 = 131072 := rfl
  omega
theorem ring_leaf (k : Nat) (L : List Edg) (a : Nat) (ha : a ≤ 18) (hL : L.length < 65536) : openV ringG k L a ((a + 2 ^ 0) % 19) = .good 1 (L ++ [mkE (a % 19) ((a + 1) % 19) 1 4294967295]) := by
  have h := ring_at a 0 ha (by omega)
  have := openV_leaf (g := ringG) (k := k) (L := L) (a := a) (b := (a + 2 ^ 0) % 19) (by rw [h]) (by rw [h]; exact ⟨mkE_tail (by omega), mkE_head (by omega)⟩) (by rw [h]; exact mkE_mid (by simp)) hL
  rw [this, h]
  simp only [if_true, Nat.pow_zero, Nat.mod_eq_of_lt (show a < 19 by omega)]
  rfl
theorem ring_full : ∀ (m k : Nat) (L : List Edg) (a : Nat), m ≤ k → m < 18 → a ≤ 18 → ¬ L.length < 65536 → openV ringG k L a ((a + 2 ^ m) % 19) = .bad 9
  | 0, k, L, a, _, _, ha, hL => by
    have h := ring_at a 0 ha (by omega)
    exact openV_full (g := ringG) (k := k) (L := L) (a := a) (b := (a + 2 ^ 0) % 19) (by rw [h]) (by rw [h]; exact ⟨mkE_tail (by omega), mkE_head (by omega)⟩) (by rw [h]; exact mkE_mid (by simp)) hL
  | m + 1, 0, L, a, hk, _, _, _ => by omega
  | m + 1, k + 1, L, a, hk, hm, ha, hL => by
    have h := ring_at a (m + 1) ha hm
    rw [if_neg (by omega), show m + 1 - 1 = m by omega] at h
    have hmid : (ringG a ((a + 2 ^ (m + 1)) % 19)).1.mid = (a + 2 ^ m) % 19 := by rw [h]; show (mkE _ _ _ _).mid = _; rw [mkE_mid (by omega)]; unfold pw; omega
    exact openV_bad1 (g := ringG) (k := k) (L := L) (a := a) (by rw [h]) (by rw [h]; exact ⟨mkE_tail (by omega), mkE_head (by omega)⟩) (by rw [hmid]; omega) (by rw [hmid]; exact ring_full m k L a (by omega) (by omega) ha hL)
theorem ring_open : ∀ (m k : Nat) (L : List Edg) (a : Nat), m ≤ k → m < 18 → a ≤ 18 → L.length + 2 ^ m ≤ 65536 → openV ringG k L a ((a + 2 ^ m) % 19) = .good (2 ^ m) (L ++ ringL a (2 ^ m))
  | 0, k, L, a, _, _, ha, hL => by
    rw [ring_leaf k L a ha (by simp at hL; omega)]
    simp [ringL]
  | m + 1, 0, L, a, hk, _, _, _ => by omega
  | m + 1, k + 1, L, a, hk, hm, ha, hL => by
    have h := ring_at a (m + 1) ha hm
    rw [if_neg (by omega), show m + 1 - 1 = m by omega] at h
    have hp : 2 ^ (m + 1) = 2 ^ m + 2 ^ m := by omega
    have hbd := pow_bd (m + 1) hm
    have hq : 0 < 2 ^ m := Nat.pow_pos (by omega)
    have hmid : (ringG a ((a + 2 ^ (m + 1)) % 19)).1.mid = (a + 2 ^ m) % 19 := by rw [h]; show (mkE _ _ _ _).mid = _; rw [mkE_mid (by omega)]; unfold pw; omega
    have h1 := ring_open m k L a (by omega) (by omega) ha (by omega)
    have h2 := ring_open m k (L ++ ringL a (2 ^ m)) ((a + 2 ^ m) % 19) (by omega) (by omega) (by omega) (by rw [List.length_append, ringL_length]; omega)
    rw [show ((a + 2 ^ m) % 19 + 2 ^ m) % 19 = (a + 2 ^ (m + 1)) % 19 by omega] at h2
    have := openV_sum (g := ringG) (k := k) (L := L) (a := a) (b := (a + 2 ^ (m + 1)) % 19) (by rw [h]) (by rw [h]; exact ⟨mkE_tail (by omega), mkE_head (by omega)⟩) (by rw [hmid]; omega)
      (by rw [hmid]; exact h1) (by rw [hmid]; exact h2) (by rw [h]; exact ⟨fitsB_mk (by omega), by rw [mkE_weight hbd]; omega⟩)
    rw [this, List.append_assoc, ← ringL_app, ← hp]
theorem ring_over (k : Nat) (a : Nat) (hk : 17 ≤ k) (ha : a ≤ 18) : openV ringG k [] a ((a + 2 ^ 17) % 19) = .bad 9 := by
  obtain ⟨k, rfl⟩ : ∃ j, k = j + 1 := ⟨k - 1, by omega⟩
  have h := ring_at a 17 ha (by omega)
  rw [if_neg (by omega), show 17 - 1 = 16 by omega] at h
  have hmid : (ringG a ((a + 2 ^ 17) % 19)).1.mid = (a + 2 ^ 16) % 19 := by rw [h]; show (mkE _ _ _ _).mid = _; rw [mkE_mid (by omega)]; unfold pw; omega
  have h1 := ring_open 16 k [] a (by omega) (by omega) ha (by simp)
  have h2 := ring_full 16 k ([] ++ ringL a (2 ^ 16)) ((a + 2 ^ 16) % 19) (by omega) (by omega) (by omega) (by rw [List.length_append, ringL_length]; simp)
  rw [show ((a + 2 ^ 16) % 19 + 2 ^ 16) % 19 = (a + 2 ^ 17) % 19 by omega] at h2
  exact openV_bad2 (g := ringG) (k := k) (L := []) (a := a) (by rw [h]) (by rw [h]; exact ⟨mkE_tail (by omega), mkE_head (by omega)⟩) (by rw [hmid]; omega) (by rw [hmid]; exact h1) (by rw [hmid]; exact h2)

/-- one edge, whatever is asked for -/
theorem lone_open (x : Edg) (hx : x.mid = 4294967295) (k a b : Nat) : openV (fun _ _ => (x, 0)) k [] a b = if x.tail = a ∧ x.head = b then .good x.weight [x] else .bad 7 := by
  by_cases h : x.tail = a ∧ x.head = b
  · rw [if_pos h]
    exact openV_leaf (g := fun _ _ => (x, 0)) rfl h hx (by simp)
  · rw [if_neg h]
    exact openV_ends (g := fun _ _ => (x, 0)) rfl (by simp only; omega)
end Go.Proofs.Ytongpcfjfolfbaa
