/- The vertices that edges name, and where one stands among them. -/
import Derived.Test.YtpnmfhcmodoeiaaRs
import Derived.Test.YtpnmfhcmodoeiaaBf
namespace Go.Proofs.Ytpnmfhcmodoeiaa
open Go.RowKit
/-- the end of an edge, at a step -/
def endAt (E : List Edg) (i : Nat) : Nat := if i % 2 = 1 then (E.getD (i / 2) Edg.nil).head else (E.getD (i / 2) Edg.nil).tail
def addV (l : List Nat) (v : Nat) : List Nat := if inB l v = true then l else l ++ [v]
def vertsTo (E : List Edg) (src : Nat) : Nat → List Nat
  | 0 => [src]
  | i + 1 => addV (vertsTo E src i) (endAt E i)
def verts (E : List Edg) (src : Nat) : List Nat := vertsTo E src (2 * E.length)
theorem addV_mem {l : List Nat} {v u : Nat} : u ∈ addV l v ↔ u ∈ l ∨ u = v := by
  unfold addV
  split
  · rename_i h
    rw [inB_iff] at h
    constructor
    · exact .inl
    · rintro (h1 | rfl); exact h1; exact h
  · simp
theorem addV_nodup {l : List Nat} {v : Nat} (h : l.Nodup) : (addV l v).Nodup := by
  unfold addV
  split
  · exact h
  · rename_i hv
    rw [inB_iff] at hv
    exact List.nodup_append.2 ⟨h, by simp, fun a ha b hb => by
      have : b = v := by simpa using hb
      subst this
      exact fun e => hv (e ▸ ha)⟩
section
variable {E : List Edg} {src : Nat}
theorem vertsTo_mono {i j u : Nat} (h : i ≤ j) (hu : u ∈ vertsTo E src i) : u ∈ vertsTo E src j := by
  induction j with
  | zero => have : i = 0 := by omega
            subst this; exact hu
  | succ j ih =>
    by_cases e : i = j + 1
    · subst e; exact hu
    · exact addV_mem.2 (.inl (ih (by omega)))
theorem vertsTo_src (i : Nat) : src ∈ vertsTo E src i := vertsTo_mono (Nat.zero_le i) (by simp [vertsTo])
theorem vertsTo_nodup : ∀ i, (vertsTo E src i).Nodup
  | 0 => by simp [vertsTo]
  | i + 1 => addV_nodup (vertsTo_nodup i)
theorem vertsTo_len : ∀ i, (vertsTo E src i).length ≤ i + 1
  | 0 => by simp [vertsTo]
  | i + 1 => by
    have := vertsTo_len i
    unfold vertsTo addV
    split
    · omega
    · simp; omega
theorem verts_tail {x : Edg} (h : x ∈ E) : x.tail ∈ verts E src := by
  obtain ⟨k, hk, rfl⟩ := List.mem_iff_getElem.1 h
  have h1 : endAt E (2 * k) = E[k].tail := by
    unfold endAt
    rw [if_neg (by omega), show 2 * k / 2 = k by omega, List.getD_eq_getElem?_getD, List.getElem?_eq_getElem hk]; rfl
  have h2 : E[k].tail ∈ vertsTo E src (2 * k + 1) := addV_mem.2 (.inr h1.symm)
  exact vertsTo_mono (by omega) h2
theorem verts_head {x : Edg} (h : x ∈ E) : x.head ∈ verts E src := by
  obtain ⟨k, hk, rfl⟩ := List.mem_iff_getElem.1 h
  have h1 : endAt E (2 * k + 1) = E[k].head := by
    unfold endAt
    rw [if_pos (by omega), show (2 * k + 1) / 2 = k by omega, List.getD_eq_getElem?_getD, List.getElem?_eq_getElem hk]; rfl
  have h2 : E[k].head ∈ vertsTo E src (2 * k + 1 + 1) := addV_mem.2 (.inr h1.symm)
  exact vertsTo_mono (by omega) h2
theorem verts_way {av : Nat → Bool} {v d : Nat} (h : Way (netOut E []) av src v d) : v ∈ verts E src := by
  cases h with
  | start => exact vertsTo_src _
  | step v d x _ hx _ _ => exact verts_head (mem_net hx).1
end
def posTo (l : List Nat) (v : Nat) : Nat → Option Nat
  | 0 => none
  | i + 1 => match posTo l v i with
    | some k => some k
    | none => if l.getD i 0 = v then some i else none
def pos (l : List Nat) (v : Nat) : Option Nat := posTo l v l.length
theorem getD_at {l : List Nat} {i : Nat} (h : i < l.length) : l.getD i 0 = l[i] := by rw [List.getD_eq_getElem?_getD, List.getElem?_eq_getElem h]; rfl
theorem posTo_some {l : List Nat} {v : Nat} : ∀ n {k}, posTo l v n = some k → k < n ∧ l.getD k 0 = v
  | 0, k, h => by cases h
  | n + 1, k, h => by
    unfold posTo at h
    cases hp : posTo l v n with
    | some j => rw [hp] at h; injection h with h; subst h; have := posTo_some n hp; exact ⟨by omega, this.2⟩
    | none =>
      rw [hp] at h
      simp only at h
      split at h
      · rename_i e; injection h with h; subst h; exact ⟨by omega, e⟩
      · cases h
theorem posTo_none {l : List Nat} {v : Nat} : ∀ n, posTo l v n = none → ∀ i, i < n → l.getD i 0 ≠ v
  | 0, _, i, hi => by omega
  | n + 1, h, i, hi => by
    unfold posTo at h
    cases hp : posTo l v n with
    | some j => rw [hp] at h; cases h
    | none =>
      rw [hp] at h
      simp only at h
      split at h
      · cases h
      · rename_i e
        by_cases hin : i = n
        · subst hin; exact e
        · exact posTo_none n hp i (by omega)
theorem posTo_stay {l : List Nat} {v n k : Nat} (h : posTo l v n = some k) : ∀ m, n ≤ m → posTo l v m = some k := by
  intro m hm
  induction m with
  | zero => have : n = 0 := by omega
            subst this; exact h
  | succ m ih =>
    by_cases e : n = m + 1
    · subst e; exact h
    · unfold posTo; rw [ih (by omega)]
theorem posTo_hit {l : List Nat} {v i : Nat} (h : posTo l v i = none) (hi : i < l.length) (hv : l[i] = v) : pos l v = some i :=
  posTo_stay (n := i + 1) (by unfold posTo; rw [h]; exact if_pos (by rw [getD_at hi]; exact hv)) _ (by omega)
theorem posTo_miss {l : List Nat} {v i : Nat} (h : posTo l v i = none) (hi : i < l.length) (hv : l[i] ≠ v) : posTo l v (i + 1) = none := by
  unfold posTo; rw [h]; exact if_neg (by rw [getD_at hi]; exact hv)
theorem pos_mem {l : List Nat} {v : Nat} (h : v ∈ l) : ∃ k, pos l v = some k ∧ ∃ hk : k < l.length, l[k] = v := by
  cases hp : pos l v with
  | none =>
    obtain ⟨k, hk, he⟩ := List.mem_iff_getElem.1 h
    exact absurd (by rw [getD_at hk]; exact he) (posTo_none _ hp k hk)
  | some k =>
    obtain ⟨h1, h2⟩ := posTo_some _ hp
    exact ⟨k, rfl, h1, by rw [← getD_at h1]; exact h2⟩
theorem pos_not {l : List Nat} {v : Nat} (h : v ∉ l) : pos l v = none := by
  cases hp : pos l v with
  | none => rfl
  | some k =>
    obtain ⟨h1, h2⟩ := posTo_some _ hp
    exact absurd (by rw [getD_at h1] at h2; exact h2 ▸ List.getElem_mem h1) h
theorem place_any (B : Nat) (A : Option Addr) (l : List Nat) (c v : Nat) (w : World) (h : VLs B w A l) :
    Calls Try.prog 20 #[.slice A l.length c, .int .u32 (v : Int)] w fun e w' => e = .returned (.int .i64 (atZ (pos l v))) ∧ w = w' := by
  have hL := h.len
  have HS := Lib.hid h
  clear h
  go_enter Try.func20, Try.ntmps20
  go_wp2_with fail
  go_loopw [5] (fun vi wr => ∃ i : Nat, vi = .int .i64 i ∧ i ≤ l.length ∧ Hid (posTo l v i = none) ∧ wr = w) (fun vi _ => l.length - (intOf vi).toNat)
  case atStart => exact ⟨0, rfl, by omega, Lib.hid rfl, rfl⟩
  case round =>
    obtain ⟨i, rfl, hi, HC, rfl⟩ := hrel
    by_cases hlt : i < l.length
    · obtain ⟨b, o, hA, hb, c0⟩ := VLs.at' HS.out i hlt
      subst hA
      have i1 : (i : Int) < (l.length : Int) := by omega
      have i2 : (0 : Int) ≤ (i : Int) := by omega
      by_cases hv : l[i] = v
      · have HT := Lib.hid (posTo_hit HC.out hlt hv)
        have g1 : ((l[i] : Int) == (v : Int)) = true := by rw [hv]; exact beq_self_eq_true _
        clear hv
        generalize l[i] = u at *
        go_wp2_with fail
        go_ret
        exact ⟨by rw [HT.out]; rfl, rfl⟩
      · have HT := Lib.hid (posTo_miss HC.out hlt hv)
        have g1 : ((l[i] : Int) == (v : Int)) = false := by rw [beq_eq_false_iff_ne]; omega
        clear hv
        generalize l[i] = u at *
        go_wp2_with fail
        go_roundw
        case rel => exact ⟨i + 1, by go_num, by omega, HT, by first | rfl | trivial⟩
        case measure => simp [intOf]; omega
    · have i1 : ¬ (i : Int) < (l.length : Int) := by omega
      have hie : i = l.length := by omega
      subst hie
      go_wp2_with fail
      go_ret
      exact ⟨by rw [show pos l v = none from HC.out]; rfl, rfl⟩
end Go.Proofs.Ytpnmfhcmodoeiaa
