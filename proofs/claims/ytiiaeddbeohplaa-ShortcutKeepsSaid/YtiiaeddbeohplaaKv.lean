/- The vertices that edges name, and where one stands among them. -/
import Derived.Test.YtiiaeddbeohplaaRs
import Derived.Test.YtiiaeddbeohplaaBf
namespace Go.Proofs.Ytiiaeddbeohplaa
open Go.RowKit
/-- the end of an edge, at a step -/
def endAt (E : List Edg) (i : Nat) : Nat := if i % 2 = 1 then (E.getD (i / 2) Edg.nil).head else (E.getD (i / 2) Edg.nil).tail
def addV (l : List Nat) (v : Nat) : List Nat := if inB l v = true then l else l ++ [v]
def vertsTo (E : List Edg) : Nat → List Nat
  | 0 => []
  | i + 1 => addV (vertsTo E i) (endAt E i)
def verts (E : List Edg) : List Nat := vertsTo E (2 * E.length)
theorem addV_mem {l : List Nat} {v u : Nat} : u ∈ addV l v ↔ u ∈ l ∨ u = v := by
  unfold addV
  split
  · rename_i h
    rw [inB_iff] at h
    constructor
    · exact .inl
    · rintro (h1 | rfl); exact h1; exact h
  · simp
theorem addV_nodup {l : List Nat} {v : Nat} (h : l.Nodup) : (addV l v).Nodup := by
  unfold addV
  split
  · exact h
  · rename_i hv
    rw [inB_iff] at hv
    exact List.nodup_append.2 ⟨h, by simp, fun a ha b hb => by
      have : b = v := by simpa using hb
      subst this
      exact fun e => hv (e ▸ ha)⟩
section
variable {E : List Edg}
theorem vertsTo_mono {i j u : Nat} (h : i ≤ j) (hu : u ∈ vertsTo E i) : u ∈ vertsTo E j := by
  induction j with
  | zero => have : i = 0 := by omega
            subst this; exact hu
  | succ j ih =>
    by_cases e : i = j + 1
    · subst e; exact hu
    · exact addV_mem.2 (.inl (ih (by omega)))
theorem vertsTo_nodup : ∀ i, (vertsTo E i).Nodup
  | 0 => by simp [vertsTo]
  | i + 1 => addV_nodup (vertsTo_nodup i)
theorem vertsTo_len : ∀ i, (vertsTo E i).length ≤ i
  | 0 => by simp [vertsTo]
  | i + 1 => by
    have := vertsTo_len i
    unfold vertsTo addV
    split
    · omega
    · simp; omega
theorem verts_tail {x : Edg} (h : x ∈ E) : x.tail ∈ verts E := by
  obtain ⟨k, hk, rfl⟩ := List.mem_iff_getElem.1 h
  have h1 : endAt E (2 * k) = E[k].tail := by
    unfold endAt
    rw [if_neg (by omega), show 2 * k / 2 = k by omega, List.getD_eq_getElem?_getD, List.getElem?_eq_getElem hk]; rfl
  have h2 : E[k].tail ∈ vertsTo E (2 * k + 1) := addV_mem.2 (.inr h1.symm)
  exact vertsTo_mono (by omega) h2
theorem verts_head {x : Edg} (h : x ∈ E) : x.head ∈ verts E := by
  obtain ⟨k, hk, rfl⟩ := List.mem_iff_getElem.1 h
  have h1 : endAt E (2 * k + 1) = E[k].head := by
    unfold endAt
    rw [if_pos (by omega), show (2 * k + 1) / 2 = k by omega, List.getD_eq_getElem?_getD, List.getElem?_eq_getElem hk]; rfl
  have h2 : E[k].head ∈ vertsTo E (2 * k + 1 + 1) := addV_mem.2 (.inr h1.symm)
  exact vertsTo_mono (by omega) h2
theorem vertsTo_from {u : Nat} : ∀ i, i ≤ 2 * E.length → u ∈ vertsTo E i → ∃ x ∈ E, x.tail = u ∨ x.head = u
  | 0, _, h => by cases h
  | i + 1, hi, h => by
    rcases addV_mem.1 h with h | h
    · exact vertsTo_from i (by omega) h
    · have hq : i / 2 < E.length := by omega
      unfold endAt at h
      rw [List.getD_eq_getElem?_getD, List.getElem?_eq_getElem hq] at h
      refine ⟨E[i / 2], List.getElem_mem hq, ?_⟩
      split at h
      · exact .inr h.symm
      · exact .inl h.symm
theorem verts_mem {u : Nat} : u ∈ verts E ↔ ∃ x ∈ E, x.tail = u ∨ x.head = u := by
  constructor
  · exact vertsTo_from _ (Nat.le_refl _)
  · rintro ⟨x, hx, rfl | rfl⟩
    · exact verts_tail hx
    · exact verts_head hx
end
def posTo (l : List Nat) (v : Nat) : Nat → Option Nat
  | 0 => none
  | i + 1 => match posTo l v i with
    | some k => some k
    | none => if l.getD i 0 = v then some i else none
def pos (l : List Nat) (v : Nat) : Option Nat := posTo l v l.length
theorem getD_at {l : List Nat} {i : Nat} (h : i < l.length) : l.getD i 0 = l[i] := by rw [List.getD_eq_getElem?_getD, List.getElem?_eq_getElem h]; rfl
theorem posTo_some {l : List Nat} {v : Nat} : ∀ n {k}, posTo l v n = some k → k < n ∧ l.getD k 0 = v
  | 0, k, h => by cases h
  | n + 1, k, h => by
    unfold posTo at h
    cases hp : posTo l v n with
    | some j => rw [hp] at h; injection h with h; subst h; have := posTo_some n hp; exact ⟨by omega, this.2⟩
    | none =>
      rw [hp] at h
      simp only at h
      split at h
      · rename_i e; injection h with h; subst h; exact ⟨by omega, e⟩
      · cases h
theorem posTo_none {l : List Nat} {v : Nat} : ∀ n, posTo l v n = none → ∀ i, i < n → l.getD i 0 ≠ v
  | 0, _, i, hi => by omega
  | n + 1, h, i, hi => by
    unfold posTo at h
    cases hp : posTo l v n with
    | some j => rw [hp] at h; cases h
    | none =>
      rw [hp] at h
      simp only at h
      split at h
      · cases h
      · rename_i e
        by_cases hin : i = n
        · subst hin; exact e
        · exact posTo_none n hp i (by omega)
theorem posTo_stay {l : List Nat} {v n k : Nat} (h : posTo l v n = some k) : ∀ m, n ≤ m → posTo l v m = some k := by
  intro m hm
  induction m with
  | zero => have : n = 0 := by omega
            subst this; exact h
  | succ m ih =>
    by_cases e : n = m + 1
    · subst e; exact h
    · unfold posTo; rw [ih (by omega)]
theorem posTo_hit {l : List Nat} {v i : Nat} (h : posTo l v i = none) (hi : i < l.length) (hv : l[i] = v) : pos l v = some i :=
  posTo_stay (n := i + 1) (by unfold posTo; rw [h]; exact if_pos (by rw [getD_at hi]; exact hv)) _ (by omega)
theorem posTo_miss {l : List Nat} {v i : Nat} (h : posTo l v i = none) (hi : i < l.length) (hv : l[i] ≠ v) : posTo l v (i + 1) = none := by
  unfold posTo; rw [h]; exact if_neg (by rw [getD_at hi]; exact hv)
theorem pos_mem {l : List Nat} {v : Nat} (h : v ∈ l) : ∃ k, pos l v = some k ∧ ∃ hk : k < l.length, l[k] = v := by
  cases hp : pos l v with
  | none =>
    obtain ⟨k, hk, he⟩ := List.mem_iff_getElem.1 h
    exact absurd (by rw [getD_at hk]; exact he) (posTo_none _ hp k hk)
  | some k =>
    obtain ⟨h1, h2⟩ := posTo_some _ hp
    exact ⟨k, rfl, h1, by rw [← getD_at h1]; exact h2⟩
theorem pos_not {l : List Nat} {v : Nat} (h : v ∉ l) : pos l v = none := by
  cases hp : pos l v with
  | none => rfl
  | some k =>
    obtain ⟨h1, h2⟩ := posTo_some _ hp
    exact absurd (by rw [getD_at h1] at h2; exact h2 ▸ List.getElem_mem h1) h
theorem place_any (B : Nat) (A : Option Addr) (l : List Nat) (c v : Nat) (w : World) (h : VLs B w A l) :
    Calls Try.prog 23 #[.slice A l.length c, .int .u32 (v : Int)] w fun e w' => e = .returned (.int .i64 (atZ (pos l v))) ∧ w = w' := by
  have hL := h.len
  have HS := Lib.hid h
  clear h
  go_enter Try.func23, Try.ntmps23
  go_wp2_with fail
  go_loopw [5] (fun vi wr => ∃ i : Nat, vi = .int .i64 i ∧ i ≤ l.length ∧ Hid (posTo l v i = none) ∧ wr = w) (fun vi _ => l.length - (intOf vi).toNat)
  case atStart => exact ⟨0, rfl, by omega, Lib.hid rfl, rfl⟩
  case round =>
    obtain ⟨i, rfl, hi, HC, rfl⟩ := hrel
    by_cases hlt : i < l.length
    · obtain ⟨b, o, hA, hb, c0⟩ := VLs.at' HS.out i hlt
      subst hA
      have i1 : (i : Int) < (l.length : Int) := by omega
      have i2 : (0 : Int) ≤ (i : Int) := by omega
      by_cases hv : l[i] = v
      · have HT := Lib.hid (posTo_hit HC.out hlt hv)
        have g1 : ((l[i] : Int) == (v : Int)) = true := by rw [hv]; exact beq_self_eq_true _
        clear hv
        generalize l[i] = u at *
        go_wp2_with fail
        go_ret
        exact ⟨by rw [HT.out]; rfl, rfl⟩
      · have HT := Lib.hid (posTo_miss HC.out hlt hv)
        have g1 : ((l[i] : Int) == (v : Int)) = false := by rw [beq_eq_false_iff_ne]; omega
        clear hv
        generalize l[i] = u at *
        go_wp2_with fail
        go_roundw
        case rel => exact ⟨i + 1, by go_num, by omega, HT, by first | rfl | trivial⟩
        case measure => simp [intOf]; omega
    · have i1 : ¬ (i : Int) < (l.length : Int) := by omega
      have hie : i = l.length := by omega
      subst hie
      go_wp2_with fail
      go_ret
      exact ⟨by rw [show pos l v = none from HC.out]; rfl, rfl⟩
theorem inB_step {l : List Nat} {v k : Nat} (hk : k < l.length) : inB (l.take (k + 1)) v = (inB (l.take k) v || (l[k] == v)) := by
  rw [Bool.eq_iff_iff, Bool.or_eq_true, inB_iff, inB_iff, beq_iff_eq, List.take_succ_eq_append_getElem hk, List.mem_append, List.mem_singleton]
  constructor
  · rintro (h | h); exact .inl h; exact .inr h.symm
  · rintro (h | h); exact .inl h; exact .inr h.symm
set_option maxRecDepth 100000 in
set_option maxHeartbeats 8000000 in
theorem verts_any (B : Nat) (A : Option Addr) (E : List Edg) (c : Nat) (w : World) (h : ELs B w A E) (hB : B ≤ w.heap.size) (hE : E.length ≤ 1000) :
    Calls Try.prog 21 #[.slice A E.length c] w fun e w' => ∃ A' c', e = .returned (.slice A' (verts E).length c') ∧ OwnV w' w.heap.size (.slice A' (verts E).length c') (verts E) ∧ Below w.heap.size w w' := by
  have HE := Lib.hid (h.more hB)
  have HO0 : Hid (OwnV w w.heap.size (.slice none 0 0) []) := Lib.hid (OwnS.nil _ _ _ _ _)
  have HB0 : Hid (Below w.heap.size w w) := Lib.hid (Below.refl _ _)
  clear h hB
  go_enter Try.func21, Try.ntmps21
  go_wp2_with fail
  go_loopw [3, 4] (fun vl vi wr => ∃ (i : Nat) (A2 : Option Addr) (c2 : Nat), vi = .int .i64 i ∧ i ≤ 2 * E.length ∧ vl = .slice A2 (vertsTo E i).length c2 ∧ Hid (OwnV wr w.heap.size (.slice A2 (vertsTo E i).length c2) (vertsTo E i)) ∧ Hid (Below w.heap.size w wr)) (fun _ vi _ => 2 * E.length - (intOf vi).toNat)
  case atStart => exact ⟨0, none, 0, rfl, by omega, rfl, HO0, HB0⟩
  case round =>
    clear HO0 HB0
    obtain ⟨i, A2, c2, rfl, hi, rfl, HO, HB⟩ := hrel
    have HLen := Lib.hid (vertsTo_len (E := E) i)
    by_cases hlt : i < 2 * E.length
    · have hq : i / 2 < E.length := by omega
      obtain ⟨b, o, hA, _, c0, c1, _, _⟩ := ELs.at' (HE.out.below HB.out) (i / 2) hq
      subst hA
      have i1 : (i : Int) < 2 * (E.length : Int) := by omega
      have i2 : (0 : Int) ≤ (i : Int) := by omega
      have i3 : (i : Int) / 2 = ((i / 2 : Nat) : Int) := by omega
      have i4 : ((i / 2 : Nat) : Int) < (E.length : Int) := by omega
      have HG : Hid (E.getD (i / 2) Edg.nil = E[i / 2]) := Lib.hid (by rw [List.getD_eq_getElem?_getD, List.getElem?_eq_getElem hq]; rfl)
      have HVl := Lib.hid (own_vls HO.out (by have := HLen.out; omega))
      generalize hl : vertsTo E i = l at *
      have HL := Lib.hid hl
      clear hl
      have hlb : l.length ≤ 2001 := by have := HLen.out; omega
      by_cases hm : i % 2 = 1
      · have i5 : (i : Int) % 2 = 1 := by omega
        have HEnd : Hid (endAt E i = (E[i / 2]).head) := Lib.hid (by unfold endAt; rw [if_pos hm, HG.out])
        clear HG hm
        generalize (E[i / 2]).tail = tl at *
        generalize (E[i / 2]).head = v at *
        generalize i / 2 = q at *
        go_wp2_with fail
        go_loopw [6, 7] (fun vb vk wr' => ∃ k : Nat, vk = .int .i64 k ∧ k ≤ l.length ∧ vb = .bool (inB (l.take k) v) ∧ wr' = wr) (fun _ vk _ => l.length - (intOf vk).toNat)
        case atStart => exact ⟨0, rfl, by omega, rfl, rfl⟩
        case round =>
          obtain ⟨k, rfl, hk, rfl, rfl⟩ := hrel
          by_cases hkl : k < l.length
          · obtain ⟨p, s, hA, _, e0⟩ := VLs.at' HVl.out k hkl
            have HStp := Lib.hid (inB_step (v := v) hkl)
            subst hA
            have j1 : (k : Int) < (l.length : Int) := by omega
            have j2 : (0 : Int) ≤ (k : Int) := by omega
            generalize hbk : inB (l.take k) v = bk at *
            generalize hbk2 : inB (l.take (k + 1)) v = bk2 at *
            have HBk2 := Lib.hid hbk2
            clear hbk hbk2
            cases bk with
            | true =>
              have HR : Hid (bk2 = true) := Lib.hid (by rw [HStp.out, Bool.true_or])
              go_wp2_with fail
              go_roundw
              case rel => exact ⟨k + 1, by go_num, by omega, by rw [HBk2.out, HR.out], by first | rfl | trivial⟩
              case measure => simp [intOf]; omega
            | false =>
              by_cases hv : l[k] = v
              · have g1 : ((l[k] : Int) == (v : Int)) = true := by rw [hv]; exact beq_self_eq_true _
                have HR : Hid (bk2 = true) := Lib.hid (by rw [HStp.out, Bool.false_or, beq_iff_eq]; exact hv)
                clear hv
                generalize l[k] = u at *
                go_wp2_with fail
                go_roundw
                case rel => exact ⟨k + 1, by go_num, by omega, by rw [HBk2.out, HR.out], by first | rfl | trivial⟩
                case measure => simp [intOf]; omega
              · have g1 : ((l[k] : Int) == (v : Int)) = false := by rw [beq_eq_false_iff_ne]; omega
                have HR : Hid (bk2 = false) := Lib.hid (by rw [HStp.out, Bool.false_or, beq_eq_false_iff_ne]; exact hv)
                clear hv
                generalize l[k] = u at *
                go_wp2_with fail
                go_roundw
                case rel => exact ⟨k + 1, by go_num, by omega, by rw [HBk2.out, HR.out], by first | rfl | trivial⟩
                case measure => simp [intOf]; omega
          · have j1 : ¬ (k : Int) < (l.length : Int) := by omega
            have hke : k = l.length := by omega
            subst hke
            rw [List.take_length]
            generalize hin : inB l v = bin at *
            cases bin with
            | true =>
              have HR : Hid (vertsTo E (i + 1) = l) := Lib.hid (by show addV (vertsTo E i) (endAt E i) = l; rw [HL.out, HEnd.out]; unfold addV; rw [hin, if_pos rfl])
              clear hin
              go_wp2_with fail
              go_roundw
              case rel => exact ⟨i + 1, A2, c2, by go_num, by omega, by rw [HR.out], Lib.hid (by rw [HR.out]; exact HO.out), HB⟩
              case measure => simp [intOf]; omega
            | false =>
              have HR : Hid (vertsTo E (i + 1) = l ++ [v]) := Lib.hid (by show addV (vertsTo E i) (endAt E i) = _; rw [HL.out, HEnd.out]; unfold addV; rw [hin, if_neg Bool.false_ne_true])
              clear hin
              have HO2 : Hid (OwnV (wr.alloc (.cells #[.int .u32 (v : Int)] 26)) w.heap.size (.slice A2 l.length c2) l) := Lib.hid (HO.out.alloc _)
              have HV2 : Hid (VLs (wr.heap.size + 1) (wr.alloc (.cells #[.int .u32 (v : Int)] 26)) (some ⟨wr.heap.size, 0, none⟩) [v]) := Lib.hid (SR.one (sz := 1) (enc := vEnc) v (heap_alloc_new wr _) rfl _ (by omega))
              have HB2 : Hid (Below w.heap.size w (wr.alloc (.cells #[.int .u32 (v : Int)] 26))) := Lib.hid (HB.out.alloc HB.out.size _)
              have hlb := HLen.out
              go_wp2_with (at_builtin
                           refine wpList_append_sr _ rfl (.tmp 47) (.tmp 49) v_ety rfl w.heap.size (.slice A2 l.length c2) l rfl HO2.out (wr.heap.size + 1) (some ⟨wr.heap.size, 0, none⟩) 1 1 [v] rfl rfl HV2.out (by simp [maxLen]; omega) (by simp; omega) HB2.out.size ?_
                           intro Q2 q2 w8 hown hg _
                           have HB8 := Lib.hid (HB2.out.grown hg HB2.out.size (fun r hr => (HO2.out.lt r hr).1))
                           have HO8 := Lib.hid hown
                           clear hown hg HO2 HV2 HB2)
              go_roundw
              case rel => exact ⟨i + 1, Q2, q2, by go_num, by omega, by rw [HR.out]; simp, Lib.hid (by rw [HR.out, List.length_append]; exact HO8.out), HB8⟩
              case measure => simp [intOf]; omega
      · have i5 : (i : Int) % 2 = 0 := by omega
        have HEnd : Hid (endAt E i = (E[i / 2]).tail) := Lib.hid (by unfold endAt; rw [if_neg hm, HG.out])
        clear HG hm
        generalize (E[i / 2]).head = hd at *
        generalize (E[i / 2]).tail = v at *
        generalize i / 2 = q at *
        go_wp2_with fail
        go_loopw [6, 7] (fun vb vk wr' => ∃ k : Nat, vk = .int .i64 k ∧ k ≤ l.length ∧ vb = .bool (inB (l.take k) v) ∧ wr' = wr) (fun _ vk _ => l.length - (intOf vk).toNat)
        case atStart => exact ⟨0, rfl, by omega, rfl, rfl⟩
        case round =>
          obtain ⟨k, rfl, hk, rfl, rfl⟩ := hrel
          by_cases hkl : k < l.length
          · obtain ⟨p, s, hA, _, e0⟩ := VLs.at' HVl.out k hkl
            have HStp := Lib.hid (inB_step (v := v) hkl)
            subst hA
            have j1 : (k : Int) < (l.length : Int) := by omega
            have j2 : (0 : Int) ≤ (k : Int) := by omega
            generalize hbk : inB (l.take k) v = bk at *
            generalize hbk2 : inB (l.take (k + 1)) v = bk2 at *
            have HBk2 := Lib.hid hbk2
            clear hbk hbk2
            cases bk with
            | true =>
              have HR : Hid (bk2 = true) := Lib.hid (by rw [HStp.out, Bool.true_or])
              go_wp2_with fail
              go_roundw
              case rel => exact ⟨k + 1, by go_num, by omega, by rw [HBk2.out, HR.out], by first | rfl | trivial⟩
              case measure => simp [intOf]; omega
            | false =>
              by_cases hv : l[k] = v
              · have g1 : ((l[k] : Int) == (v : Int)) = true := by rw [hv]; exact beq_self_eq_true _
                have HR : Hid (bk2 = true) := Lib.hid (by rw [HStp.out, Bool.false_or, beq_iff_eq]; exact hv)
                clear hv
                generalize l[k] = u at *
                go_wp2_with fail
                go_roundw
                case rel => exact ⟨k + 1, by go_num, by omega, by rw [HBk2.out, HR.out], by first | rfl | trivial⟩
                case measure => simp [intOf]; omega
              · have g1 : ((l[k] : Int) == (v : Int)) = false := by rw [beq_eq_false_iff_ne]; omega
                have HR : Hid (bk2 = false) := Lib.hid (by rw [HStp.out, Bool.false_or, beq_eq_false_iff_ne]; exact hv)
                clear hv
                generalize l[k] = u at *
                go_wp2_with fail
                go_roundw
                case rel => exact ⟨k + 1, by go_num, by omega, by rw [HBk2.out, HR.out], by first | rfl | trivial⟩
                case measure => simp [intOf]; omega
          · have j1 : ¬ (k : Int) < (l.length : Int) := by omega
            have hke : k = l.length := by omega
            subst hke
            rw [List.take_length]
            generalize hin : inB l v = bin at *
            cases bin with
            | true =>
              have HR : Hid (vertsTo E (i + 1) = l) := Lib.hid (by show addV (vertsTo E i) (endAt E i) = l; rw [HL.out, HEnd.out]; unfold addV; rw [hin, if_pos rfl])
              clear hin
              go_wp2_with fail
              go_roundw
              case rel => exact ⟨i + 1, A2, c2, by go_num, by omega, by rw [HR.out], Lib.hid (by rw [HR.out]; exact HO.out), HB⟩
              case measure => simp [intOf]; omega
            | false =>
              have HR : Hid (vertsTo E (i + 1) = l ++ [v]) := Lib.hid (by show addV (vertsTo E i) (endAt E i) = _; rw [HL.out, HEnd.out]; unfold addV; rw [hin, if_neg Bool.false_ne_true])
              clear hin
              have HO2 : Hid (OwnV (wr.alloc (.cells #[.int .u32 (v : Int)] 26)) w.heap.size (.slice A2 l.length c2) l) := Lib.hid (HO.out.alloc _)
              have HV2 : Hid (VLs (wr.heap.size + 1) (wr.alloc (.cells #[.int .u32 (v : Int)] 26)) (some ⟨wr.heap.size, 0, none⟩) [v]) := Lib.hid (SR.one (sz := 1) (enc := vEnc) v (heap_alloc_new wr _) rfl _ (by omega))
              have HB2 : Hid (Below w.heap.size w (wr.alloc (.cells #[.int .u32 (v : Int)] 26))) := Lib.hid (HB.out.alloc HB.out.size _)
              have hlb := HLen.out
              go_wp2_with (at_builtin
                           refine wpList_append_sr _ rfl (.tmp 47) (.tmp 49) v_ety rfl w.heap.size (.slice A2 l.length c2) l rfl HO2.out (wr.heap.size + 1) (some ⟨wr.heap.size, 0, none⟩) 1 1 [v] rfl rfl HV2.out (by simp [maxLen]; omega) (by simp; omega) HB2.out.size ?_
                           intro Q2 q2 w8 hown hg _
                           have HB8 := Lib.hid (HB2.out.grown hg HB2.out.size (fun r hr => (HO2.out.lt r hr).1))
                           have HO8 := Lib.hid hown
                           clear hown hg HO2 HV2 HB2)
              go_roundw
              case rel => exact ⟨i + 1, Q2, q2, by go_num, by omega, by rw [HR.out]; simp, Lib.hid (by rw [HR.out, List.length_append]; exact HO8.out), HB8⟩
              case measure => simp [intOf]; omega
    · have i1 : ¬ (i : Int) < 2 * (E.length : Int) := by omega
      have hie : i = 2 * E.length := by omega
      subst hie
      go_wp2_with fail
      go_ret
      exact ⟨A2, c2, rfl, HO.out, HB.out⟩
end Go.Proofs.Ytiiaeddbeohplaa
