/- The reference's search: a vertex is come to. -/
import Derived.Test.YtiiaeddbeohplaaRf
import Derived.OwnWalk
namespace Go.Proofs.Ytiiaeddbeohplaa
open Go.RowKit
theorem flat_set1 {α : Type} {sz : Nat} {enc : α → List Value} (hlen : ∀ x, (enc x).length = sz) (x : α) (j : Nat) (u : Value) (hj : j < sz) : ∀ (l : List α) (i : Nat) (hi : i < l.length), enc x = (enc l[i]).set j u → (l.set i x).flatMap enc = (l.flatMap enc).set (i * sz + j) u
  | [], i, hi, _ => by simp at hi
  | y :: l, 0, _, h => by
    simp only [List.getElem_cons_zero] at h
    rw [List.set_cons_zero, List.flatMap_cons, List.flatMap_cons, h, List.set_append, Nat.zero_mul, Nat.zero_add, if_pos (by rw [hlen]; exact hj)]
  | y :: l, i + 1, hi, h => by
    have h' : enc x = (enc (l[i]'(by simpa using hi))).set j u := by simpa using h
    rw [List.set_cons_succ, List.flatMap_cons, List.flatMap_cons, List.set_append, if_neg (by rw [hlen, Nat.succ_mul]; omega), flat_set1 hlen x j u hj l i (by simpa using hi) h', hlen]
    congr 2
    rw [Nat.succ_mul]; omega
/-- one cell of a row that is owned is written -/
theorem OwnS.put {α : Type} {sz : Nat} {enc : α → List Value} {w : World} {base g n c : Nat} {e : TypeId} {l : List α} (hlen : ∀ x, (enc x).length = sz) (h : OwnS w base e sz enc (.slice (some ⟨g, 0, none⟩) n c) l) (hn : n = l.length) (i j : Nat) (hi : i < l.length) (hj : j < sz) (x : α) (u : Value) (hx : enc x = (enc l[i]).set j u) :
    OwnS (w.setCell ⟨g, i * sz + j, none⟩ u) base e sz enc (.slice (some ⟨g, 0, none⟩) n c) (l.set i x) ∧ w.grownBy (w.setCell ⟨g, i * sz + j, none⟩ u) (some g) := by
  subst hn
  unfold OwnS at *
  obtain ⟨h1, h2⟩ := h.stored (i * sz + j) u
  rw [List.length_set, flat_set1 hlen x j u hj l i hi hx]
  exact ⟨h1, h2⟩
theorem OwnS.zero {α : Type} {sz : Nat} {enc : α → List Value} {w : World} {base b o n c : Nat} {e : TypeId} {l : List α} (h : OwnS w base e sz enc (.slice (some ⟨b, o, none⟩) n c) l) : o = 0 := by
  rcases h.2 with ⟨hv, _⟩ | ⟨g, cap, cur, hv, _⟩
  · cases hv
  · injection hv with e1 _ _; injection e1 with e1; injection e1
theorem OwnS.frozen {α : Type} {sz : Nat} {enc : α → List Value} {w : World} {base b o n c : Nat} {e : TypeId} {l : List α} (h : OwnS w base e sz enc (.slice (some ⟨b, o, none⟩) n c) l) (k : Nat) : w.frozen? ⟨b, k, none⟩ = false := by
  rcases h.2 with ⟨hv, _⟩ | ⟨g, cap, cur, hv, _, hh, _⟩
  · cases hv
  · injection hv with e1 _ _
    injection e1 with e1
    injection e1 with e1 _
    subst e1
    exact frozen_of_row _ _ _ _ _ hh
theorem whereIs_stay {l : List Rch} {v n i : Nat} (h : whereIs l v n = some i) : ∀ m, n ≤ m → whereIs l v m = some i := by
  intro m hm
  induction m with
  | zero => have : n = 0 := by omega
            subst this; exact h
  | succ m ih =>
    by_cases e : n = m + 1
    · subst e; exact h
    · unfold whereIs; rw [ih (by omega)]
theorem whereIs_hit {l : List Rch} {v i : Nat} (h : whereIs l v i = none) (hv : (rg l i).v = v) (hi : i < l.length) : whereIs l v l.length = some i :=
  whereIs_stay (n := i + 1) (by unfold whereIs; rw [h]; exact if_pos hv) _ (by omega)
theorem whereIs_miss {l : List Rch} {v i : Nat} (h : whereIs l v i = none) (hv : (rg l i).v ≠ v) : whereIs l v (i + 1) = none := by
  unfold whereIs; rw [h]; exact if_neg hv
theorem comeL_new {l : List Rch} {v d : Nat} (h : whereIs l v l.length = none) : comeL l v d = l ++ [⟨v, d, false⟩] := by unfold comeL; rw [h]
theorem comeL_near {l : List Rch} {v d i : Nat} (h : whereIs l v l.length = some i) (h1 : (rg l i).done = false) (h2 : d < (rg l i).dist) : comeL l v d = l.set i ⟨(rg l i).v, d, (rg l i).done⟩ := by unfold comeL; rw [h]; exact if_pos ⟨h1, h2⟩
theorem comeL_old {l : List Rch} {v d i : Nat} (h : whereIs l v l.length = some i) (h1 : ¬ ((rg l i).done = false ∧ d < (rg l i).dist)) : comeL l v d = l := by unfold comeL; rw [h]; exact if_neg h1
theorem reach_info : (Try.prog.info? 99).map (fun i => (i.zero, i.size, i.bytes)) = some (some (.agg #[.int .u32 0, .int .u64 0, .bool false]), 3, 24) := by kernel_rfl
theorem reach_ety : Ety Try.prog 100 99 3 24 Rch.enc := by
  obtain ⟨i, hi, hz, hs, hb⟩ := info_parts reach_info
  exact ⟨Try.underlying100, ⟨i, _, hi, hz, hs, hb, rfl⟩, by omega, fun _ => rfl, fun x u hu => by simp [Rch.enc] at hu; rcases hu with rfl | rfl | rfl <;> rfl⟩
theorem own_rls {w : World} {base : Nat} {A : Option Addr} {n c : Nat} {l : List Rch} (h : OwnS w base 99 3 Rch.enc (.slice A n c) l) (hm : l.length ≤ 4611686018427387904) : RLs w.heap.size w A l := OwnS.sr (fun _ => rfl) h hm
set_option maxRecDepth 100000 in
set_option maxHeartbeats 4000000 in
theorem come_ref (base : Nat) (A : Option Addr) (l : List Rch) (c v d : Nat) (w : World) (h : OwnS w base 99 3 Rch.enc (.slice A l.length c) l) (hb : base ≤ w.heap.size) (hl : l.length ≤ 10000) :
    Calls Try.prog 55 #[.slice A l.length c, .int .u32 (v : Int), .int .u64 (d : Int)] w fun e w' => ∃ A' c', e = .returned (.slice A' (comeL l v d).length c') ∧ OwnS w' base 99 3 Rch.enc (.slice A' (comeL l v d).length c') (comeL l v d) ∧ w.grownBy w' (Value.slice A l.length c).ownBlock := by
  have HS := Lib.hid (own_rls h (by omega))
  have HO := Lib.hid h
  have HBs := Lib.hid hb
  clear h hb
  go_enter Try.func55, Try.ntmps55
  go_wp2_with fail
  go_loopw [7] (fun vi wr => ∃ i : Nat, vi = .int .i64 i ∧ i ≤ l.length ∧ Hid (whereIs l v i = none) ∧ wr = w) (fun vi _ => l.length - (intOf vi).toNat)
  case atStart => exact ⟨0, rfl, by omega, Lib.hid rfl, rfl⟩
  case round =>
    obtain ⟨i, rfl, hi, HWi, rfl⟩ := hrel
    by_cases hlt : i < l.length
    · obtain ⟨b, o, hA, hb, c0, c1, c2⟩ := HS.out.at' i hlt
      subst hA
      have i1 : (i : Int) < (l.length : Int) := by omega
      have i2 : (0 : Int) ≤ (i : Int) := by omega
      by_cases hv : (rg l i).v = v
      · have HWh := Lib.hid (whereIs_hit HWi.out hv hlt)
        have g1 : (((rg l i).v : Int) == (v : Int)) = true := by rw [hv]; exact beq_self_eq_true _
        cases hd : (rg l i).done with
        | true =>
          rw [hd] at c2
          have HC := Lib.hid (comeL_old (d := d) HWh.out (by rw [hd]; simp))
          clear hd hv
          go_wp2_with fail
          go_ret
          refine ⟨some ⟨b, o, none⟩, c, by rw [HC.out]; rfl, by rw [HC.out]; exact HO.out, World.grownBy.refl wr _⟩
        | false =>
          rw [hd] at c2
          by_cases h1 : d < (rg l i).dist
          · have HC := Lib.hid (comeL_near HWh.out hd h1)
            have g2 : decide (d < (rg l i).dist) = true := by rw [decide_eq_true_iff]; exact h1
            have g3 : (d : Int) < ((rg l i).dist : Int) := by omega
            have HZ := Lib.hid HO.out.zero
            have fz : wr.frozen? ⟨b, o + i * 3 + 1, none⟩ = false := HO.out.frozen _
            have HPut : Hid (OwnS (wr.setCell ⟨b, o + i * 3 + 1, none⟩ (.int .u64 (d : Int))) base 99 3 Rch.enc (.slice (some ⟨b, o, none⟩) l.length c) (comeL l v d) ∧ wr.grownBy (wr.setCell ⟨b, o + i * 3 + 1, none⟩ (.int .u64 (d : Int))) (some b)) := Lib.hid (by
              rw [HC.out]
              have hO := HO.out
              have ho := HZ.out
              subst ho
              rw [Nat.zero_add]
              exact OwnS.put (sz := 3) (enc := Rch.enc) (fun _ => rfl) hO rfl i 1 hlt (by omega) _ _ (by rw [← rg_eq hlt]; rfl))
            have HLn : Hid ((comeL l v d).length = l.length) := Lib.hid (by rw [HC.out]; simp)
            clear hd h1 hv
            generalize (rg l i).v = xv at *
            generalize (rg l i).dist = xd at *
            go_wp2_with fail
            go_ret
            refine ⟨some ⟨b, o, none⟩, c, by rw [HLn.out]; rfl, by rw [HLn.out]; exact HPut.out.1, HPut.out.2⟩
          · have g2 : decide (d < (rg l i).dist) = false := by rw [decide_eq_false_iff_not]; exact h1
            have g3 : ¬ (d : Int) < ((rg l i).dist : Int) := by omega
            have HC := Lib.hid (comeL_old (d := d) HWh.out (fun e => h1 e.2))
            clear hd hv h1
            go_wp2_with fail
            go_ret
            refine ⟨some ⟨b, o, none⟩, c, by rw [HC.out]; rfl, by rw [HC.out]; exact HO.out, World.grownBy.refl wr _⟩
      · have HWn := Lib.hid (whereIs_miss HWi.out hv)
        have g1 : (((rg l i).v : Int) == (v : Int)) = false := by rw [beq_eq_false_iff_ne]; omega
        clear hv
        generalize (rg l i).v = xv at *
        generalize (rg l i).dist = xd at *
        generalize (rg l i).done = xb at *
        go_wp2_with fail
        go_roundw
        case rel => exact ⟨i + 1, by go_num, by omega, HWn, by first | rfl | trivial⟩
        case measure => simp [intOf]; omega
    · have i1 : ¬ (i : Int) < (l.length : Int) := by omega
      have hie : i = l.length := by omega
      subst hie
      have HC := Lib.hid (comeL_new (d := d) HWi.out)
      have HO2 : Hid (OwnS (wr.alloc (.cells #[.int .u32 (v : Int), .int .u64 (d : Int), .bool false] 99)) base 99 3 Rch.enc (.slice A l.length c) l) := HO.out.alloc _
      have HS2 : Hid (RLs (wr.heap.size + 1) (wr.alloc (.cells #[.int .u32 (v : Int), .int .u64 (d : Int), .bool false] 99)) (some ⟨wr.heap.size, 0, none⟩) [⟨v, d, false⟩]) := SR.one (enc := Rch.enc) ⟨v, d, false⟩ (heap_alloc_new wr _) rfl _ (by omega)
      have HB2 : Hid (base ≤ (wr.alloc (.cells #[.int .u32 (v : Int), .int .u64 (d : Int), .bool false] 99)).heap.size) := Lib.hid (by have := HBs.out; simp; omega)
      clear HS HO HBs
      go_wp2_with (at_builtin; refine wpList_append_sr _ rfl (.tmp 42) (.tmp 46) reach_ety rfl base (.slice A l.length c) l rfl HO2.out (wr.heap.size + 1) (some ⟨wr.heap.size, 0, none⟩) 1 1 [⟨v, d, false⟩] rfl rfl HS2.out (by simp [maxLen]; omega) (by simp; omega) HB2.out ?_; intro Q2 q2 w8 hown hg _)
      go_ret
      have hl1 : l.length + [(⟨v, d, false⟩ : Rch)].length = (comeL l v d).length := by rw [HC.out]; simp
      rw [hl1, ← HC.out] at hown
      refine ⟨Q2, q2, by rw [← hl1]; rfl, hown, (World.grownBy_alloc _ _ _).trans hg⟩
end Go.Proofs.Ytiiaeddbeohplaa
