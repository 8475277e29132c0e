/- The contract of up: an item rises. -/
import Derived.Test.YtpnmfhcmodoeiaaHs
import Derived.Deep.RegionHeld3
import Derived.BigRegion
namespace Go.Proofs.Ytpnmfhcmodoeiaa
open Go.RowKit
theorem held_next {H g c k p o : Nat} {m : List Itm} {x y : Itm} {wr w2 w3 : World} (h : (fun w' => w'.cell? ⟨H, 0, none⟩ = some (.slice (some ⟨g, o, none⟩) m.length c) ∧ w'.cell? ⟨H, 1, none⟩ = some (.func (.func 36) #[] #[]) ∧ w'.cell? ⟨g, o + k * 2, none⟩ = some (.int .u64 (x.key : Int)) ∧ w'.cell? ⟨g, o + k * 2 + 1, none⟩ = some (.int .u32 (x.id : Int)) ∧ w'.cell? ⟨g, o + p * 2, none⟩ = some (.int .u64 (y.key : Int)) ∧ w'.cell? ⟨g, o + p * 2 + 1, none⟩ = some (.int .u32 (y.id : Int)) ∧ Below wr.heap.size wr w') w2) (hb : Below w2.heap.size w2 w3) : (fun w' => w'.cell? ⟨H, 0, none⟩ = some (.slice (some ⟨g, o, none⟩) m.length c) ∧ w'.cell? ⟨H, 1, none⟩ = some (.func (.func 36) #[] #[]) ∧ w'.cell? ⟨g, o + k * 2, none⟩ = some (.int .u64 (x.key : Int)) ∧ w'.cell? ⟨g, o + k * 2 + 1, none⟩ = some (.int .u32 (x.id : Int)) ∧ w'.cell? ⟨g, o + p * 2, none⟩ = some (.int .u64 (y.key : Int)) ∧ w'.cell? ⟨g, o + p * 2 + 1, none⟩ = some (.int .u32 (y.id : Int)) ∧ Below wr.heap.size wr w') w3 := by
  obtain ⟨a0, a1, b0, b1, c0, c1, hB⟩ := h
  have hH := World.block_lt_of_cell? w2 _ a0
  have hg := World.block_lt_of_cell? w2 _ b0
  have e1 := fun k => hb.cell (p := ⟨H, k, none⟩) hH
  have e2 := fun k => hb.cell (p := ⟨g, k, none⟩) hg
  exact ⟨(e1 _).trans a0, (e1 _).trans a1, (e2 _).trans b0, (e2 _).trans b1, (e2 _).trans c0, (e2 _).trans c1, hB.trans (hb.mono hB.size)⟩
theorem held_drew {H g c k p o : Nat} {m : List Itm} {x y : Itm} {wr w2 : World} (h : (fun w' => w'.cell? ⟨H, 0, none⟩ = some (.slice (some ⟨g, o, none⟩) m.length c) ∧ w'.cell? ⟨H, 1, none⟩ = some (.func (.func 36) #[] #[]) ∧ w'.cell? ⟨g, o + k * 2, none⟩ = some (.int .u64 (x.key : Int)) ∧ w'.cell? ⟨g, o + k * 2 + 1, none⟩ = some (.int .u32 (x.id : Int)) ∧ w'.cell? ⟨g, o + p * 2, none⟩ = some (.int .u64 (y.key : Int)) ∧ w'.cell? ⟨g, o + p * 2 + 1, none⟩ = some (.int .u32 (y.id : Int)) ∧ Below wr.heap.size wr w') w2) : (fun w' => w'.cell? ⟨H, 0, none⟩ = some (.slice (some ⟨g, o, none⟩) m.length c) ∧ w'.cell? ⟨H, 1, none⟩ = some (.func (.func 36) #[] #[]) ∧ w'.cell? ⟨g, o + k * 2, none⟩ = some (.int .u64 (x.key : Int)) ∧ w'.cell? ⟨g, o + k * 2 + 1, none⟩ = some (.int .u32 (x.id : Int)) ∧ w'.cell? ⟨g, o + p * 2, none⟩ = some (.int .u64 (y.key : Int)) ∧ w'.cell? ⟨g, o + p * 2 + 1, none⟩ = some (.int .u32 (y.id : Int)) ∧ Below wr.heap.size wr w') w2.drew := held_next h (below_drewN (Below.refl _ _) 1)
theorem held_below {H g c k p o : Nat} {m : List Itm} {x y : Itm} {wr w2 : World} (h : (fun w' => w'.cell? ⟨H, 0, none⟩ = some (.slice (some ⟨g, o, none⟩) m.length c) ∧ w'.cell? ⟨H, 1, none⟩ = some (.func (.func 36) #[] #[]) ∧ w'.cell? ⟨g, o + k * 2, none⟩ = some (.int .u64 (x.key : Int)) ∧ w'.cell? ⟨g, o + k * 2 + 1, none⟩ = some (.int .u32 (x.id : Int)) ∧ w'.cell? ⟨g, o + p * 2, none⟩ = some (.int .u64 (y.key : Int)) ∧ w'.cell? ⟨g, o + p * 2 + 1, none⟩ = some (.int .u32 (y.id : Int)) ∧ Below wr.heap.size wr w') w2) : Below wr.heap.size wr w2 := h.2.2.2.2.2.2

set_option maxHeartbeats 4000000 in
theorem up_any (H g c : Nat) (l : List Itm) (i : Nat) (w : World) (h : HAt H g c w l) (hi : i < l.length) (hl : l.length ≤ 65536) :
    Calls Try.prog 47 #[.pointer (some ⟨H, 0, none⟩), .int .i64 (i : Int)] w fun e w' => e = .returned (.tuple #[]) ∧ Turn g w w' ∧ HAt H g c w' (upF i l i) := by
  have H0 := Lib.hid h
  clear h
  go_enter Try.func47, Try.ntmps47
  go_wp2_with fail
  go_loopw [1] (fun vi wr => ∃ (k f : Nat) (m : List Itm), vi = .int .i64 k ∧ k ≤ f ∧ k < m.length ∧ Hid (m.length = l.length) ∧ Hid (upF i l i = upF f m k) ∧ Hid (HAt H g c wr m) ∧ Hid (Turn g w wr)) (fun vi _ => (intOf vi).toNat)
  case atStart => exact ⟨i, i, l, rfl, Nat.le_refl _, hi, rfl, rfl, H0, Turn.refl _ _⟩
  case round =>
    obtain ⟨k, f, m, rfl, hkf, hk, hm, HU, HA, HT⟩ := hrel
    by_cases h0 : k = 0
    · have HE := Lib.hid (show upF f m k = m by rw [h0]; cases f <;> simp [upF])
      have e0 : ¬ (0 : Int) < (k : Int) := by omega
      clear h0
      go_wp2_with fail
      go_end0
      exact ⟨rfl, HT.out, by rw [HU.out, HE.out]; exact HA.out⟩
    · obtain ⟨f, rfl⟩ : ∃ f', f = f' + 1 := ⟨f - 1, by omega⟩
      obtain ⟨p, hp⟩ : ∃ p, p = par k := ⟨_, rfl⟩
      have hpk : p < k := by subst hp; unfold par; omega
      have e1 : ((k : Int) - 1) / 2 = (p : Int) := by subst hp; unfold par; omega
      have e2 : ((k : Int) - 1).tdiv 2 = (p : Int) := by rw [Int.tdiv_eq_ediv_of_nonneg (by omega)]; exact e1
      have e0 : (0 : Int) < (k : Int) := by omega
      obtain ⟨o, ho⟩ : ∃ o : Nat, o = 0 := ⟨_, rfl⟩
      obtain ⟨c0, c1, z0, z1⟩ := its_at ho HA.out.own k hk
      obtain ⟨d0, d1, y0, y1⟩ := its_at ho HA.out.own p (by omega)
      have a0 : wr.cell? ⟨H, 0, none⟩ = some (.slice (some ⟨g, o, none⟩) m.length c) := by rw [ho]; exact cell_of_row _ _ 0 _ _ _ HA.out.row
      have a1 : wr.cell? ⟨H, 1, none⟩ = some (.func (.func 36) #[] #[]) := cell_of_row _ _ 1 _ _ _ HA.out.row
      have HL := Lib.hid (fun W => less_any (gt m k) (gt m p) W)
      have HU2 := Lib.hid (show upF (f + 1) m k = if ltB (gt m k) (gt m p) = true then upF f (swq m k p) p else m by rw [upF, if_neg h0, ← hp])
      have HP := Lib.hid hp
      have HO := Lib.hid ho
      clear h0 hp ho
      generalize hx : gt m k = x at *
      generalize hy : gt m p = y at *
      have HX := Lib.hid hx
      have HY := Lib.hid hy
      clear hx hy
      have hpm : p < m.length := by omega
      have hkb : k ≤ 65536 := by have := hm.out; omega
      have n1 : (0 : Int) ≤ (k : Int) := by omega
      have n2 : (k : Int) < (m.length : Int) := by omega
      have n3 : (0 : Int) ≤ (p : Int) := by omega
      have n4 : (p : Int) < (m.length : Int) := by omega
      cases hlt : ltB x y with
      | false =>
        rw [hlt] at HL HU2
        clear hlt
        dsimp only [Itm.agg] at HL
        go_wp2_with fail
        have hS : (fun w' => w'.cell? ⟨H, 0, none⟩ = some (.slice (some ⟨g, o, none⟩) m.length c) ∧ w'.cell? ⟨H, 1, none⟩ = some (.func (.func 36) #[] #[]) ∧ w'.cell? ⟨g, o + k * 2, none⟩ = some (.int .u64 (x.key : Int)) ∧ w'.cell? ⟨g, o + k * 2 + 1, none⟩ = some (.int .u32 (x.id : Int)) ∧ w'.cell? ⟨g, o + p * 2, none⟩ = some (.int .u64 (y.key : Int)) ∧ w'.cell? ⟨g, o + p * 2 + 1, none⟩ = some (.int .u32 (y.id : Int)) ∧ Below wr.heap.size wr w') wr := ⟨a0, a1, c0, c1, d0, d1, Below.refl _ _⟩
        go_region_held3 (fun w' => w'.cell? ⟨H, 0, none⟩ = some (.slice (some ⟨g, o, none⟩) m.length c) ∧ w'.cell? ⟨H, 1, none⟩ = some (.func (.func 36) #[] #[]) ∧ w'.cell? ⟨g, o + k * 2, none⟩ = some (.int .u64 (x.key : Int)) ∧ w'.cell? ⟨g, o + k * 2 + 1, none⟩ = some (.int .u32 (x.id : Int)) ∧ w'.cell? ⟨g, o + p * 2, none⟩ = some (.int .u64 (y.key : Int)) ∧ w'.cell? ⟨g, o + p * 2 + 1, none⟩ = some (.int .u32 (y.id : Int)) ∧ Below wr.heap.size wr w') (first | exact held_drew hS | exact held_next (by assumption) (by assumption))
          (first | (go_at_call 36; (with_reducible refine (HL.out _).mono ?_); rintro e w' ⟨rfl, hb⟩))
        have HB := Lib.hid (held_below (by assumption : (fun w' => w'.cell? ⟨H, 0, none⟩ = some (.slice (some ⟨g, o, none⟩) m.length c) ∧ w'.cell? ⟨H, 1, none⟩ = some (.func (.func 36) #[] #[]) ∧ w'.cell? ⟨g, o + k * 2, none⟩ = some (.int .u64 (x.key : Int)) ∧ w'.cell? ⟨g, o + k * 2 + 1, none⟩ = some (.int .u32 (x.id : Int)) ∧ w'.cell? ⟨g, o + p * 2, none⟩ = some (.int .u64 (y.key : Int)) ∧ w'.cell? ⟨g, o + p * 2 + 1, none⟩ = some (.int .u32 (y.id : Int)) ∧ Below wr.heap.size wr w') w'))
        go_wp2_with fail
        refine bodyPost_ret (results_none rfl _ _ _) rfl ?_
        exact ⟨rfl, HT.out.below HB.out, by rw [HU.out, HU2.out]; exact HA.out.below HB.out⟩
      | true =>
        rw [hlt] at HL HU2
        clear hlt
        dsimp only [Itm.agg] at HL
        go_wp2_with fail
        have hS : (fun w' => w'.cell? ⟨H, 0, none⟩ = some (.slice (some ⟨g, o, none⟩) m.length c) ∧ w'.cell? ⟨H, 1, none⟩ = some (.func (.func 36) #[] #[]) ∧ w'.cell? ⟨g, o + k * 2, none⟩ = some (.int .u64 (x.key : Int)) ∧ w'.cell? ⟨g, o + k * 2 + 1, none⟩ = some (.int .u32 (x.id : Int)) ∧ w'.cell? ⟨g, o + p * 2, none⟩ = some (.int .u64 (y.key : Int)) ∧ w'.cell? ⟨g, o + p * 2 + 1, none⟩ = some (.int .u32 (y.id : Int)) ∧ Below wr.heap.size wr w') wr := ⟨a0, a1, c0, c1, d0, d1, Below.refl _ _⟩
        go_region_held3 (fun w' => w'.cell? ⟨H, 0, none⟩ = some (.slice (some ⟨g, o, none⟩) m.length c) ∧ w'.cell? ⟨H, 1, none⟩ = some (.func (.func 36) #[] #[]) ∧ w'.cell? ⟨g, o + k * 2, none⟩ = some (.int .u64 (x.key : Int)) ∧ w'.cell? ⟨g, o + k * 2 + 1, none⟩ = some (.int .u32 (x.id : Int)) ∧ w'.cell? ⟨g, o + p * 2, none⟩ = some (.int .u64 (y.key : Int)) ∧ w'.cell? ⟨g, o + p * 2 + 1, none⟩ = some (.int .u32 (y.id : Int)) ∧ Below wr.heap.size wr w') (first | exact held_drew hS | exact held_next (by assumption) (by assumption))
          (first | (go_at_call 36; (with_reducible refine (HL.out _).mono ?_); rintro e w' ⟨rfl, hb⟩))
        have HB := Lib.hid (held_below (by assumption : (fun w' => w'.cell? ⟨H, 0, none⟩ = some (.slice (some ⟨g, o, none⟩) m.length c) ∧ w'.cell? ⟨H, 1, none⟩ = some (.func (.func 36) #[] #[]) ∧ w'.cell? ⟨g, o + k * 2, none⟩ = some (.int .u64 (x.key : Int)) ∧ w'.cell? ⟨g, o + k * 2 + 1, none⟩ = some (.int .u32 (x.id : Int)) ∧ w'.cell? ⟨g, o + p * 2, none⟩ = some (.int .u64 (y.key : Int)) ∧ w'.cell? ⟨g, o + p * 2 + 1, none⟩ = some (.int .u32 (y.id : Int)) ∧ Below wr.heap.size wr w') w'))
        have hg := HA.out.lt
        have q0 := (HB.out.frozen (p := ⟨g, o + k * 2, none⟩) hg.2.1).trans z0
        have q1 := (HB.out.frozen (p := ⟨g, o + k * 2 + 1, none⟩) hg.2.1).trans z1
        have q2 := (HB.out.frozen (p := ⟨g, o + p * 2, none⟩) hg.2.1).trans y0
        have q3 := (HB.out.frozen (p := ⟨g, o + p * 2 + 1, none⟩) hg.2.1).trans y1
        obtain ⟨a0', a1', c0', c1', d0', d1', _⟩ := (by assumption : (fun w' => w'.cell? ⟨H, 0, none⟩ = some (.slice (some ⟨g, o, none⟩) m.length c) ∧ w'.cell? ⟨H, 1, none⟩ = some (.func (.func 36) #[] #[]) ∧ w'.cell? ⟨g, o + k * 2, none⟩ = some (.int .u64 (x.key : Int)) ∧ w'.cell? ⟨g, o + k * 2 + 1, none⟩ = some (.int .u32 (x.id : Int)) ∧ w'.cell? ⟨g, o + p * 2, none⟩ = some (.int .u64 (y.key : Int)) ∧ w'.cell? ⟨g, o + p * 2 + 1, none⟩ = some (.int .u32 (y.id : Int)) ∧ Below wr.heap.size wr w') w')
        clear a0 a1 c0 c1 d0 d1 z0 z1 y0 y1 hS hb hg
        go_wp2_with fail
        go_region
        have hA := (hat_swq_at HO.out (HA.out.below HB.out) hk hpm).below (below_drewN (Below.refl _ _) 1)
        have hT := (((((HT.out.below HB.out).set (i := o + k * 2) (.int .u64 (y.key : Int))).set (i := o + k * 2 + 1) (.int .u32 (y.id : Int))).set (i := o + p * 2) (.int .u64 (x.key : Int))).set (i := o + p * 2 + 1) (.int .u32 (x.id : Int))).below (below_drewN (Below.refl _ _) 1)
        rw [HX.out, HY.out] at hA
        have HA2 := Lib.hid hA
        have HT2 := Lib.hid hT
        clear hA hT a0' a1' c0' c1' d0' d1' q0 q1 q2 q3 HB HL
        have HUU := Lib.hid (HU.out.trans (HU2.out.trans (by first | exact if_pos rfl | exact if_pos trivial)))
        clear HU HU2
        obtain ⟨U, hU⟩ : ∃ U, ((((w'.setCell ⟨g, o + k * 2, none⟩ (.int .u64 (y.key : Int))).setCell ⟨g, o + k * 2 + 1, none⟩ (.int .u32 (y.id : Int))).setCell ⟨g, o + p * 2, none⟩ (.int .u64 (x.key : Int))).setCell ⟨g, o + p * 2 + 1, none⟩ (.int .u32 (x.id : Int))).drew = U := ⟨_, rfl⟩
        have HA3 : Hid (HAt H g c U (swq m k p)) := Lib.hid (by rw [← hU]; exact HA2.out)
        have HT3 : Hid (Turn g w U) := Lib.hid (by rw [← hU]; exact HT2.out)
        rw [hU]
        clear hU HA2 HT2
        go_wp2_with fail
        go_roundw
        case rel => exact ⟨p, f, swq m k p, rfl, by omega, by rw [swq_length]; exact hpm, Lib.hid (by rw [swq_length]; exact hm.out), HUU, HA3, HT3⟩
        case measure => simp [intOf]; omega
end Go.Proofs.Ytpnmfhcmodoeiaa
