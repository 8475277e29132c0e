/- The contract of down: an item sinks. -/
import Derived.Test.YtpnmfhcmodoeiaaHu
namespace Go.Proofs.Ytpnmfhcmodoeiaa
open Go.RowKit
theorem dn_end {f : Nat} {m : List Itm} {k : Nat} (h : m.length ≤ 2 * k + 1) : dnF (f + 1) m k = m := by rw [dnF, if_pos h]
theorem dn_go {f : Nat} {m : List Itm} {k r : Nat} (h : ¬ m.length ≤ 2 * k + 1) (hr : below m (2 * k + 1) = r) : dnF (f + 1) m k = if ltB (gt m r) (gt m k) = true then dnF f (swq m k r) r else m := by rw [dnF, if_neg h, hr]

-- facts of V: HAV : HAt .. V m, HTV : Turn g w V; r with hr, HRB : below m (2k+1) = r
set_option maxRecDepth 100000 in
set_option maxHeartbeats 8000000 in
theorem down_any (H g c : Nat) (l : List Itm) (i : Nat) (w : World) (h : HAt H g c w l) (hi : i < l.length) (hl : l.length ≤ 65536) :
    Calls Try.prog 48 #[.pointer (some ⟨H, 0, none⟩), .int .i64 (i : Int)] w fun e w' => e = .returned (.tuple #[]) ∧ Turn g w w' ∧ HAt H g c w' (dnF l.length l i) := by
  have H0 := Lib.hid h
  clear h
  go_enter Try.func48, Try.ntmps48
  go_wp2_with fail
  go_loopw [1] (fun vi wr => ∃ (k f : Nat) (m : List Itm), vi = .int .i64 k ∧ m.length ≤ f + k ∧ k < m.length ∧ Hid (m.length = l.length) ∧ Hid (dnF l.length l i = dnF f m k) ∧ Hid (HAt H g c wr m) ∧ Hid (Turn g w wr)) (fun vi _ => l.length - (intOf vi).toNat)
  case atStart => exact ⟨i, l.length, l, rfl, by omega, hi, rfl, rfl, H0, Turn.refl _ _⟩
  case round =>
    obtain ⟨k, f, m, rfl, hkf, hk, hm, HU, HA, HT⟩ := hrel
    obtain ⟨f, rfl⟩ : ∃ f', f = f' + 1 := ⟨f - 1, by omega⟩
    obtain ⟨o, ho⟩ : ∃ o : Nat, o = 0 := ⟨_, rfl⟩
    have HO := Lib.hid ho
    obtain ⟨b, hb0⟩ : ∃ b, b = 2 * k + 1 := ⟨_, rfl⟩
    have HBe := Lib.hid hb0
    have e1 : 2 * (k : Int) + 1 = (b : Int) := by omega
    have hml : m.length ≤ 65536 := by have := hm.out; omega
    have hbk : k < b := by omega
    have hkb : k ≤ 65536 := by omega
    have hbb : b ≤ 131073 := by omega
    have a0 : wr.cell? ⟨H, 0, none⟩ = some (.slice (some ⟨g, o, none⟩) m.length c) := by rw [ho]; exact cell_of_row _ _ 0 _ _ _ HA.out.row
    have a1 : wr.cell? ⟨H, 1, none⟩ = some (.func (.func 36) #[] #[]) := cell_of_row _ _ 1 _ _ _ HA.out.row
    clear ho hb0
    by_cases hlen : m.length ≤ b
    · have HE := Lib.hid (dn_end (f := f) (m := m) (k := k) (by rw [← HBe.out]; exact hlen))
      have e0 : (m.length : Int) ≤ (b : Int) := by omega
      go_wp2_with fail
      refine bodyPost_ret (results_none rfl _ _ _) rfl ?_
      exact ⟨rfl, HT.out, by rw [HU.out, HE.out]; exact HA.out⟩
    · have HNE := Lib.hid (show ¬ m.length ≤ 2 * k + 1 by rw [← HBe.out]; exact hlen)
      have e0 : ¬ (m.length : Int) ≤ (b : Int) := by omega
      have hbm : b < m.length := by omega
      by_cases hd : b + 1 < m.length
      · obtain ⟨d, hdd⟩ : ∃ d, d = b + 1 := ⟨_, rfl⟩
        have e2 : (b : Int) + 1 = (d : Int) := by omega
        have hdm : d < m.length := by omega
        have hdb : d ≤ 131073 := by omega
        have g0 : decide ((d : Int) < (m.length : Int)) = true := by rw [decide_eq_true_iff]; omega
        have e3 : IntKind.i64.wrap (d : Int) = (d : Int) := by rw [IntKind.wrap_i64]; omega
        have g3 : (d : Int) < (m.length : Int) := by omega
        have g4 : (b : Int) + 1 < (m.length : Int) := by omega
        have g1 : decide ((b : Int) + 1 < (m.length : Int)) = true := by rw [decide_eq_true_iff]; omega
        have g2 : decide (b + 1 < m.length) = true := by rw [decide_eq_true_iff]; exact hd
        have n1 : (0 : Int) ≤ (d : Int) := by omega
        have n3 : (0 : Int) ≤ (b : Int) := by omega
        have n4 : (b : Int) < (m.length : Int) := by omega
        obtain ⟨d0, d1, _, _⟩ := its_at HO.out HA.out.own d hdm
        obtain ⟨b0, b1, _, _⟩ := its_at HO.out HA.out.own b hbm
        have HRd := Lib.hid (show below m (2 * k + 1) = if ltB (gt m d) (gt m b) = true then d else b by rw [← HBe.out, hdd]; unfold below; simp only [hd, true_and])
        clear hd hlen hdd
        generalize hxd : gt m d = xd at *
        generalize hxb : gt m b = xb at *
        clear hxd hxb
        have HL := Lib.hid (fun W => less_any xd xb W)
        dsimp only [Itm.agg] at HL
        cases hlt : ltB xd xb with
        | false =>
          rw [hlt] at HL HRd
          have HRB0 := Lib.hid (HRd.out.trans (if_neg Bool.false_ne_true))
          clear hlt HRd
          go_wp2_with fail
          have hS : wr.cell? ⟨H, 0, none⟩ = some (.slice (some ⟨g, o, none⟩) m.length c) ∧ wr.cell? ⟨H, 1, none⟩ = some (.func (.func 36) #[] #[]) ∧ wr.cell? ⟨g, o + d * 2, none⟩ = some (.int .u64 (xd.key : Int)) ∧ wr.cell? ⟨g, o + d * 2 + 1, none⟩ = some (.int .u32 (xd.id : Int)) ∧ wr.cell? ⟨g, o + b * 2, none⟩ = some (.int .u64 (xb.key : Int)) ∧ wr.cell? ⟨g, o + b * 2 + 1, none⟩ = some (.int .u32 (xb.id : Int)) ∧ Below wr.heap.size wr wr := ⟨a0, a1, d0, d1, b0, b1, Below.refl _ _⟩
          go_region_held3 (fun w' => w'.cell? ⟨H, 0, none⟩ = some (.slice (some ⟨g, o, none⟩) m.length c) ∧ w'.cell? ⟨H, 1, none⟩ = some (.func (.func 36) #[] #[]) ∧ w'.cell? ⟨g, o + d * 2, none⟩ = some (.int .u64 (xd.key : Int)) ∧ w'.cell? ⟨g, o + d * 2 + 1, none⟩ = some (.int .u32 (xd.id : Int)) ∧ w'.cell? ⟨g, o + b * 2, none⟩ = some (.int .u64 (xb.key : Int)) ∧ w'.cell? ⟨g, o + b * 2 + 1, none⟩ = some (.int .u32 (xb.id : Int)) ∧ Below wr.heap.size wr w')
            (first | exact held_drew hS | exact held_next (by assumption) (by assumption))
            (first | (go_at_call 36; (with_reducible refine (HL.out _).mono ?_); rintro e V ⟨rfl, hb⟩))
          have HB1 := Lib.hid (held_below (by assumption : V.cell? ⟨H, 0, none⟩ = some (.slice (some ⟨g, o, none⟩) m.length c) ∧ V.cell? ⟨H, 1, none⟩ = some (.func (.func 36) #[] #[]) ∧ V.cell? ⟨g, o + d * 2, none⟩ = some (.int .u64 (xd.key : Int)) ∧ V.cell? ⟨g, o + d * 2 + 1, none⟩ = some (.int .u32 (xd.id : Int)) ∧ V.cell? ⟨g, o + b * 2, none⟩ = some (.int .u64 (xb.key : Int)) ∧ V.cell? ⟨g, o + b * 2 + 1, none⟩ = some (.int .u32 (xb.id : Int)) ∧ Below wr.heap.size wr V))
          have HAV : Hid (HAt H g c V m) := Lib.hid (HA.out.below HB1.out)
          have HTV : Hid (Turn g w V) := Lib.hid (HT.out.below HB1.out)
          clear hS hb HL HB1 d0 d1 b0 b1 a0 a1
          obtain ⟨r, hre⟩ : ∃ r, r = b := ⟨_, rfl⟩
          subst hre
          have HRB := HRB0
          have hr := hbm
          obtain ⟨r0, r1, _, _⟩ := its_at HO.out HAV.out.own r hr
          obtain ⟨k0, k1, _, _⟩ := its_at HO.out HAV.out.own k hk
          have a0 : V.cell? ⟨H, 0, none⟩ = some (.slice (some ⟨g, o, none⟩) m.length c) := by rw [HO.out]; exact cell_of_row _ _ 0 _ _ _ HAV.out.row
          have a1 : V.cell? ⟨H, 1, none⟩ = some (.func (.func 36) #[] #[]) := cell_of_row _ _ 1 _ _ _ HAV.out.row
          have HU2 := Lib.hid (dn_go (f := f) HNE.out HRB.out)
          generalize hxr : gt m r = xr at *
          generalize hxk : gt m k = xk at *
          have HXR := Lib.hid hxr
          have HXK := Lib.hid hxk
          clear hxr hxk
          have n1 : (0 : Int) ≤ (k : Int) := by omega
          have n2 : (k : Int) < (m.length : Int) := by omega
          have n3 : (0 : Int) ≤ (r : Int) := by omega
          have n4 : (r : Int) < (m.length : Int) := by omega
          -- the lesser one below, r, against the item itself
          have HL2 := Lib.hid (fun W => less_any xr xk W)
          dsimp only [Itm.agg] at HL2
          cases hlt : ltB xr xk with
          | false =>
            rw [hlt] at HL2 HU2
            clear hlt
            go_wp2_with fail
            have hS : V.cell? ⟨H, 0, none⟩ = some (.slice (some ⟨g, o, none⟩) m.length c) ∧ V.cell? ⟨H, 1, none⟩ = some (.func (.func 36) #[] #[]) ∧ V.cell? ⟨g, o + r * 2, none⟩ = some (.int .u64 (xr.key : Int)) ∧ V.cell? ⟨g, o + r * 2 + 1, none⟩ = some (.int .u32 (xr.id : Int)) ∧ V.cell? ⟨g, o + k * 2, none⟩ = some (.int .u64 (xk.key : Int)) ∧ V.cell? ⟨g, o + k * 2 + 1, none⟩ = some (.int .u32 (xk.id : Int)) ∧ Below V.heap.size V V := ⟨a0, a1, r0, r1, k0, k1, Below.refl _ _⟩
            go_region_held3 (fun w' => w'.cell? ⟨H, 0, none⟩ = some (.slice (some ⟨g, o, none⟩) m.length c) ∧ w'.cell? ⟨H, 1, none⟩ = some (.func (.func 36) #[] #[]) ∧ w'.cell? ⟨g, o + r * 2, none⟩ = some (.int .u64 (xr.key : Int)) ∧ w'.cell? ⟨g, o + r * 2 + 1, none⟩ = some (.int .u32 (xr.id : Int)) ∧ w'.cell? ⟨g, o + k * 2, none⟩ = some (.int .u64 (xk.key : Int)) ∧ w'.cell? ⟨g, o + k * 2 + 1, none⟩ = some (.int .u32 (xk.id : Int)) ∧ Below V.heap.size V w')
              (first | exact held_drew hS | exact held_next (by assumption) (by assumption))
              (first | (go_at_call 36; (with_reducible refine (HL2.out _).mono ?_); rintro e w' ⟨rfl, hb⟩))
            have HB := Lib.hid (held_below (by assumption : w'.cell? ⟨H, 0, none⟩ = some (.slice (some ⟨g, o, none⟩) m.length c) ∧ w'.cell? ⟨H, 1, none⟩ = some (.func (.func 36) #[] #[]) ∧ w'.cell? ⟨g, o + r * 2, none⟩ = some (.int .u64 (xr.key : Int)) ∧ w'.cell? ⟨g, o + r * 2 + 1, none⟩ = some (.int .u32 (xr.id : Int)) ∧ w'.cell? ⟨g, o + k * 2, none⟩ = some (.int .u64 (xk.key : Int)) ∧ w'.cell? ⟨g, o + k * 2 + 1, none⟩ = some (.int .u32 (xk.id : Int)) ∧ Below V.heap.size V w'))
            go_wp2_with fail
            refine bodyPost_ret (results_none rfl _ _ _) rfl ?_
            exact ⟨rfl, HTV.out.below HB.out, by rw [HU.out, HU2.out]; exact HAV.out.below HB.out⟩
          | true =>
            rw [hlt] at HL2 HU2
            clear hlt
            go_wp2_with fail
            have hS : V.cell? ⟨H, 0, none⟩ = some (.slice (some ⟨g, o, none⟩) m.length c) ∧ V.cell? ⟨H, 1, none⟩ = some (.func (.func 36) #[] #[]) ∧ V.cell? ⟨g, o + r * 2, none⟩ = some (.int .u64 (xr.key : Int)) ∧ V.cell? ⟨g, o + r * 2 + 1, none⟩ = some (.int .u32 (xr.id : Int)) ∧ V.cell? ⟨g, o + k * 2, none⟩ = some (.int .u64 (xk.key : Int)) ∧ V.cell? ⟨g, o + k * 2 + 1, none⟩ = some (.int .u32 (xk.id : Int)) ∧ Below V.heap.size V V := ⟨a0, a1, r0, r1, k0, k1, Below.refl _ _⟩
            go_region_held3 (fun w' => w'.cell? ⟨H, 0, none⟩ = some (.slice (some ⟨g, o, none⟩) m.length c) ∧ w'.cell? ⟨H, 1, none⟩ = some (.func (.func 36) #[] #[]) ∧ w'.cell? ⟨g, o + r * 2, none⟩ = some (.int .u64 (xr.key : Int)) ∧ w'.cell? ⟨g, o + r * 2 + 1, none⟩ = some (.int .u32 (xr.id : Int)) ∧ w'.cell? ⟨g, o + k * 2, none⟩ = some (.int .u64 (xk.key : Int)) ∧ w'.cell? ⟨g, o + k * 2 + 1, none⟩ = some (.int .u32 (xk.id : Int)) ∧ Below V.heap.size V w')
              (first | exact held_drew hS | exact held_next (by assumption) (by assumption))
              (first | (go_at_call 36; (with_reducible refine (HL2.out _).mono ?_); rintro e w' ⟨rfl, hb⟩))
            have HB := Lib.hid (held_below (by assumption : w'.cell? ⟨H, 0, none⟩ = some (.slice (some ⟨g, o, none⟩) m.length c) ∧ w'.cell? ⟨H, 1, none⟩ = some (.func (.func 36) #[] #[]) ∧ w'.cell? ⟨g, o + r * 2, none⟩ = some (.int .u64 (xr.key : Int)) ∧ w'.cell? ⟨g, o + r * 2 + 1, none⟩ = some (.int .u32 (xr.id : Int)) ∧ w'.cell? ⟨g, o + k * 2, none⟩ = some (.int .u64 (xk.key : Int)) ∧ w'.cell? ⟨g, o + k * 2 + 1, none⟩ = some (.int .u32 (xk.id : Int)) ∧ Below V.heap.size V w'))
            obtain ⟨a0', a1', c0', c1', d0', d1', _⟩ := (by assumption : w'.cell? ⟨H, 0, none⟩ = some (.slice (some ⟨g, o, none⟩) m.length c) ∧ w'.cell? ⟨H, 1, none⟩ = some (.func (.func 36) #[] #[]) ∧ w'.cell? ⟨g, o + r * 2, none⟩ = some (.int .u64 (xr.key : Int)) ∧ w'.cell? ⟨g, o + r * 2 + 1, none⟩ = some (.int .u32 (xr.id : Int)) ∧ w'.cell? ⟨g, o + k * 2, none⟩ = some (.int .u64 (xk.key : Int)) ∧ w'.cell? ⟨g, o + k * 2 + 1, none⟩ = some (.int .u32 (xk.id : Int)) ∧ Below V.heap.size V w')
            obtain ⟨_, _, q0, q1⟩ := its_at HO.out (HAV.out.below HB.out).own k hk
            obtain ⟨_, _, q2, q3⟩ := its_at HO.out (HAV.out.below HB.out).own r hr
            clear hS hb
            go_wp2_with fail
            go_region
            have hA := (hat_swq_at HO.out (HAV.out.below HB.out) hk hr).below (below_drewN (Below.refl _ _) 1)
            have hT := (((((HTV.out.below HB.out).set (i := o + k * 2) (.int .u64 (xr.key : Int))).set (i := o + k * 2 + 1) (.int .u32 (xr.id : Int))).set (i := o + r * 2) (.int .u64 (xk.key : Int))).set (i := o + r * 2 + 1) (.int .u32 (xk.id : Int))).below (below_drewN (Below.refl _ _) 1)
            rw [HXK.out, HXR.out] at hA
            have HA2 := Lib.hid hA
            have HT2 := Lib.hid hT
            clear hA hT a0' a1' c0' c1' d0' d1' q0 q1 q2 q3 HB HL2
            have HUU := Lib.hid (HU.out.trans (HU2.out.trans (by first | exact if_pos rfl | exact if_pos trivial)))
            clear HU HU2
            obtain ⟨U, hU⟩ : ∃ U, ((((w'.setCell ⟨g, o + k * 2, none⟩ (.int .u64 (xr.key : Int))).setCell ⟨g, o + k * 2 + 1, none⟩ (.int .u32 (xr.id : Int))).setCell ⟨g, o + r * 2, none⟩ (.int .u64 (xk.key : Int))).setCell ⟨g, o + r * 2 + 1, none⟩ (.int .u32 (xk.id : Int))).drew = U := ⟨_, rfl⟩
            have HA3 : Hid (HAt H g c U (swq m k r)) := Lib.hid (by rw [← hU]; exact HA2.out)
            have HT3 : Hid (Turn g w U) := Lib.hid (by rw [← hU]; exact HT2.out)
            rw [hU]
            clear hU HA2 HT2
            go_wp2_with fail
            go_roundw
            case rel => exact ⟨r, f, swq m k r, rfl, by rw [swq_length]; omega, by rw [swq_length]; exact hr, Lib.hid (by rw [swq_length]; exact hm.out), HUU, HA3, HT3⟩
            case measure => simp [intOf]; have := hm.out; omega
        | true =>
          rw [hlt] at HL HRd
          have HRB0 := Lib.hid (HRd.out.trans (if_pos rfl))
          clear hlt HRd
          go_wp2_with fail
          have hS : wr.cell? ⟨H, 0, none⟩ = some (.slice (some ⟨g, o, none⟩) m.length c) ∧ wr.cell? ⟨H, 1, none⟩ = some (.func (.func 36) #[] #[]) ∧ wr.cell? ⟨g, o + d * 2, none⟩ = some (.int .u64 (xd.key : Int)) ∧ wr.cell? ⟨g, o + d * 2 + 1, none⟩ = some (.int .u32 (xd.id : Int)) ∧ wr.cell? ⟨g, o + b * 2, none⟩ = some (.int .u64 (xb.key : Int)) ∧ wr.cell? ⟨g, o + b * 2 + 1, none⟩ = some (.int .u32 (xb.id : Int)) ∧ Below wr.heap.size wr wr := ⟨a0, a1, d0, d1, b0, b1, Below.refl _ _⟩
          go_region_held3 (fun w' => w'.cell? ⟨H, 0, none⟩ = some (.slice (some ⟨g, o, none⟩) m.length c) ∧ w'.cell? ⟨H, 1, none⟩ = some (.func (.func 36) #[] #[]) ∧ w'.cell? ⟨g, o + d * 2, none⟩ = some (.int .u64 (xd.key : Int)) ∧ w'.cell? ⟨g, o + d * 2 + 1, none⟩ = some (.int .u32 (xd.id : Int)) ∧ w'.cell? ⟨g, o + b * 2, none⟩ = some (.int .u64 (xb.key : Int)) ∧ w'.cell? ⟨g, o + b * 2 + 1, none⟩ = some (.int .u32 (xb.id : Int)) ∧ Below wr.heap.size wr w')
            (first | exact held_drew hS | exact held_next (by assumption) (by assumption))
            (first | (go_at_call 36; (with_reducible refine (HL.out _).mono ?_); rintro e V ⟨rfl, hb⟩))
          have HB1 := Lib.hid (held_below (by assumption : V.cell? ⟨H, 0, none⟩ = some (.slice (some ⟨g, o, none⟩) m.length c) ∧ V.cell? ⟨H, 1, none⟩ = some (.func (.func 36) #[] #[]) ∧ V.cell? ⟨g, o + d * 2, none⟩ = some (.int .u64 (xd.key : Int)) ∧ V.cell? ⟨g, o + d * 2 + 1, none⟩ = some (.int .u32 (xd.id : Int)) ∧ V.cell? ⟨g, o + b * 2, none⟩ = some (.int .u64 (xb.key : Int)) ∧ V.cell? ⟨g, o + b * 2 + 1, none⟩ = some (.int .u32 (xb.id : Int)) ∧ Below wr.heap.size wr V))
          have HAV : Hid (HAt H g c V m) := Lib.hid (HA.out.below HB1.out)
          have HTV : Hid (Turn g w V) := Lib.hid (HT.out.below HB1.out)
          clear hS hb HL HB1 d0 d1 b0 b1 a0 a1
          obtain ⟨r, hre⟩ : ∃ r, r = d := ⟨_, rfl⟩
          subst hre
          have HRB := HRB0
          have hr := hdm
          obtain ⟨r0, r1, _, _⟩ := its_at HO.out HAV.out.own r hr
          obtain ⟨k0, k1, _, _⟩ := its_at HO.out HAV.out.own k hk
          have a0 : V.cell? ⟨H, 0, none⟩ = some (.slice (some ⟨g, o, none⟩) m.length c) := by rw [HO.out]; exact cell_of_row _ _ 0 _ _ _ HAV.out.row
          have a1 : V.cell? ⟨H, 1, none⟩ = some (.func (.func 36) #[] #[]) := cell_of_row _ _ 1 _ _ _ HAV.out.row
          have HU2 := Lib.hid (dn_go (f := f) HNE.out HRB.out)
          generalize hxr : gt m r = xr at *
          generalize hxk : gt m k = xk at *
          have HXR := Lib.hid hxr
          have HXK := Lib.hid hxk
          clear hxr hxk
          have n1 : (0 : Int) ≤ (k : Int) := by omega
          have n2 : (k : Int) < (m.length : Int) := by omega
          have n3 : (0 : Int) ≤ (r : Int) := by omega
          have n4 : (r : Int) < (m.length : Int) := by omega
          -- the lesser one below, r, against the item itself
          have HL2 := Lib.hid (fun W => less_any xr xk W)
          dsimp only [Itm.agg] at HL2
          cases hlt : ltB xr xk with
          | false =>
            rw [hlt] at HL2 HU2
            clear hlt
            go_wp2_with fail
            have hS : V.cell? ⟨H, 0, none⟩ = some (.slice (some ⟨g, o, none⟩) m.length c) ∧ V.cell? ⟨H, 1, none⟩ = some (.func (.func 36) #[] #[]) ∧ V.cell? ⟨g, o + r * 2, none⟩ = some (.int .u64 (xr.key : Int)) ∧ V.cell? ⟨g, o + r * 2 + 1, none⟩ = some (.int .u32 (xr.id : Int)) ∧ V.cell? ⟨g, o + k * 2, none⟩ = some (.int .u64 (xk.key : Int)) ∧ V.cell? ⟨g, o + k * 2 + 1, none⟩ = some (.int .u32 (xk.id : Int)) ∧ Below V.heap.size V V := ⟨a0, a1, r0, r1, k0, k1, Below.refl _ _⟩
            go_region_held3 (fun w' => w'.cell? ⟨H, 0, none⟩ = some (.slice (some ⟨g, o, none⟩) m.length c) ∧ w'.cell? ⟨H, 1, none⟩ = some (.func (.func 36) #[] #[]) ∧ w'.cell? ⟨g, o + r * 2, none⟩ = some (.int .u64 (xr.key : Int)) ∧ w'.cell? ⟨g, o + r * 2 + 1, none⟩ = some (.int .u32 (xr.id : Int)) ∧ w'.cell? ⟨g, o + k * 2, none⟩ = some (.int .u64 (xk.key : Int)) ∧ w'.cell? ⟨g, o + k * 2 + 1, none⟩ = some (.int .u32 (xk.id : Int)) ∧ Below V.heap.size V w')
              (first | exact held_drew hS | exact held_next (by assumption) (by assumption))
              (first | (go_at_call 36; (with_reducible refine (HL2.out _).mono ?_); rintro e w' ⟨rfl, hb⟩))
            have HB := Lib.hid (held_below (by assumption : w'.cell? ⟨H, 0, none⟩ = some (.slice (some ⟨g, o, none⟩) m.length c) ∧ w'.cell? ⟨H, 1, none⟩ = some (.func (.func 36) #[] #[]) ∧ w'.cell? ⟨g, o + r * 2, none⟩ = some (.int .u64 (xr.key : Int)) ∧ w'.cell? ⟨g, o + r * 2 + 1, none⟩ = some (.int .u32 (xr.id : Int)) ∧ w'.cell? ⟨g, o + k * 2, none⟩ = some (.int .u64 (xk.key : Int)) ∧ w'.cell? ⟨g, o + k * 2 + 1, none⟩ = some (.int .u32 (xk.id : Int)) ∧ Below V.heap.size V w'))
            go_wp2_with fail
            refine bodyPost_ret (results_none rfl _ _ _) rfl ?_
            exact ⟨rfl, HTV.out.below HB.out, by rw [HU.out, HU2.out]; exact HAV.out.below HB.out⟩
          | true =>
            rw [hlt] at HL2 HU2
            clear hlt
            go_wp2_with fail
            have hS : V.cell? ⟨H, 0, none⟩ = some (.slice (some ⟨g, o, none⟩) m.length c) ∧ V.cell? ⟨H, 1, none⟩ = some (.func (.func 36) #[] #[]) ∧ V.cell? ⟨g, o + r * 2, none⟩ = some (.int .u64 (xr.key : Int)) ∧ V.cell? ⟨g, o + r * 2 + 1, none⟩ = some (.int .u32 (xr.id : Int)) ∧ V.cell? ⟨g, o + k * 2, none⟩ = some (.int .u64 (xk.key : Int)) ∧ V.cell? ⟨g, o + k * 2 + 1, none⟩ = some (.int .u32 (xk.id : Int)) ∧ Below V.heap.size V V := ⟨a0, a1, r0, r1, k0, k1, Below.refl _ _⟩
            go_region_held3 (fun w' => w'.cell? ⟨H, 0, none⟩ = some (.slice (some ⟨g, o, none⟩) m.length c) ∧ w'.cell? ⟨H, 1, none⟩ = some (.func (.func 36) #[] #[]) ∧ w'.cell? ⟨g, o + r * 2, none⟩ = some (.int .u64 (xr.key : Int)) ∧ w'.cell? ⟨g, o + r * 2 + 1, none⟩ = some (.int .u32 (xr.id : Int)) ∧ w'.cell? ⟨g, o + k * 2, none⟩ = some (.int .u64 (xk.key : Int)) ∧ w'.cell? ⟨g, o + k * 2 + 1, none⟩ = some (.int .u32 (xk.id : Int)) ∧ Below V.heap.size V w')
              (first | exact held_drew hS | exact held_next (by assumption) (by assumption))
              (first | (go_at_call 36; (with_reducible refine (HL2.out _).mono ?_); rintro e w' ⟨rfl, hb⟩))
            have HB := Lib.hid (held_below (by assumption : w'.cell? ⟨H, 0, none⟩ = some (.slice (some ⟨g, o, none⟩) m.length c) ∧ w'.cell? ⟨H, 1, none⟩ = some (.func (.func 36) #[] #[]) ∧ w'.cell? ⟨g, o + r * 2, none⟩ = some (.int .u64 (xr.key : Int)) ∧ w'.cell? ⟨g, o + r * 2 + 1, none⟩ = some (.int .u32 (xr.id : Int)) ∧ w'.cell? ⟨g, o + k * 2, none⟩ = some (.int .u64 (xk.key : Int)) ∧ w'.cell? ⟨g, o + k * 2 + 1, none⟩ = some (.int .u32 (xk.id : Int)) ∧ Below V.heap.size V w'))
            obtain ⟨a0', a1', c0', c1', d0', d1', _⟩ := (by assumption : w'.cell? ⟨H, 0, none⟩ = some (.slice (some ⟨g, o, none⟩) m.length c) ∧ w'.cell? ⟨H, 1, none⟩ = some (.func (.func 36) #[] #[]) ∧ w'.cell? ⟨g, o + r * 2, none⟩ = some (.int .u64 (xr.key : Int)) ∧ w'.cell? ⟨g, o + r * 2 + 1, none⟩ = some (.int .u32 (xr.id : Int)) ∧ w'.cell? ⟨g, o + k * 2, none⟩ = some (.int .u64 (xk.key : Int)) ∧ w'.cell? ⟨g, o + k * 2 + 1, none⟩ = some (.int .u32 (xk.id : Int)) ∧ Below V.heap.size V w')
            obtain ⟨_, _, q0, q1⟩ := its_at HO.out (HAV.out.below HB.out).own k hk
            obtain ⟨_, _, q2, q3⟩ := its_at HO.out (HAV.out.below HB.out).own r hr
            clear hS hb
            go_wp2_with fail
            go_region
            have hA := (hat_swq_at HO.out (HAV.out.below HB.out) hk hr).below (below_drewN (Below.refl _ _) 1)
            have hT := (((((HTV.out.below HB.out).set (i := o + k * 2) (.int .u64 (xr.key : Int))).set (i := o + k * 2 + 1) (.int .u32 (xr.id : Int))).set (i := o + r * 2) (.int .u64 (xk.key : Int))).set (i := o + r * 2 + 1) (.int .u32 (xk.id : Int))).below (below_drewN (Below.refl _ _) 1)
            rw [HXK.out, HXR.out] at hA
            have HA2 := Lib.hid hA
            have HT2 := Lib.hid hT
            clear hA hT a0' a1' c0' c1' d0' d1' q0 q1 q2 q3 HB HL2
            have HUU := Lib.hid (HU.out.trans (HU2.out.trans (by first | exact if_pos rfl | exact if_pos trivial)))
            clear HU HU2
            obtain ⟨U, hU⟩ : ∃ U, ((((w'.setCell ⟨g, o + k * 2, none⟩ (.int .u64 (xr.key : Int))).setCell ⟨g, o + k * 2 + 1, none⟩ (.int .u32 (xr.id : Int))).setCell ⟨g, o + r * 2, none⟩ (.int .u64 (xk.key : Int))).setCell ⟨g, o + r * 2 + 1, none⟩ (.int .u32 (xk.id : Int))).drew = U := ⟨_, rfl⟩
            have HA3 : Hid (HAt H g c U (swq m k r)) := Lib.hid (by rw [← hU]; exact HA2.out)
            have HT3 : Hid (Turn g w U) := Lib.hid (by rw [← hU]; exact HT2.out)
            rw [hU]
            clear hU HA2 HT2
            go_wp2_with fail
            go_roundw
            case rel => exact ⟨r, f, swq m k r, rfl, by rw [swq_length]; omega, by rw [swq_length]; exact hr, Lib.hid (by rw [swq_length]; exact hm.out), HUU, HA3, HT3⟩
            case measure => simp [intOf]; have := hm.out; omega
      · have HRB0 := Lib.hid (show below m (2 * k + 1) = b by rw [← HBe.out]; unfold below; rw [if_neg (fun e => hd e.1)])
        have g1 : decide ((b : Int) + 1 < (m.length : Int)) = false := by rw [decide_eq_false_iff_not]; omega
        have g2 : decide (b + 1 < m.length) = false := by rw [decide_eq_false_iff_not]; exact hd
        clear hd hlen
        go_wp2_with fail
        go_quiet (fail)
        clear g1 g2 a0 a1
        obtain ⟨V, hV⟩ : ∃ V, wr.drewN nq = V := ⟨_, rfl⟩
        have HAV : Hid (HAt H g c V m) := Lib.hid (by rw [← hV]; exact HA.out.below (below_drewN (Below.refl _ _) nq))
        have HTV : Hid (Turn g w V) := Lib.hid (by rw [← hV]; exact HT.out.below (below_drewN (Below.refl _ _) nq))
        rw [hV]
        clear hV
        obtain ⟨r, hre⟩ : ∃ r, r = b := ⟨_, rfl⟩
        subst hre
        have HRB := HRB0
        have hr := hbm
        obtain ⟨r0, r1, _, _⟩ := its_at HO.out HAV.out.own r hr
        obtain ⟨k0, k1, _, _⟩ := its_at HO.out HAV.out.own k hk
        have a0 : V.cell? ⟨H, 0, none⟩ = some (.slice (some ⟨g, o, none⟩) m.length c) := by rw [HO.out]; exact cell_of_row _ _ 0 _ _ _ HAV.out.row
        have a1 : V.cell? ⟨H, 1, none⟩ = some (.func (.func 36) #[] #[]) := cell_of_row _ _ 1 _ _ _ HAV.out.row
        have HU2 := Lib.hid (dn_go (f := f) HNE.out HRB.out)
        generalize hxr : gt m r = xr at *
        generalize hxk : gt m k = xk at *
        have HXR := Lib.hid hxr
        have HXK := Lib.hid hxk
        clear hxr hxk
        have n1 : (0 : Int) ≤ (k : Int) := by omega
        have n2 : (k : Int) < (m.length : Int) := by omega
        have n3 : (0 : Int) ≤ (r : Int) := by omega
        have n4 : (r : Int) < (m.length : Int) := by omega
        -- the lesser one below, r, against the item itself
        have HL2 := Lib.hid (fun W => less_any xr xk W)
        dsimp only [Itm.agg] at HL2
        cases hlt : ltB xr xk with
        | false =>
          rw [hlt] at HL2 HU2
          clear hlt
          go_wp2_with fail
          have hS : V.cell? ⟨H, 0, none⟩ = some (.slice (some ⟨g, o, none⟩) m.length c) ∧ V.cell? ⟨H, 1, none⟩ = some (.func (.func 36) #[] #[]) ∧ V.cell? ⟨g, o + r * 2, none⟩ = some (.int .u64 (xr.key : Int)) ∧ V.cell? ⟨g, o + r * 2 + 1, none⟩ = some (.int .u32 (xr.id : Int)) ∧ V.cell? ⟨g, o + k * 2, none⟩ = some (.int .u64 (xk.key : Int)) ∧ V.cell? ⟨g, o + k * 2 + 1, none⟩ = some (.int .u32 (xk.id : Int)) ∧ Below V.heap.size V V := ⟨a0, a1, r0, r1, k0, k1, Below.refl _ _⟩
          go_region_held3 (fun w' => w'.cell? ⟨H, 0, none⟩ = some (.slice (some ⟨g, o, none⟩) m.length c) ∧ w'.cell? ⟨H, 1, none⟩ = some (.func (.func 36) #[] #[]) ∧ w'.cell? ⟨g, o + r * 2, none⟩ = some (.int .u64 (xr.key : Int)) ∧ w'.cell? ⟨g, o + r * 2 + 1, none⟩ = some (.int .u32 (xr.id : Int)) ∧ w'.cell? ⟨g, o + k * 2, none⟩ = some (.int .u64 (xk.key : Int)) ∧ w'.cell? ⟨g, o + k * 2 + 1, none⟩ = some (.int .u32 (xk.id : Int)) ∧ Below V.heap.size V w')
            (first | exact held_drew hS | exact held_next (by assumption) (by assumption))
            (first | (go_at_call 36; (with_reducible refine (HL2.out _).mono ?_); rintro e w' ⟨rfl, hb⟩))
          have HB := Lib.hid (held_below (by assumption : w'.cell? ⟨H, 0, none⟩ = some (.slice (some ⟨g, o, none⟩) m.length c) ∧ w'.cell? ⟨H, 1, none⟩ = some (.func (.func 36) #[] #[]) ∧ w'.cell? ⟨g, o + r * 2, none⟩ = some (.int .u64 (xr.key : Int)) ∧ w'.cell? ⟨g, o + r * 2 + 1, none⟩ = some (.int .u32 (xr.id : Int)) ∧ w'.cell? ⟨g, o + k * 2, none⟩ = some (.int .u64 (xk.key : Int)) ∧ w'.cell? ⟨g, o + k * 2 + 1, none⟩ = some (.int .u32 (xk.id : Int)) ∧ Below V.heap.size V w'))
          go_wp2_with fail
          refine bodyPost_ret (results_none rfl _ _ _) rfl ?_
          exact ⟨rfl, HTV.out.below HB.out, by rw [HU.out, HU2.out]; exact HAV.out.below HB.out⟩
        | true =>
          rw [hlt] at HL2 HU2
          clear hlt
          go_wp2_with fail
          have hS : V.cell? ⟨H, 0, none⟩ = some (.slice (some ⟨g, o, none⟩) m.length c) ∧ V.cell? ⟨H, 1, none⟩ = some (.func (.func 36) #[] #[]) ∧ V.cell? ⟨g, o + r * 2, none⟩ = some (.int .u64 (xr.key : Int)) ∧ V.cell? ⟨g, o + r * 2 + 1, none⟩ = some (.int .u32 (xr.id : Int)) ∧ V.cell? ⟨g, o + k * 2, none⟩ = some (.int .u64 (xk.key : Int)) ∧ V.cell? ⟨g, o + k * 2 + 1, none⟩ = some (.int .u32 (xk.id : Int)) ∧ Below V.heap.size V V := ⟨a0, a1, r0, r1, k0, k1, Below.refl _ _⟩
          go_region_held3 (fun w' => w'.cell? ⟨H, 0, none⟩ = some (.slice (some ⟨g, o, none⟩) m.length c) ∧ w'.cell? ⟨H, 1, none⟩ = some (.func (.func 36) #[] #[]) ∧ w'.cell? ⟨g, o + r * 2, none⟩ = some (.int .u64 (xr.key : Int)) ∧ w'.cell? ⟨g, o + r * 2 + 1, none⟩ = some (.int .u32 (xr.id : Int)) ∧ w'.cell? ⟨g, o + k * 2, none⟩ = some (.int .u64 (xk.key : Int)) ∧ w'.cell? ⟨g, o + k * 2 + 1, none⟩ = some (.int .u32 (xk.id : Int)) ∧ Below V.heap.size V w')
            (first | exact held_drew hS | exact held_next (by assumption) (by assumption))
            (first | (go_at_call 36; (with_reducible refine (HL2.out _).mono ?_); rintro e w' ⟨rfl, hb⟩))
          have HB := Lib.hid (held_below (by assumption : w'.cell? ⟨H, 0, none⟩ = some (.slice (some ⟨g, o, none⟩) m.length c) ∧ w'.cell? ⟨H, 1, none⟩ = some (.func (.func 36) #[] #[]) ∧ w'.cell? ⟨g, o + r * 2, none⟩ = some (.int .u64 (xr.key : Int)) ∧ w'.cell? ⟨g, o + r * 2 + 1, none⟩ = some (.int .u32 (xr.id : Int)) ∧ w'.cell? ⟨g, o + k * 2, none⟩ = some (.int .u64 (xk.key : Int)) ∧ w'.cell? ⟨g, o + k * 2 + 1, none⟩ = some (.int .u32 (xk.id : Int)) ∧ Below V.heap.size V w'))
          obtain ⟨a0', a1', c0', c1', d0', d1', _⟩ := (by assumption : w'.cell? ⟨H, 0, none⟩ = some (.slice (some ⟨g, o, none⟩) m.length c) ∧ w'.cell? ⟨H, 1, none⟩ = some (.func (.func 36) #[] #[]) ∧ w'.cell? ⟨g, o + r * 2, none⟩ = some (.int .u64 (xr.key : Int)) ∧ w'.cell? ⟨g, o + r * 2 + 1, none⟩ = some (.int .u32 (xr.id : Int)) ∧ w'.cell? ⟨g, o + k * 2, none⟩ = some (.int .u64 (xk.key : Int)) ∧ w'.cell? ⟨g, o + k * 2 + 1, none⟩ = some (.int .u32 (xk.id : Int)) ∧ Below V.heap.size V w')
          obtain ⟨_, _, q0, q1⟩ := its_at HO.out (HAV.out.below HB.out).own k hk
          obtain ⟨_, _, q2, q3⟩ := its_at HO.out (HAV.out.below HB.out).own r hr
          clear hS hb
          go_wp2_with fail
          go_region
          have hA := (hat_swq_at HO.out (HAV.out.below HB.out) hk hr).below (below_drewN (Below.refl _ _) 1)
          have hT := (((((HTV.out.below HB.out).set (i := o + k * 2) (.int .u64 (xr.key : Int))).set (i := o + k * 2 + 1) (.int .u32 (xr.id : Int))).set (i := o + r * 2) (.int .u64 (xk.key : Int))).set (i := o + r * 2 + 1) (.int .u32 (xk.id : Int))).below (below_drewN (Below.refl _ _) 1)
          rw [HXK.out, HXR.out] at hA
          have HA2 := Lib.hid hA
          have HT2 := Lib.hid hT
          clear hA hT a0' a1' c0' c1' d0' d1' q0 q1 q2 q3 HB HL2
          have HUU := Lib.hid (HU.out.trans (HU2.out.trans (by first | exact if_pos rfl | exact if_pos trivial)))
          clear HU HU2
          obtain ⟨U, hU⟩ : ∃ U, ((((w'.setCell ⟨g, o + k * 2, none⟩ (.int .u64 (xr.key : Int))).setCell ⟨g, o + k * 2 + 1, none⟩ (.int .u32 (xr.id : Int))).setCell ⟨g, o + r * 2, none⟩ (.int .u64 (xk.key : Int))).setCell ⟨g, o + r * 2 + 1, none⟩ (.int .u32 (xk.id : Int))).drew = U := ⟨_, rfl⟩
          have HA3 : Hid (HAt H g c U (swq m k r)) := Lib.hid (by rw [← hU]; exact HA2.out)
          have HT3 : Hid (Turn g w U) := Lib.hid (by rw [← hU]; exact HT2.out)
          rw [hU]
          clear hU HA2 HT2
          go_wp2_with fail
          go_roundw
          case rel => exact ⟨r, f, swq m k r, rfl, by rw [swq_length]; omega, by rw [swq_length]; exact hr, Lib.hid (by rw [swq_length]; exact hm.out), HUU, HA3, HT3⟩
          case measure => simp [intOf]; have := hm.out; omega
end Go.Proofs.Ytpnmfhcmodoeiaa
