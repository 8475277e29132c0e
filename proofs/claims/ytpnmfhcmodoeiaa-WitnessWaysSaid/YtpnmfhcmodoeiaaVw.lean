/- The contract of vertices. -/
import Derived.Test.YtpnmfhcmodoeiaaVt
namespace Go.Proofs.Ytpnmfhcmodoeiaa
open Go.RowKit
theorem inB_step {l : List Nat} {v k : Nat} (hk : k < l.length) : inB (l.take (k + 1)) v = (inB (l.take k) v || (l[k] == v)) := by
  rw [Bool.eq_iff_iff, Bool.or_eq_true, inB_iff, inB_iff, beq_iff_eq, List.take_succ_eq_append_getElem hk, List.mem_append, List.mem_singleton]
  constructor
  · rintro (h | h); exact .inl h; exact .inr h.symm
  · rintro (h | h); exact .inl h; exact .inr h.symm
theorem own_start (w : World) (src : Nat) : OwnV (w.alloc (.cells #[.int .u32 (src : Int)] 26)) w.heap.size (.slice (some ⟨w.heap.size, 0, none⟩) 1 1) [src] :=
  ⟨rfl, .inr ⟨w.heap.size, 1, #[.int .u32 (src : Int)], rfl, Nat.le_refl _, heap_alloc_new _ _, Nat.le_refl _, by simp [maxLen], rfl, rfl⟩⟩
set_option maxRecDepth 100000 in
set_option maxHeartbeats 8000000 in
theorem verts_any (B : Nat) (A : Option Addr) (E : List Edg) (c src : Nat) (w : World) (h : ELs B w A E) (hB : B ≤ w.heap.size) (hE : E.length ≤ 1000) :
    Calls Try.prog 18 #[.slice A E.length c, .int .u32 (src : Int)] w fun e w' => ∃ A' c', e = .returned (.slice A' (verts E src).length c') ∧ OwnV w' w.heap.size (.slice A' (verts E src).length c') (verts E src) ∧ Below w.heap.size w w' := by
  have HE := Lib.hid (h.more hB)
  have HO0 := Lib.hid (own_start w src)
  have HB0 : Hid (Below w.heap.size w (w.alloc (.cells #[.int .u32 (src : Int)] 26))) := Lib.hid ((Below.refl _ _).alloc (Nat.le_refl _) _)
  clear h hB
  go_enter Try.func18, Try.ntmps18
  go_wp2_with fail
  go_loopw [5, 6] (fun vl vi wr => ∃ (i : Nat) (A2 : Option Addr) (c2 : Nat), vi = .int .i64 i ∧ i ≤ 2 * E.length ∧ vl = .slice A2 (vertsTo E src i).length c2 ∧ Hid (OwnV wr w.heap.size (.slice A2 (vertsTo E src i).length c2) (vertsTo E src i)) ∧ Hid (Below w.heap.size w wr)) (fun _ vi _ => 2 * E.length - (intOf vi).toNat)
  case atStart => exact ⟨0, _, 1, rfl, by omega, rfl, HO0, HB0⟩
  case round =>
    clear HO0 HB0
    obtain ⟨i, A2, c2, rfl, hi, rfl, HO, HB⟩ := hrel
    have HLen := Lib.hid (vertsTo_len (E := E) (src := src) i)
    by_cases hlt : i < 2 * E.length
    · have hq : i / 2 < E.length := by omega
      obtain ⟨b, o, hA, _, c0, c1, _, _⟩ := ELs.at' (HE.out.below HB.out) (i / 2) hq
      subst hA
      have i1 : (i : Int) < 2 * (E.length : Int) := by omega
      have i2 : (0 : Int) ≤ (i : Int) := by omega
      have i3 : (i : Int) / 2 = ((i / 2 : Nat) : Int) := by omega
      have i4 : ((i / 2 : Nat) : Int) < (E.length : Int) := by omega
      have HG : Hid (E.getD (i / 2) Edg.nil = E[i / 2]) := Lib.hid (by rw [List.getD_eq_getElem?_getD, List.getElem?_eq_getElem hq]; rfl)
      have HVl := Lib.hid (own_vls HO.out (by have := HLen.out; omega))
      generalize hl : vertsTo E src i = l at *
      have HL := Lib.hid hl
      clear hl
      have hlb : l.length ≤ 2001 := by have := HLen.out; omega
      by_cases hm : i % 2 = 1
      · have i5 : (i : Int) % 2 = 1 := by omega
        have HEnd : Hid (endAt E i = (E[i / 2]).head) := Lib.hid (by unfold endAt; rw [if_pos hm, HG.out])
        clear HG hm
        generalize (E[i / 2]).tail = tl at *
        generalize (E[i / 2]).head = v at *
        generalize i / 2 = q at *
        go_wp2_with fail
        go_loopw [8, 9] (fun vb vk wr' => ∃ k : Nat, vk = .int .i64 k ∧ k ≤ l.length ∧ vb = .bool (inB (l.take k) v) ∧ wr' = wr) (fun _ vk _ => l.length - (intOf vk).toNat)
        case atStart => exact ⟨0, rfl, by omega, rfl, rfl⟩
        case round =>
          obtain ⟨k, rfl, hk, rfl, rfl⟩ := hrel
          by_cases hkl : k < l.length
          · obtain ⟨p, s, hA, _, e0⟩ := VLs.at' HVl.out k hkl
            have HStp := Lib.hid (inB_step (v := v) hkl)
            subst hA
            have j1 : (k : Int) < (l.length : Int) := by omega
            have j2 : (0 : Int) ≤ (k : Int) := by omega
            generalize hbk : inB (l.take k) v = bk at *
            generalize hbk2 : inB (l.take (k + 1)) v = bk2 at *
            have HBk2 := Lib.hid hbk2
            clear hbk hbk2
            cases bk with
            | true =>
              have HR : Hid (bk2 = true) := Lib.hid (by rw [HStp.out, Bool.true_or])
              go_wp2_with fail
              go_roundw
              case rel => exact ⟨k + 1, by go_num, by omega, by rw [HBk2.out, HR.out], by first | rfl | trivial⟩
              case measure => simp [intOf]; omega
            | false =>
              by_cases hv : l[k] = v
              · have g1 : ((l[k] : Int) == (v : Int)) = true := by rw [hv]; exact beq_self_eq_true _
                have HR : Hid (bk2 = true) := Lib.hid (by rw [HStp.out, Bool.false_or, beq_iff_eq]; exact hv)
                clear hv
                generalize l[k] = u at *
                go_wp2_with fail
                go_roundw
                case rel => exact ⟨k + 1, by go_num, by omega, by rw [HBk2.out, HR.out], by first | rfl | trivial⟩
                case measure => simp [intOf]; omega
              · have g1 : ((l[k] : Int) == (v : Int)) = false := by rw [beq_eq_false_iff_ne]; omega
                have HR : Hid (bk2 = false) := Lib.hid (by rw [HStp.out, Bool.false_or, beq_eq_false_iff_ne]; exact hv)
                clear hv
                generalize l[k] = u at *
                go_wp2_with fail
                go_roundw
                case rel => exact ⟨k + 1, by go_num, by omega, by rw [HBk2.out, HR.out], by first | rfl | trivial⟩
                case measure => simp [intOf]; omega
          · have j1 : ¬ (k : Int) < (l.length : Int) := by omega
            have hke : k = l.length := by omega
            subst hke
            rw [List.take_length]
            generalize hin : inB l v = bin at *
            cases bin with
            | true =>
              have HR : Hid (vertsTo E src (i + 1) = l) := Lib.hid (by show addV (vertsTo E src i) (endAt E i) = l; rw [HL.out, HEnd.out]; unfold addV; rw [hin, if_pos rfl])
              clear hin
              go_wp2_with fail
              go_roundw
              case rel => exact ⟨i + 1, A2, c2, by go_num, by omega, by rw [HR.out], Lib.hid (by rw [HR.out]; exact HO.out), HB⟩
              case measure => simp [intOf]; omega
            | false =>
              have HR : Hid (vertsTo E src (i + 1) = l ++ [v]) := Lib.hid (by show addV (vertsTo E src i) (endAt E i) = _; rw [HL.out, HEnd.out]; unfold addV; rw [hin, if_neg Bool.false_ne_true])
              clear hin
              have HO2 : Hid (OwnV (wr.alloc (.cells #[.int .u32 (v : Int)] 26)) w.heap.size (.slice A2 l.length c2) l) := Lib.hid (HO.out.alloc _)
              have HV2 : Hid (VLs (wr.heap.size + 1) (wr.alloc (.cells #[.int .u32 (v : Int)] 26)) (some ⟨wr.heap.size, 0, none⟩) [v]) := Lib.hid (SR.one (sz := 1) (enc := vEnc) v (heap_alloc_new wr _) rfl _ (by omega))
              have HB2 : Hid (Below w.heap.size w (wr.alloc (.cells #[.int .u32 (v : Int)] 26))) := Lib.hid (HB.out.alloc HB.out.size _)
              have hlb := HLen.out
              go_wp2_with (at_builtin
                           refine wpList_append_sr _ rfl (.tmp 51) (.tmp 53) v_ety rfl w.heap.size (.slice A2 l.length c2) l rfl HO2.out (wr.heap.size + 1) (some ⟨wr.heap.size, 0, none⟩) 1 1 [v] rfl rfl HV2.out (by simp [maxLen]; omega) (by simp; omega) HB2.out.size ?_
                           intro Q2 q2 w8 hown hg _
                           have HB8 := Lib.hid (HB2.out.grown hg HB2.out.size (fun r hr => (HO2.out.lt r hr).1))
                           have HO8 := Lib.hid hown
                           clear hown hg HO2 HV2 HB2)
              go_roundw
              case rel => exact ⟨i + 1, Q2, q2, by go_num, by omega, by rw [HR.out]; simp, Lib.hid (by rw [HR.out, List.length_append]; exact HO8.out), HB8⟩
              case measure => simp [intOf]; omega
      · have i5 : (i : Int) % 2 = 0 := by omega
        have HEnd : Hid (endAt E i = (E[i / 2]).tail) := Lib.hid (by unfold endAt; rw [if_neg hm, HG.out])
        clear HG hm
        generalize (E[i / 2]).head = hd at *
        generalize (E[i / 2]).tail = v at *
        generalize i / 2 = q at *
        go_wp2_with fail
        go_loopw [8, 9] (fun vb vk wr' => ∃ k : Nat, vk = .int .i64 k ∧ k ≤ l.length ∧ vb = .bool (inB (l.take k) v) ∧ wr' = wr) (fun _ vk _ => l.length - (intOf vk).toNat)
        case atStart => exact ⟨0, rfl, by omega, rfl, rfl⟩
        case round =>
          obtain ⟨k, rfl, hk, rfl, rfl⟩ := hrel
          by_cases hkl : k < l.length
          · obtain ⟨p, s, hA, _, e0⟩ := VLs.at' HVl.out k hkl
            have HStp := Lib.hid (inB_step (v := v) hkl)
            subst hA
            have j1 : (k : Int) < (l.length : Int) := by omega
            have j2 : (0 : Int) ≤ (k : Int) := by omega
            generalize hbk : inB (l.take k) v = bk at *
            generalize hbk2 : inB (l.take (k + 1)) v = bk2 at *
            have HBk2 := Lib.hid hbk2
            clear hbk hbk2
            cases bk with
            | true =>
              have HR : Hid (bk2 = true) := Lib.hid (by rw [HStp.out, Bool.true_or])
              go_wp2_with fail
              go_roundw
              case rel => exact ⟨k + 1, by go_num, by omega, by rw [HBk2.out, HR.out], by first | rfl | trivial⟩
              case measure => simp [intOf]; omega
            | false =>
              by_cases hv : l[k] = v
              · have g1 : ((l[k] : Int) == (v : Int)) = true := by rw [hv]; exact beq_self_eq_true _
                have HR : Hid (bk2 = true) := Lib.hid (by rw [HStp.out, Bool.false_or, beq_iff_eq]; exact hv)
                clear hv
                generalize l[k] = u at *
                go_wp2_with fail
                go_roundw
                case rel => exact ⟨k + 1, by go_num, by omega, by rw [HBk2.out, HR.out], by first | rfl | trivial⟩
                case measure => simp [intOf]; omega
              · have g1 : ((l[k] : Int) == (v : Int)) = false := by rw [beq_eq_false_iff_ne]; omega
                have HR : Hid (bk2 = false) := Lib.hid (by rw [HStp.out, Bool.false_or, beq_eq_false_iff_ne]; exact hv)
                clear hv
                generalize l[k] = u at *
                go_wp2_with fail
                go_roundw
                case rel => exact ⟨k + 1, by go_num, by omega, by rw [HBk2.out, HR.out], by first | rfl | trivial⟩
                case measure => simp [intOf]; omega
          · have j1 : ¬ (k : Int) < (l.length : Int) := by omega
            have hke : k = l.length := by omega
            subst hke
            rw [List.take_length]
            generalize hin : inB l v = bin at *
            cases bin with
            | true =>
              have HR : Hid (vertsTo E src (i + 1) = l) := Lib.hid (by show addV (vertsTo E src i) (endAt E i) = l; rw [HL.out, HEnd.out]; unfold addV; rw [hin, if_pos rfl])
              clear hin
              go_wp2_with fail
              go_roundw
              case rel => exact ⟨i + 1, A2, c2, by go_num, by omega, by rw [HR.out], Lib.hid (by rw [HR.out]; exact HO.out), HB⟩
              case measure => simp [intOf]; omega
            | false =>
              have HR : Hid (vertsTo E src (i + 1) = l ++ [v]) := Lib.hid (by show addV (vertsTo E src i) (endAt E i) = _; rw [HL.out, HEnd.out]; unfold addV; rw [hin, if_neg Bool.false_ne_true])
              clear hin
              have HO2 : Hid (OwnV (wr.alloc (.cells #[.int .u32 (v : Int)] 26)) w.heap.size (.slice A2 l.length c2) l) := Lib.hid (HO.out.alloc _)
              have HV2 : Hid (VLs (wr.heap.size + 1) (wr.alloc (.cells #[.int .u32 (v : Int)] 26)) (some ⟨wr.heap.size, 0, none⟩) [v]) := Lib.hid (SR.one (sz := 1) (enc := vEnc) v (heap_alloc_new wr _) rfl _ (by omega))
              have HB2 : Hid (Below w.heap.size w (wr.alloc (.cells #[.int .u32 (v : Int)] 26))) := Lib.hid (HB.out.alloc HB.out.size _)
              have hlb := HLen.out
              go_wp2_with (at_builtin
                           refine wpList_append_sr _ rfl (.tmp 51) (.tmp 53) v_ety rfl w.heap.size (.slice A2 l.length c2) l rfl HO2.out (wr.heap.size + 1) (some ⟨wr.heap.size, 0, none⟩) 1 1 [v] rfl rfl HV2.out (by simp [maxLen]; omega) (by simp; omega) HB2.out.size ?_
                           intro Q2 q2 w8 hown hg _
                           have HB8 := Lib.hid (HB2.out.grown hg HB2.out.size (fun r hr => (HO2.out.lt r hr).1))
                           have HO8 := Lib.hid hown
                           clear hown hg HO2 HV2 HB2)
              go_roundw
              case rel => exact ⟨i + 1, Q2, q2, by go_num, by omega, by rw [HR.out]; simp, Lib.hid (by rw [HR.out, List.length_append]; exact HO8.out), HB8⟩
              case measure => simp [intOf]; omega
    · have i1 : ¬ (i : Int) < 2 * (E.length : Int) := by omega
      have hie : i = 2 * E.length := by omega
      subst hie
      go_wp2_with fail
      go_ret
      exact ⟨A2, c2, rfl, HO.out, HB.out⟩
end Go.Proofs.Ytpnmfhcmodoeiaa
