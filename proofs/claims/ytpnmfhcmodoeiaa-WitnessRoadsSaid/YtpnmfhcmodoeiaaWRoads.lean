/- WitnessRoads: for any trip along any road the call returns true: a vertex is found just if it is not further than is allowed, at most fifteen edges away, and nothing on the way is avoided. No condition. -/
import Derived.Test.YtpnmfhcmodoeiaaRp4
import Derived.Test.YtpnmfhcmodoeiaaW4
import Derived.Test.YtpnmfhcmodoeiaaNp
namespace Go.Proofs.Ytpnmfhcmodoeiaa.witnessRoads
open Go.ChangeShapes Go.WideShapes Go.ChangeAt Go.RowKit Go.Deep
set_option maxRecDepth 100000 in
theorem x_dec {H : Type} {encT : TypeId × Value → H} {W : World} {b : Nat} {sp : Nat → Bool} {hd : Bool} (fuel : Nat) (cs' : List Value) (y : DataW H × List MemPlace)
    (h : DataW.trod encT Try.prog W b sp hd fuel 27 cs' = some y) : ∃ x : W64, [Value.int .u64 (x.1 : Int)] = cs' := by
  obtain ⟨a, e, _, w⟩ := DataW.trod_int Try.underlying27 h
  obtain ⟨m, rfl, hm⟩ := u64_bounds w
  exact ⟨⟨m, hm⟩, e.symm⟩
set_option maxRecDepth 100000 in
theorem open_ws {H : Type} {encT : TypeId × Value → H} {W : World} {v : Value} {d : DataW H} {p : List MemPlace} (hv : ∃ a len cap, v = .slice a len cap) (h : DataW.Trod encT Try.prog W 0 (fun _ => true) true 45 v d p) (hlt : ∀ x ∈ p, x.block < W.heap.size) :
    ∃ A len c, v = .slice A len c ∧ len ≤ maxLen ∧ (len ≤ 4611686018427387904 → ∃ l : List W64, l.length = len ∧ XLs W.heap.size W A l) :=
  open_list (sz := 1) Try.underlying45 (by kernel_rfl) (by omega) (fun _ => rfl) (fun f cs y h => x_dec f cs y h) hv h hlt
/-- the weights of a trip stand in memory -/
structure TripIn (W : World) (A : Option Addr) (n : Nat) : Prop where
  n0 : n ≤ maxLen
  l0 : n ≤ 4611686018427387904 → ∃ l : List W64, l.length = n ∧ XLs W.heap.size W A l
set_option maxRecDepth 100000 in
theorem open_trip {H : Type} {encT : TypeId × Value → H} {W : World} {r : Reach} {b0 : Nat} {v : Value} {d : DataW H} {p : List MemPlace} (hv : Value.okWide Try.prog W r b0 54 v)
    (h : DataW.Trod encT Try.prog W 0 (fun _ => true) true 54 v d p) (hlt : ∀ x ∈ p, x.block < W.heap.size) :
    ∃ (A : Option Addr) (n c t most bad avoid : Nat), v = .agg #[.slice A n c, .int .u8 (t : Int), .int .u64 (most : Int), .int .u32 (bad : Int), .int .u32 (avoid : Int)] ∧ TripIn W A n ∧ t < 256 ∧ most < 18446744073709551616 ∧ bad < 4294967296 ∧ avoid < 4294967296 := by
  obtain ⟨cs, rfl, hsz⟩ := okWide_struct Try.underlying54 hv
  obtain ⟨fuel, hf⟩ := h
  obtain ⟨xs, n, _, hx, hlen, hxl, hf⟩ := DataW.trod_struct Try.underlying54 hf
  have hC : Try.prog.cellsOf 54 = 5 := by kernel_rfl
  have k0 : Try.prog.cellsOf 45 = 1 := by kernel_rfl
  have k1 : Try.prog.cellsOf 26 = 1 := by kernel_rfl
  have k2 : Try.prog.cellsOf 27 = 1 := by kernel_rfl
  have k3 : Try.prog.cellsOf 5 = 1 := by kernel_rfl
  rw [hC] at hsz
  obtain ⟨v0, v1, v2, v3, v4, rfl⟩ : ∃ v0 v1 v2 v3 v4, cs = #[v0, v1, v2, v3, v4] := by
    match cs, hsz with
    | ⟨[c0, c1, c2, c3, c4]⟩, _ => exact ⟨c0, c1, c2, c3, c4, rfl⟩
  match xs, hxl with
  | [y0, y1, y2, y3, y4], _ =>
    have h0 := hf 0 _ rfl
    have h1 := hf 1 _ rfl
    have h2 := hf 2 _ rfl
    have h3 := hf 3 _ rfl
    have h4 := hf 4 _ rfl
    simp [Value.cells, k0, k1, k2, k3] at h0 h1 h2 h3 h4
    have hp : p = y0.2 ++ (y1.2 ++ (y2.2 ++ (y3.2 ++ y4.2))) := by simp only [Prod.mk.injEq] at hx; simpa using hx.2
    obtain ⟨e0, t0⟩ := slice_is Try.underlying45 h0
    obtain ⟨A, m, c, rfl, a1, a2⟩ := open_ws e0 t0 (fun x hx => hlt x (by rw [hp]; simp [hx]))
    obtain ⟨a1', e1, _, w1⟩ := DataW.trod_int Try.underlying5 h1
    obtain ⟨a2', e2, _, w2⟩ := DataW.trod_int Try.underlying27 h2
    obtain ⟨a3', e3, _, w3⟩ := DataW.trod_int Try.underlying26 h3
    obtain ⟨a4', e4, _, w4⟩ := DataW.trod_int Try.underlying26 h4
    obtain ⟨m1, rfl, b1⟩ := u8_bounds w1
    obtain ⟨m2, rfl, b2⟩ := u64_bounds w2
    obtain ⟨m3, rfl, b3⟩ := u32_bounds w3
    obtain ⟨m4, rfl, b4⟩ := u32_bounds w4
    simp at e1 e2 e3 e4
    refine ⟨A, m, c, m1, m2, m3, m4, by rw [e1, e2, e3, e4], ⟨a1, a2⟩, b1, b2, b3, b4⟩
set_option maxRecDepth 100000 in
theorem far_any (B RB : Nat) (Ws : List W64) (bad avoid k : Nat) (w : World) (hI : RoadAt B RB Ws bad avoid w) (hk : k ≤ Ws.length) (hl : Ws.length ≤ 30) :
    Calls Try.prog 25 #[.pointer (some ⟨RB, 0, none⟩), .int .i64 (k : Int)] w fun e w' => e = .returned (.tuple #[.int .u64 (((farV Ws k).getD 0 : Nat) : Int), .bool (farV Ws k).isSome]) ∧ w = w' := by
  obtain ⟨A, c, h1, h2⟩ := hI
  have c0 : w.cell? ⟨RB, 0, none⟩ = some (.slice A Ws.length c) := cell_of_row _ _ 0 _ _ _ h1
  have HS := Lib.hid h2
  clear h1 h2
  go_enter Try.func25, Try.ntmps25
  go_wp2_with fail
  go_loopw [6, 7] (fun vs vi wr => ∃ i s : Nat, vi = .int .i64 i ∧ vs = .int .u64 s ∧ i ≤ k ∧ Hid (farV Ws i = some s) ∧ wr = w) (fun _ vi _ => k - (intOf vi).toNat)
  case atStart => exact ⟨0, 0, rfl, rfl, by omega, Lib.hid rfl, rfl⟩
  case round =>
    obtain ⟨i, s, rfl, rfl, hi, HF, rfl⟩ := hrel
    by_cases hlt : i < k
    · have hil : i < Ws.length := by omega
      obtain ⟨b, o, hA, hb, e0⟩ := XLs.at' HS.out i hil
      subst hA
      have i1 : (i : Int) < (k : Int) := by omega
      have i2 : (0 : Int) ≤ (i : Int) := by omega
      have i3 : (i : Int) < (Ws.length : Int) := by omega
      by_cases hfit : s + (Ws[i]).1 < 9223372036854775808
      · have HF' := Lib.hid (farV_on HF.out hil hfit)
        have hb := fitsB_mk hfit
        have HSum := Lib.hid (sumV_yes hb)
        have HAdd := Lib.hid (refAdd_any s (Ws[i]).1 wr)
        rw [hb] at HAdd
        generalize (Ws[i]).1 = y at *
        generalize sumV s y = z at *
        clear hb hfit
        go_wp2_with fail
        refine HAdd.out.mono ?_
        rintro e w1 ⟨rfl, rfl⟩
        go_wp2_with fail
        go_roundw
        case rel => exact ⟨i + 1, z, by go_num, rfl, by omega, by rw [HSum.out]; exact HF', by first | rfl | trivial⟩
        case measure => simp [intOf]; omega
      · have HF' := Lib.hid (farV_none (farV_far HF.out hil hfit) k (by omega))
        have hb := fitsB_mk' (Nat.not_lt.1 hfit)
        have HAdd := Lib.hid (refAdd_any s (Ws[i]).1 wr)
        rw [hb] at HAdd
        generalize (Ws[i]).1 = y at *
        generalize sumV s y = z at *
        clear hb hfit
        go_wp2_with fail
        refine HAdd.out.mono ?_
        rintro e w1 ⟨rfl, rfl⟩
        go_wp2_with fail
        go_ret2
        refine ⟨?_, rfl⟩
        rw [HF'.out]; rfl
    · have i1 : ¬ (i : Int) < (k : Int) := by omega
      have hie : i = k := by omega
      subst hie
      go_wp2_with fail
      go_ret2
      refine ⟨?_, rfl⟩
      rw [HF.out]; rfl
set_option maxRecDepth 100000 in
theorem long (A : Option Addr) (n c t most bad avoid : Nat) (w : World) (h : 30 < n) (ht : t < 256) : Calls Try.prog 8 #[.agg #[.slice A n c, .int .u8 (t : Int), .int .u64 (most : Int), .int .u32 (bad : Int), .int .u32 (avoid : Int)]] w (LawOk w) := by
  have HW := Lib.hid works_any
  have g1 : (30 : Int) < (n : Int) := by omega
  go_enter Try.func8, Try.ntmps8
  go_wp2_with (go_at_call 12; with_reducible refine (HW.out _).mono ?_; rintro e w9 ⟨rfl, hb9⟩)
  go_ret
  have hb : Below w.heap.size w (w.alloc (.cells #[.slice A n c, .int .u8 (t : Int), .int .u64 (most : Int), .int .u32 (bad : Int), .int .u32 (avoid : Int)] 54)) := (Below.refl _ _).alloc (Nat.le_refl _) _
  exact ⟨rfl, hb.trans (hb9.mono hb.size)⟩
set_option maxRecDepth 100000 in
set_option maxHeartbeats 8000000 in
theorem short (A : Option Addr) (Ws : List W64) (c t most bad avoid : Nat) (w : World) (hs : XLs w.heap.size w A Ws) (hl : Ws.length ≤ 30) (ht : t < 256) :
    Calls Try.prog 8 #[.agg #[.slice A Ws.length c, .int .u8 (t : Int), .int .u64 (most : Int), .int .u32 (bad : Int), .int .u32 (avoid : Int)]] w (LawOk w) := by
  have HW := Lib.hid works_any
  have g1 : ¬ (30 : Int) < (Ws.length : Int) := by omega
  obtain ⟨W0, hW0⟩ : ∃ W0, w.alloc (.cells #[.slice A Ws.length c, .int .u8 (t : Int), .int .u64 (most : Int), .int .u32 (bad : Int), .int .u32 (avoid : Int)] 54) = W0 := ⟨_, rfl⟩
  have hb0 : Below w.heap.size w W0 := by rw [← hW0]; exact (Below.refl _ _).alloc (Nat.le_refl _) _
  have hs0 : W0.heap.size = w.heap.size + 1 := by rw [← hW0]; simp
  obtain ⟨W1, hW1⟩ : ∃ W1, W0.alloc (.cells #[.slice A Ws.length c, .int .u32 (bad : Int), .int .u32 (avoid : Int)] 57) = W1 := ⟨_, rfl⟩
  have hb1 : Below w.heap.size w W1 := by rw [← hW1]; exact hb0.alloc (by omega) _
  have hs1 : W1.heap.size = w.heap.size + 2 := by rw [← hW1]; simp [hs0]
  have hR : RoadAt (w.heap.size + 2) (w.heap.size + 1) Ws bad avoid W1 := by
    refine ⟨A, c, ?_, (hs.below hb1).more (by omega)⟩
    rw [← hW1, ← hs0]
    exact heap_alloc_new _ _
  have hX : (w.alloc (.cells #[.slice A Ws.length c, .int .u8 (t : Int), .int .u64 (most : Int), .int .u32 (bad : Int), .int .u32 (avoid : Int)] 54)).alloc (.cells #[.slice A Ws.length c, .int .u32 (bad : Int), .int .u32 (avoid : Int)] 57) = W1 := by rw [hW0, hW1]
  have HX := Lib.hid hX
  have HB1 := Lib.hid hb1
  have HR := Lib.hid hR
  have HF := Lib.hid (fun k => find_still (road_net (w.heap.size + 2) (w.heap.size + 1) Ws bad avoid (by omega) (by omega)) (roadOut_len Ws bad) 0 k most (by omega) W1 hR (by omega))
  have HSt := Lib.hid (road_net (w.heap.size + 2) (w.heap.size + 1) Ws bad avoid (by omega) (by omega)).stay
  have hk : (t : Int) % 20 = ((t % 20 : Nat) : Int) := by omega
  have HK := Lib.hid hk
  have hk20 : t % 20 < 20 := by omega
  have HSz := Lib.hid hs1
  clear hs hW0 hb0 hs0 hW1 hb1 hs1 hR hX hk
  go_enter Try.func8, Try.ntmps8
  go_wp2_with fail
  rw [HK.out, HX.out]
  clear HX HK
  generalize t % 20 = k at *
  refine (HF.out k).mono ?_
  rintro e w1 ⟨a, x, er, h1, rfl, hb1⟩
  have HV0 := Lib.hid (road_finds h1)
  have HB : Hid (Below w.heap.size w w1) := Lib.hid (HB1.out.trans (hb1.mono HB1.out.size))
  have HR1 := Lib.hid (HSt.out _ _ HR.out (fun b hb => hb1.block b (by have := HSz.out; omega)))
  clear h1 hb1 HF HB1 HR HSt HSz
  generalize w.heap.size + 1 = RB at *
  generalize w.heap.size + 2 = B at *
  go_wp2_with fail
  go_loopw [12] (fun vi wr => ∃ i : Nat, vi = .int .i64 i ∧ i ≤ k + 1 ∧ i ≤ 16 ∧ Hid (if i ≤ k then roadV Ws bad avoid k most (16 - i) i = (x, er) else (true, (0 : Int)) = (x, er)) ∧ wr = w1) (fun vi _ => 21 - (intOf vi).toNat)
  case atStart => exact ⟨0, rfl, by omega, by omega, Lib.hid (by rw [if_pos (Nat.zero_le _)]; exact HV0.out.symm), rfl⟩
  case round =>
    clear HV0
    obtain ⟨i, rfl, hi, hi16, HV, rfl⟩ := hrel
    by_cases hik : i ≤ k
    · rw [if_pos hik] at HV
      have j1 : (i : Int) ≤ (k : Int) := by omega
      by_cases hil : i ≤ Ws.length
      · have j2 : (i : Int) ≤ (Ws.length : Int) := by omega
        have HFar := Lib.hid (far_any B RB Ws bad avoid i wr HR1.out hil hl)
        cases hfar : farV Ws i with
        | none =>
          have HFV := Lib.hid hfar
          have hno : (x, er) = (false, 0) := HV.out.symm.trans (roadV_none _ hfar)
          injection hno with hx her
          subst hx her
          clear hfar
          go_wp2_with fail
          refine HFar.out.mono ?_; rw [HFV.out]; rintro e2 w2 ⟨rfl, rfl⟩; simp only [Option.getD_none, Option.isSome_none]
          go_wp2_with (go_at_call 12; with_reducible refine (HW.out _).mono ?_; rintro e w9 ⟨rfl, hb9⟩)
          go_ret
          exact ⟨rfl, HB.out.trans (hb9.mono HB.out.size)⟩
        | some d =>
          have HFV := Lib.hid hfar
          by_cases h1 : most < d
          · have j3 : (most : Int) < (d : Int) := by omega
            have hno : (x, er) = (false, 0) := HV.out.symm.trans (roadV_no _ hfar (.inl h1))
            injection hno with hx her
            subst hx her
            clear hfar
            go_wp2_with fail
            refine HFar.out.mono ?_; rw [HFV.out]; rintro e2 w2 ⟨rfl, rfl⟩; simp only [Option.getD_some, Option.isSome_some]
            go_wp2_with (go_at_call 12; with_reducible refine (HW.out _).mono ?_; rintro e w9 ⟨rfl, hb9⟩)
            go_ret
            exact ⟨rfl, HB.out.trans (hb9.mono HB.out.size)⟩
          · have j3 : ¬ (most : Int) < (d : Int) := by omega
            by_cases h2 : i = 16
            · subst h2
              have hno : (x, er) = (false, 0) := HV.out.symm.trans (rfl)
              injection hno with hx her
              subst hx her
              clear hfar
              go_wp2_with fail
              refine HFar.out.mono ?_; rw [HFV.out]; rintro e2 w2 ⟨rfl, rfl⟩; simp only [Option.getD_some, Option.isSome_some]
              go_wp2_with (go_at_call 12; with_reducible refine (HW.out _).mono ?_; rintro e w9 ⟨rfl, hb9⟩)
              go_ret
              exact ⟨rfl, HB.out.trans (hb9.mono HB.out.size)⟩
            · have j4 : ((i : Int) == 16) = false := by rw [beq_eq_false_iff_ne]; omega
              by_cases h3 : 0 < i ∧ i = avoid
              · have j5 : (0 : Int) < (i : Int) := by omega
                have j6 : ((i : Int) == (avoid : Int)) = true := by rw [h3.2]; exact beq_self_eq_true _
                have hno : (x, er) = (false, 0) := HV.out.symm.trans (roadV_no _ hfar (.inr h3))
                injection hno with hx her
                subst hx her
                clear hfar h3
                go_wp2_with fail
                refine HFar.out.mono ?_; rw [HFV.out]; rintro e2 w2 ⟨rfl, rfl⟩; simp only [Option.getD_some, Option.isSome_some]
                go_wp2_with (go_at_call 12; with_reducible refine (HW.out _).mono ?_; rintro e w9 ⟨rfl, hb9⟩)
                go_ret
                exact ⟨rfl, HB.out.trans (hb9.mono HB.out.size)⟩
              · have hn : 16 - i = (15 - i) + 1 := by omega
                have hcl : ¬ (most < d ∨ (0 < i ∧ i = avoid)) := fun e => e.elim h1 h3
                rw [hn] at HV
                have h3' : (¬ (0 : Int) < (i : Int)) ∨ ((0 : Int) < (i : Int) ∧ ((i : Int) == (avoid : Int)) = false) := by
                  by_cases h0 : 0 < i
                  · right; refine ⟨by omega, ?_⟩; rw [beq_eq_false_iff_ne]; intro e; exact h3 ⟨h0, by omega⟩
                  · left; omega
                by_cases h4 : i < k
                · have j7 : (i : Int) < (k : Int) := by omega
                  by_cases h5 : i = bad
                  · have j8 : ((i : Int) == (bad : Int)) = true := by rw [h5]; exact beq_self_eq_true _
                    have hno : (x, er) = (false, 7) := HV.out.symm.trans (roadV_bad _ hfar hcl (by omega) h5)
                    injection hno with hx her
                    subst hx her
                    clear hfar hcl h3 h5
                    rcases h3' with j5 | ⟨j5, j6⟩
                    · go_wp2_with fail
                      refine HFar.out.mono ?_
                      rw [HFV.out]
                      rintro e2 w2 ⟨rfl, rfl⟩
                      simp only [Option.getD_some, Option.isSome_some]
                      go_wp2_with (go_at_call 12; with_reducible refine (HW.out _).mono ?_; rintro e w9 ⟨rfl, hb9⟩)
                      go_ret
                      exact ⟨rfl, HB.out.trans (hb9.mono HB.out.size)⟩
                    · go_wp2_with fail
                      refine HFar.out.mono ?_
                      rw [HFV.out]
                      rintro e2 w2 ⟨rfl, rfl⟩
                      simp only [Option.getD_some, Option.isSome_some]
                      go_wp2_with (go_at_call 12; with_reducible refine (HW.out _).mono ?_; rintro e w9 ⟨rfl, hb9⟩)
                      go_ret
                      exact ⟨rfl, HB.out.trans (hb9.mono HB.out.size)⟩
                  · have j8 : ((i : Int) == (bad : Int)) = false := by rw [beq_eq_false_iff_ne]; omega
                    have HN : Hid (if i + 1 ≤ k then roadV Ws bad avoid k most (16 - (i + 1)) (i + 1) = (x, er) else (true, (0 : Int)) = (x, er)) := Lib.hid (by
                      rw [if_pos (by omega), ← HV.out, roadV_on _ hfar hcl (by omega) h5, show 16 - (i + 1) = 15 - i by omega])
                    clear hfar hcl h3 h5 HV
                    rcases h3' with j5 | ⟨j5, j6⟩
                    · go_wp2_with fail
                      refine HFar.out.mono ?_
                      rw [HFV.out]
                      rintro e2 w2 ⟨rfl, rfl⟩
                      simp only [Option.getD_some, Option.isSome_some]
                      go_wp2_with fail
                      go_roundw
                      case rel => exact ⟨i + 1, by go_num, by omega, by omega, HN, by first | rfl | trivial⟩
                      case measure => simp [intOf]; omega
                    · go_wp2_with fail
                      refine HFar.out.mono ?_
                      rw [HFV.out]
                      rintro e2 w2 ⟨rfl, rfl⟩
                      simp only [Option.getD_some, Option.isSome_some]
                      go_wp2_with fail
                      go_roundw
                      case rel => exact ⟨i + 1, by go_num, by omega, by omega, HN, by first | rfl | trivial⟩
                      case measure => simp [intOf]; omega
                · have hie : i = k := by omega
                  have HN : Hid (if i + 1 ≤ k then roadV Ws bad avoid k most (16 - (i + 1)) (i + 1) = (x, er) else (true, (0 : Int)) = (x, er)) := Lib.hid (by
                    rw [if_neg (by omega), ← HV.out, roadV_is _ hfar hcl hie])
                  clear hfar hcl h3 HV h4 j1 hik
                  subst hie
                  rcases h3' with j5 | ⟨j5, j6⟩
                  · go_wp2_with fail
                    refine HFar.out.mono ?_
                    rw [HFV.out]
                    rintro e2 w2 ⟨rfl, rfl⟩
                    simp only [Option.getD_some, Option.isSome_some]
                    go_wp2_with fail
                    go_roundw
                    case rel => exact ⟨i + 1, by go_num, by omega, by omega, HN, by first | rfl | trivial⟩
                    case measure => simp [intOf]; omega
                  · go_wp2_with fail
                    refine HFar.out.mono ?_
                    rw [HFV.out]
                    rintro e2 w2 ⟨rfl, rfl⟩
                    simp only [Option.getD_some, Option.isSome_some]
                    go_wp2_with fail
                    go_roundw
                    case rel => exact ⟨i + 1, by go_num, by omega, by omega, HN, by first | rfl | trivial⟩
                    case measure => simp [intOf]; omega
      · have j2 : ¬ (i : Int) ≤ (Ws.length : Int) := by omega
        have hfar : farV Ws i = none := by
          cases h : farV Ws i with
          | none => rfl
          | some d => exact absurd (farV_short h) hil
        have hno : (x, er) = (false, 0) := HV.out.symm.trans (roadV_none _ hfar)
        injection hno with hx her
        subst hx her
        clear hfar
        go_wp2_with fail
        skip
        go_wp2_with (go_at_call 12; with_reducible refine (HW.out _).mono ?_; rintro e w9 ⟨rfl, hb9⟩)
        go_ret
        exact ⟨rfl, HB.out.trans (hb9.mono HB.out.size)⟩
    · rw [if_neg hik] at HV
      have j1 : ¬ (i : Int) ≤ (k : Int) := by omega
      have hno := HV.out
      injection hno with hx her
      subst hx her
      go_wp2_with (go_at_call 12; with_reducible refine (HW.out _).mono ?_; rintro e w9 ⟨rfl, hb9⟩)
      go_ret
      exact ⟨rfl, HB.out.trans (hb9.mono HB.out.size)⟩
theorem walk (A : Option Addr) (n c t most bad avoid : Nat) (w : World) (hn : TripIn w A n) (ht : t < 256) (_ : most < 18446744073709551616) (_ : bad < 4294967296) (_ : avoid < 4294967296) :
    Calls Try.prog 8 #[.agg #[.slice A n c, .int .u8 (t : Int), .int .u64 (most : Int), .int .u32 (bad : Int), .int .u32 (avoid : Int)]] w (LawOk w) := by
  by_cases h : 30 < n
  · exact long A n c t most bad avoid w h ht
  · obtain ⟨l, rfl, hs⟩ := hn.l0 (by omega)
    exact short A l c t most bad avoid w hs (by omega) ht

set_option maxRecDepth 100000 in
theorem lifted (os : Os) (started : os.Started) (H : Type) (enc : TypeId × Value → H) :
    ReturnsInHanded {} Try.checked os 8 .any (Rows.witnessRoadsSpec.pre6 enc Try.prog Try.f8 Rows.witnessRoadsRow.domain false) (Rows.witnessRoadsSpec.post enc Try.prog Try.f8 false true false false) := by
  refine returnsInHanded_of_change (C := Try.checked) own_knob started (by kernel_rfl) Try.func8
    (ChangeSpec.witness6 (enc := enc) (C := Try.checked) false ⟨#[], #[.agg #[.slice none 0 0,.int .u8 0,.int .u64 0,.int .u32 0,.int .u32 0]], []⟩ 8 (by kernel_rfl) (by kernel_rfl) (by kernel_rfl) (by kernel_rfl)) ?_
  intro W base args ds gs before hval0 hW _ _
  have hval : ∀ (j : Nat) t v, Try.f8.params[j]? = some t → args[j]? = some v → Value.okWide Try.prog W .any base t v := hval0
  have hW' := hW
  obtain ⟨p, q, hA0, hV, rfl, _, _⟩ := hW
  have hA : DataW.TrodAll enc Try.prog W 0 (fun _ => true) true Try.f8.params.toList args.toList ds p := hA0
  rw [Try.params8] at hA hval
  obtain ⟨v0, vs0, d0, ds0, p0, q0, hargs, rfl, rfl, h0, r0⟩ := trodAll_cons hA
  obtain ⟨rfl, rfl, rfl⟩ := trodAll_nil r0
  obtain rfl : args = #[v0] := by cases args; simp_all
  obtain ⟨rfl, rfl⟩ := trodVars_none hV
  have hlt : ∀ x ∈ p0, x.block < W.heap.size := fun x hx => hW'.lt x (by simpa using hx)
  obtain ⟨A0, n0, c0, t0, most0, bad0, avoid0, rfl, hn0, ht0, hm0, hb0, ha0⟩ := open_trip (hval 0 54 v0 rfl rfl) h0 (fun x hx => hlt x (by simp [hx]))
  refine (walk A0 n0 c0 t0 most0 bad0 avoid0 W hn0 ht0 hm0 hb0 ha0).mono fun e W' ⟨he, hg⟩ => ?_
  subst he
  exact ⟨_, rfl, law_post hW' rfl (by kernel_rfl) rfl (by kernel_rfl) hg⟩

theorem proved : Rows.WitnessRoadsSaid :=
  OpenClaim.holds_of_wide 8 Try.f8 rfl rfl rfl rfl rfl rfl rfl ⟨rfl, rfl, rfl, rfl, rfl⟩ rfl rfl rfl rfl rfl (by kernel_rfl) Try.func8 (by kernel_rfl)
    (of_decide_eq_true (by kernel_rfl)) (by unfold Func.isWrapper; first | (rw [if_pos (by decide +kernel)]; kernel_rfl) | (rw [if_neg (by decide +kernel)]; exact ⟨rfl, rfl⟩))
    (fun os started H enc _ => lifted os started H enc)

end Go.Proofs.Ytpnmfhcmodoeiaa.witnessRoads
