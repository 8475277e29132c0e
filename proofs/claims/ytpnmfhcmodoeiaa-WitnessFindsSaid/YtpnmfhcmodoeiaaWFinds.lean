/- WitnessFinds: for any net and any question the call returns true: whether a short search finds a way, and of which vertices it asks for edges, in which order. No condition. -/
import Derived.Test.YtpnmfhcmodoeiaaLo
import Derived.Test.YtpnmfhcmodoeiaaLg
import Derived.Test.YtpnmfhcmodoeiaaRu
namespace Go.Proofs.Ytpnmfhcmodoeiaa.witnessFinds
open Go.ChangeShapes Go.WideShapes Go.ChangeAt Go.RowKit Go.Deep
set_option maxRecDepth 100000 in
theorem large (A B C : Option Addr) (n c m d k e : Nat) (a b t : Nat) (w : World) (h : largeB n m k = true) :
    Calls Try.prog 3 #[.agg #[.slice A n c, .slice B m d, .slice C k e], .agg #[.int .u32 (a : Int), .int .u32 (b : Int), .int .u64 (t : Int)]] w (LawOk w) := by
  have HW := Lib.hid works_any
  have HL := Lib.hid h
  clear h
  go_enter Try.func3, Try.ntmps3
  go_wp2_with fail
  refine (large_any A B C n c m d k e _).mono ?_
  rw [HL.out]
  rintro e1 w1 ⟨rfl, hb1⟩
  have HB1 : Hid (Below w.heap.size w w1) := Lib.hid ((((Below.refl _ _).alloc (Nat.le_refl _) _).alloc (by simp) _).trans (hb1.mono (by simp; omega)))
  clear hb1
  go_wp2_with (go_at_call 12; with_reducible refine (HW.out _).mono ?_; rintro e w9 ⟨rfl, hb9⟩)
  go_ret
  exact ⟨rfl, HB1.out.trans (hb9.mono HB1.out.size)⟩
theorem runs_len {out : Nat → List Edg × Int} {av : Nat → Bool} {to most k : Nat} {S : Nat → Bool} {f : Nat → Option Nat} {a : List Nat} {b : Bool} {e : Int} (h : Runs out av to most k S f a b e) : k ≤ 16 → a.length + k ≤ 16 := by
  induction h with
  | full | none | far | is => intro h; rw [List.length_nil]; omega
  | err k S f v d h => intro _; simp; omega
  | step k S f v d a b e h _ _ _ _ _ ih => intro _; have := ih (by omega); simp; omega
theorem finds_len {out : Nat → List Edg × Int} {av : Nat → Bool} {src to most : Nat} {a : List Nat} {b : Bool} {e : Int} (h : Finds out av src to most a b e) : a.length ≤ 16 := by
  have := runs_len h (by omega)
  omega
theorem log_new {B NB : Nat} {E : List Edg} {bad shun : List Nat} {w : World} (h : NetAt B NB E bad shun w) (hB : B ≤ w.heap.size) :
    LogAt B NB w.heap.size E bad shun [] (fun b => b = w.heap.size) (w.alloc (.cells #[.pointer (some ⟨NB, 0, none⟩), .slice none 0 0] 35)) :=
  ⟨h.below hB ((Below.refl _ _).alloc (Nat.le_refl _) _), none, 0, heap_alloc_new _ _, OwnS.nil _ _ _ _ _, fun b => by simp [Value.ownBlock]⟩
set_option maxRecDepth 100000 in
set_option maxHeartbeats 8000000 in
theorem walk (A B C : Option Addr) (n c m d k e : Nat) (a b t : Nat) (w : World) (hn : NetIn w A B C n m k) (ha : a < 4294967296) (_ : b < 4294967296) (_ : t < 18446744073709551616) :
    Calls Try.prog 3 #[.agg #[.slice A n c, .slice B m d, .slice C k e], .agg #[.int .u32 (a : Int), .int .u32 (b : Int), .int .u64 (t : Int)]] w (LawOk w) := by
  cases hL : largeB n m k with
  | true => exact large A B C n c m d k e a b t w hL
  | false =>
  have HW := Lib.hid works_any
  obtain ⟨E, bad, shun, rfl, rfl, rfl, hE, _, _, h0, h1, h2⟩ := hn.lists hL
  have HL := Lib.hid hL
  obtain ⟨W1, hW1, k1, k2, k3, k4, _⟩ := boxed_net c d e h0 h1 h2 (.cells #[.int .u32 (a : Int), .int .u32 (b : Int), .int .u64 (t : Int)] 29)
  have HW1 := Lib.hid hW1
  have HK1 := Lib.hid k1
  have HK2 := Lib.hid k2
  have HK4 := Lib.hid k4
  have HE := Lib.hid hE
  have HLG := Lib.hid (large_any A B C E.length c bad.length d shun.length e W1)
  have HK3 : Hid (w.heap.size < W1.heap.size) := Lib.hid (by omega)
  clear hn hL h0 h1 h2 hE k1 k2 k4 hW1 k3
  go_enter Try.func3, Try.ntmps3
  go_wp2_with fail
  rw [HW1.out]
  clear HW1
  refine HLG.out.mono ?_
  rw [HL.out]
  rintro e1 w1 ⟨rfl, hb1⟩
  clear HLG
  have hk1 := (hb1.block _ (Array.getElem?_eq_some_iff.1 HK4.out).1).trans HK4.out
  have HN1 := Lib.hid (HK1.out.nets (Nat.le_refl _) hb1 hb1.size)
  have HB1 : Hid (Below w.heap.size w w1) := Lib.hid (HK2.out.trans (hb1.mono HK2.out.size))
  have HNL : Hid (w.heap.size < w1.heap.size) := Lib.hid (Nat.lt_of_lt_of_le HK3.out hb1.size)
  obtain ⟨W2, hW2⟩ : ∃ W2, w1.alloc (.cells #[.pointer (some ⟨w.heap.size, 0, none⟩), .slice none 0 0] 35) = W2 := ⟨_, rfl⟩
  have hlg := log_new HN1.out (Nat.le_refl _)
  have hb2 : Below w1.heap.size w1 W2 := by rw [← hW2]; exact (Below.refl _ _).alloc (Nat.le_refl _) _
  rw [hW2] at hlg
  have HLog := Lib.hid hlg
  have hk2 := (hb2.block _ (Array.getElem?_eq_some_iff.1 hk1).1).trans hk1
  have HW2 := Lib.hid hW2
  have HC := Lib.hid hk2
  have c0 : W2.cell? ⟨w.heap.size + 1, 0, none⟩ = some (.int .u32 (a : Int)) := cell_of_row _ _ 0 _ _ _ hk2
  have c1 : W2.cell? ⟨w.heap.size + 1, 1, none⟩ = some (.int .u32 (b : Int)) := cell_of_row _ _ 1 _ _ _ hk2
  have c2 : W2.cell? ⟨w.heap.size + 1, 2, none⟩ = some (.int .u64 (t : Int)) := cell_of_row _ _ 2 _ _ _ hk2
  have lA : w.heap.size + 1 < w1.heap.size := (Array.getElem?_eq_some_iff.1 hk1).1
  have b0 : ∀ o, (w1.alloc o).cell? ⟨w.heap.size + 1, 0, none⟩ = some (.int .u32 (a : Int)) := fun o => by rw [World.cell?_alloc_past _ _ _ lA]; exact cell_of_row _ _ 0 _ _ _ hk1
  have b1 : ∀ o, (w1.alloc o).cell? ⟨w.heap.size + 1, 1, none⟩ = some (.int .u32 (b : Int)) := fun o => by rw [World.cell?_alloc_past _ _ _ lA]; exact cell_of_row _ _ 1 _ _ _ hk1
  have b2 : ∀ o, (w1.alloc o).cell? ⟨w.heap.size + 1, 2, none⟩ = some (.int .u64 (t : Int)) := fun o => by rw [World.cell?_alloc_past _ _ _ lA]; exact cell_of_row _ _ 2 _ _ _ hk1
  have HLA := Lib.hid lA
  have HB2 : Hid (Below w.heap.size w W2) := Lib.hid (HB1.out.trans (hb2.mono HB1.out.size))
  have HLs : Hid (w1.heap.size < W2.heap.size) := Lib.hid hlg.lt
  clear hb1 hk1 HK1 HK2 HK4 hW2 hlg hb2 hk2 HK3 c0 c1 c2 lA
  go_wp2_with fail
  rw [HW2.out]
  clear HW2 b0 b1 b2
  refine (find_log w1.heap.size w.heap.size w1.heap.size E bad shun a b t ha _ W2 HLog.out HNL.out (Nat.le_refl _) (by have := HE.out; omega)).mono ?_
  rintro e1 w3 ⟨p, x, er, O', f1, rfl, hlg3, hb3⟩
  have hk3 := (hb3.block _ HLA.out).trans HC.out
  have c0 : w3.cell? ⟨w.heap.size + 1, 0, none⟩ = some (.int .u32 (a : Int)) := cell_of_row _ _ 0 _ _ _ hk3
  have c1 : w3.cell? ⟨w.heap.size + 1, 1, none⟩ = some (.int .u32 (b : Int)) := cell_of_row _ _ 1 _ _ _ hk3
  have c2 : w3.cell? ⟨w.heap.size + 1, 2, none⟩ = some (.int .u64 (t : Int)) := cell_of_row _ _ 2 _ _ _ hk3
  have HB3 : Hid (Below w.heap.size w w3) := Lib.hid (HB2.out.trans (hb3.mono (Nat.le_of_lt HNL.out)))
  have HL3 := Lib.hid hlg3
  have HF1 := Lib.hid f1
  have HRf := Lib.hid (run_ref w1.heap.size w.heap.size E bad shun a b t w3 hlg3.net (Nat.le_of_lt hlg3.lt) HE.out)
  clear f1 hlg3 hb3 hk3 HB2 HB1 HC HLA HLs HLog HN1
  have HNLs := Lib.hid (Nat.le_of_lt HNL.out)
  generalize w1.heap.size = LB at *
  go_wp2_with fail
  refine HRf.out.mono ?_
  rintro e1 w4 ⟨p2, x2, er2, Q, q, f2, rfl, ho, hb4⟩
  obtain ⟨rfl, rfl, rfl⟩ := Runs.det HF1.out f2
  obtain ⟨Q1, q1, k1, k2, _⟩ := (HL3.out.below (Nat.le_refl _) hb4).lb
  have d1 : w4.cell? ⟨LB, 1, none⟩ = some (.slice Q1 p.length q1) := cell_of_row _ _ 1 _ _ _ k1
  have HB4 : Hid (Below w.heap.size w w4) := Lib.hid (HB3.out.trans (hb4.mono HB3.out.size))
  have hpl : p.length ≤ 4611686018427387904 := by
    have h := finds_len HF1.out
    omega
  have HV1 := Lib.hid (own_vls k2 hpl)
  have HV2 := Lib.hid (own_vls ho hpl)
  clear f2 k1 k2 ho hb4 HL3 HB3 HRf c0 c1 c2 HF1
  cases x
  all_goals
    go_wp2_with fail
    go_loopw [11] (fun vi wr => ∃ i n : Nat, vi = .int .i64 i ∧ i ≤ p.length ∧ wr = w4.drewN n) (fun vi _ => p.length - (intOf vi).toNat)
    case atStart => exact ⟨0, 0, rfl, by omega, rfl⟩
    case round =>
      obtain ⟨i, n, rfl, hi, rfl⟩ := hrel
      by_cases hlt : i < p.length
      · have i1 : (i : Int) < (p.length : Int) := by omega
        have i2 : (0 : Int) ≤ (i : Int) := by omega
        obtain ⟨b1, o1, hA1, _, e1⟩ := VLs.at' HV1.out i hlt
        obtain ⟨b2, o2, hA2, _, e2⟩ := VLs.at' HV2.out i hlt
        subst hA1 hA2
        generalize p[i] = y at *
        go_wp2_with fail
        go_quiet (fail)
        go_wp2_with fail
        go_roundw
        case rel => exact ⟨i + 1, n + nq, by go_num, by omega, by first | rfl | rw [World.drewN_drewN]⟩
        case measure => simp [intOf]; omega
      · have i1 : ¬ (i : Int) < (p.length : Int) := by omega
        have hie : i = p.length := by omega
        subst hie
        have HBn := Lib.hid (below_drewN HB4.out n)
        go_wp2_with (go_at_call 12; with_reducible refine (HW.out _).mono ?_; rintro e w9 ⟨rfl, hb9⟩)
        go_ret
        exact ⟨rfl, HBn.out.trans (hb9.mono HBn.out.size)⟩

set_option maxRecDepth 100000 in
theorem lifted (os : Os) (started : os.Started) (H : Type) (enc : TypeId × Value → H) :
    ReturnsInHanded {} Try.checked os 3 .any (Rows.witnessFindsSpec.pre6 enc Try.prog Try.f3 Rows.witnessFindsRow.domain false) (Rows.witnessFindsSpec.post enc Try.prog Try.f3 false true false false) := by
  refine returnsInHanded_of_change (C := Try.checked) own_knob started (by kernel_rfl) Try.func3
    (ChangeSpec.witness6 (enc := enc) (C := Try.checked) false ⟨#[], #[.agg #[.slice none 0 0,.slice none 0 0,.slice none 0 0], .agg #[.int .u32 0,.int .u32 0,.int .u64 0]], []⟩ 8 (by kernel_rfl) (by kernel_rfl) (by kernel_rfl) (by kernel_rfl)) ?_
  intro W base args ds gs before hval0 hW _ _
  have hval : ∀ (j : Nat) t v, Try.f3.params[j]? = some t → args[j]? = some v → Value.okWide Try.prog W .any base t v := hval0
  have hW' := hW
  obtain ⟨p, q, hA0, hV, rfl, _, _⟩ := hW
  have hA : DataW.TrodAll enc Try.prog W 0 (fun _ => true) true Try.f3.params.toList args.toList ds p := hA0
  rw [Try.params3] at hA hval
  obtain ⟨v0, vs0, d0, ds0, p0, q0, hargs, rfl, rfl, h0, r0⟩ := trodAll_cons hA
  obtain ⟨v1, vs1, d1, ds1, p1, q1, rfl, rfl, rfl, h1, r1⟩ := trodAll_cons r0
  obtain ⟨rfl, rfl, rfl⟩ := trodAll_nil r1
  obtain rfl : args = #[v0, v1] := by cases args; simp_all
  obtain ⟨rfl, rfl⟩ := trodVars_none hV
  have hlt : ∀ x ∈ p0 ++ (p1), x.block < W.heap.size := fun x hx => hW'.lt x (by simpa using hx)
  obtain ⟨A0, B0, C0, n0, c0, m0, d0, k0, e0, rfl, hn0⟩ := open_net (hval 0 25 v0 rfl rfl) h0 (fun x hx => hlt x (by simp [hx]))
  obtain ⟨src1, to1, most1, rfl, hs1, ht1, hm1⟩ := open_ask (hval 1 29 v1 rfl rfl) h1 (fun x hx => hlt x (by simp [hx]))
  refine (walk A0 B0 C0 n0 c0 m0 d0 k0 e0 src1 to1 most1 W hn0 hs1 ht1 hm1).mono fun e W' ⟨he, hg⟩ => ?_
  subst he
  exact ⟨_, rfl, law_post hW' rfl (by kernel_rfl) rfl (by kernel_rfl) hg⟩

theorem proved : Rows.WitnessFindsSaid :=
  OpenClaim.holds_of_wide 3 Try.f3 rfl rfl rfl rfl rfl rfl rfl ⟨rfl, rfl, rfl, rfl, rfl⟩ rfl rfl rfl rfl rfl (by kernel_rfl) Try.func3 (by kernel_rfl)
    (of_decide_eq_true (by kernel_rfl)) (by unfold Func.isWrapper; first | (rw [if_pos (by decide +kernel)]; kernel_rfl) | (rw [if_neg (by decide +kernel)]; exact ⟨rfl, rfl⟩))
    (fun os started H enc _ => lifted os started H enc)

end Go.Proofs.Ytpnmfhcmodoeiaa.witnessFinds
