/- WitnessMore: for any net, any question and any number the call returns true: who is allowed more is not told no where less was enough. No condition. -/
import Derived.Test.YtpnmfhcmodoeiaaLg
namespace Go.Proofs.Ytpnmfhcmodoeiaa.witnessMore
open Go.ChangeShapes Go.WideShapes Go.ChangeAt Go.RowKit Go.Deep
theorem runs_more {out : Nat → List Edg × Int} {av : Nat → Bool} {to most more k : Nat} {S : Nat → Bool} {f : Nat → Option Nat} {a : List Nat} {b : Bool} {e : Int} (h : Runs out av to most k S f a b e) (hm : most ≤ more) (hb : b = true) :
    Runs out av to more k S f a b e ∧ e = 0 := by
  induction h with
  | full S f => cases hb
  | none k S f h => cases hb
  | far k S f v d h1 h2 => cases hb
  | is k S f d h1 h2 h3 => exact ⟨.is k S f d h1 h2 (by omega), rfl⟩
  | err k S f v d => cases hb
  | step k S f v d a b e h1 h2 h3 h4 h5 _ ih => exact ⟨.step k S f v d a b e h1 h2 (by omega) h4 h5 (ih hb).1, (ih hb).2⟩
theorem finds_more {out : Nat → List Edg × Int} {av : Nat → Bool} {src to most more : Nat} {a a' : List Nat} {b' : Bool} {e e' : Int} (h : Finds out av src to most a true e) (h' : Finds out av src to more a' b' e') (hm : most ≤ more) : b' = true ∧ e = 0 ∧ e' = 0 := by
  obtain ⟨h1, h2⟩ := runs_more h hm rfl
  obtain ⟨_, h3, h4⟩ := Runs.det h1 h'
  exact ⟨h3.symm, h2, h4.symm.trans h2⟩
set_option maxRecDepth 100000 in
theorem large (A B C : Option Addr) (n c m d k e : Nat) (a b t more : Nat) (w : World) (h : largeB n m k = true ∨ more < t) :
    Calls Try.prog 5 #[.agg #[.slice A n c, .slice B m d, .slice C k e], .agg #[.int .u32 (a : Int), .int .u32 (b : Int), .int .u64 (t : Int)], .int .u64 (more : Int)] w (LawOk w) := by
  have HW := Lib.hid works_any
  cases hL : largeB n m k with
  | true =>
    have HL := Lib.hid hL
    clear h hL
    go_enter Try.func5, Try.ntmps5
    go_wp2_with fail
    refine (large_any A B C n c m d k e _).mono ?_
    rw [HL.out]
    rintro e1 w1 ⟨rfl, hb1⟩
    have HB1 : Hid (Below w.heap.size w w1) := Lib.hid ((((Below.refl _ _).alloc (Nat.le_refl _) _).alloc (by simp) _).trans (hb1.mono (by simp; omega)))
    clear hb1
    go_wp2_with (go_at_call 12; with_reducible refine (HW.out _).mono ?_; rintro e w9 ⟨rfl, hb9⟩)
    go_ret
    exact ⟨rfl, HB1.out.trans (hb9.mono HB1.out.size)⟩
  | false =>
    have hm : more < t := by
      rcases h with h | h
      · rw [hL] at h; cases h
      · exact h
    have g1 : (more : Int) < (t : Int) := by omega
    have HL := Lib.hid hL
    clear h hL
    go_enter Try.func5, Try.ntmps5
    go_wp2_with fail
    obtain ⟨W1, hW1⟩ : ∃ W1, (w.alloc (.cells #[.slice A n c, .slice B m d, .slice C k e] 25)).alloc (.cells #[.int .u32 (a : Int), .int .u32 (b : Int), .int .u64 (t : Int)] 29) = W1 := ⟨_, rfl⟩
    have hk : W1.heap[w.heap.size + 1]? = some (.cells #[.int .u32 (a : Int), .int .u32 (b : Int), .int .u64 (t : Int)] 29 (0, 0)) := by
      rw [← hW1]
      have := heap_alloc_new (w.alloc (.cells #[.slice A n c, .slice B m d, .slice C k e] 25)) (.cells #[.int .u32 (a : Int), .int .u32 (b : Int), .int .u64 (t : Int)] 29)
      rw [World.size_alloc] at this
      exact this
    have hbw : Below w.heap.size w W1 := by rw [← hW1]; exact ((Below.refl _ _).alloc (Nat.le_refl _) _).alloc (by simp) _
    rw [hW1]
    refine (large_any A B C n c m d k e W1).mono ?_
    rw [HL.out]
    rintro e1 w1 ⟨rfl, hb1⟩
    have hk1 : w1.heap[w.heap.size + 1]? = _ := (hb1.block _ (Array.getElem?_eq_some_iff.1 hk).1).trans hk
    have c2 : w1.cell? ⟨w.heap.size + 1, 2, none⟩ = some (.int .u64 (t : Int)) := cell_of_row _ _ 2 _ _ _ hk1
    have HB1 : Hid (Below w.heap.size w w1) := Lib.hid (hbw.trans (hb1.mono hbw.size))
    clear hb1 hbw hk hk1 hW1
    go_wp2_with (go_at_call 12; with_reducible refine (HW.out _).mono ?_; rintro e w9 ⟨rfl, hb9⟩)
    go_ret
    exact ⟨rfl, HB1.out.trans (hb9.mono HB1.out.size)⟩
set_option maxRecDepth 100000 in
set_option maxHeartbeats 4000000 in
theorem walk (A B C : Option Addr) (n c m d k e : Nat) (a b t more : Nat) (w : World) (hn : NetIn w A B C n m k) (ha : a < 4294967296) (_ : b < 4294967296) (_ : t < 18446744073709551616) (_ : more < 18446744073709551616) :
    Calls Try.prog 5 #[.agg #[.slice A n c, .slice B m d, .slice C k e], .agg #[.int .u32 (a : Int), .int .u32 (b : Int), .int .u64 (t : Int)], .int .u64 (more : Int)] w (LawOk w) := by
  by_cases hl : largeB n m k = true ∨ more < t
  · exact large A B C n c m d k e a b t more w hl
  have hL : largeB n m k = false := by
    cases h : largeB n m k with
    | true => exact absurd (.inl h) hl
    | false => rfl
  have htm : t ≤ more := by
    rcases Nat.lt_or_ge more t with h | h
    · exact absurd (.inr h) hl
    · exact h
  have HW := Lib.hid works_any
  obtain ⟨E, bad, shun, rfl, rfl, rfl, hE, _, _, h0, h1, h2⟩ := hn.lists hL
  have HL := Lib.hid hL
  have g1 : ¬ (more : Int) < (t : Int) := by omega
  obtain ⟨W1, hW1, k1, k2, k3, k4, _⟩ := boxed_net c d e h0 h1 h2 (.cells #[.int .u32 (a : Int), .int .u32 (b : Int), .int .u64 (t : Int)] 29)
  have HW1 := Lib.hid hW1
  have HK1 := Lib.hid k1
  have HK2 := Lib.hid k2
  have HK4 := Lib.hid k4
  have HE := Lib.hid hE
  have HLG := Lib.hid (large_any A B C E.length c bad.length d shun.length e W1)
  have HT := Lib.hid htm
  clear hn hl hL h0 h1 h2 hE k1 k2 k4 htm hW1
  go_enter Try.func5, Try.ntmps5
  go_wp2_with fail
  rw [HW1.out]
  clear HW1
  refine HLG.out.mono ?_
  rw [HL.out]
  rintro e1 w1 ⟨rfl, hb1⟩
  clear HLG
  have hk1 := (hb1.block _ (Array.getElem?_eq_some_iff.1 HK4.out).1).trans HK4.out
  have c0 : w1.cell? ⟨w.heap.size + 1, 0, none⟩ = some (.int .u32 (a : Int)) := cell_of_row _ _ 0 _ _ _ hk1
  have c1 : w1.cell? ⟨w.heap.size + 1, 1, none⟩ = some (.int .u32 (b : Int)) := cell_of_row _ _ 1 _ _ _ hk1
  have c2 : w1.cell? ⟨w.heap.size + 1, 2, none⟩ = some (.int .u64 (t : Int)) := cell_of_row _ _ 2 _ _ _ hk1
  have HN1 := Lib.hid (HK1.out.nets (Nat.le_refl _) hb1 hb1.size)
  have HB1 : Hid (Below w.heap.size w w1) := Lib.hid (HK2.out.trans (hb1.mono HK2.out.size))
  have HC := Lib.hid hk1
  clear hb1 hk1 HK1 HK2 HK4
  go_wp2_with fail
  refine (find_net w.heap.size E bad shun a b t ha w1 HN1.out (by have := HE.out; omega)).mono ?_
  rintro e1 w2 ⟨a1, q1, r1, f1, rfl, hb2⟩
  have hk2 := (hb2.block _ (Array.getElem?_eq_some_iff.1 HC.out).1).trans HC.out
  have d0 : w2.cell? ⟨w.heap.size + 1, 0, none⟩ = some (.int .u32 (a : Int)) := cell_of_row _ _ 0 _ _ _ hk2
  have d1 : w2.cell? ⟨w.heap.size + 1, 1, none⟩ = some (.int .u32 (b : Int)) := cell_of_row _ _ 1 _ _ _ hk2
  have HN2 := Lib.hid (HN1.out.nets (Nat.le_refl _) hb2 hb2.size)
  have HB2 : Hid (Below w.heap.size w w2) := Lib.hid (HB1.out.trans (hb2.mono HB1.out.size))
  have HF1 := Lib.hid f1
  clear hb2 hk2 f1 c0 c1 c2 HC HN1 HB1
  go_wp2_with fail
  refine (find_net w.heap.size E bad shun a b more ha w2 HN2.out (by have := HE.out; omega)).mono ?_
  rintro e1 w3 ⟨a2, q2, r2, f2, rfl, hb3⟩
  have HB3 : Hid (Below w.heap.size w w3) := Lib.hid (HB2.out.trans (hb3.mono HB2.out.size))
  have HF2 := Lib.hid f2
  clear hb3 f2 d0 d1 HN2 HB2
  cases q1 with
  | false =>
    go_wp2_with (go_at_call 12; with_reducible refine (HW.out _).mono ?_; rintro e w9 ⟨rfl, hb9⟩)
    go_ret
    exact ⟨rfl, HB3.out.trans (hb9.mono HB3.out.size)⟩
  | true =>
    obtain ⟨rfl, rfl, rfl⟩ := finds_more HF1.out HF2.out HT.out
    go_wp2_with (go_at_call 12; with_reducible refine (HW.out _).mono ?_; rintro e w9 ⟨rfl, hb9⟩)
    go_ret
    exact ⟨rfl, HB3.out.trans (hb9.mono HB3.out.size)⟩

set_option maxRecDepth 100000 in
theorem lifted (os : Os) (started : os.Started) (H : Type) (enc : TypeId × Value → H) :
    ReturnsInHanded {} Try.checked os 5 .any (Rows.witnessMoreSpec.pre6 enc Try.prog Try.f5 Rows.witnessMoreRow.domain false) (Rows.witnessMoreSpec.post enc Try.prog Try.f5 false true false false) := by
  refine returnsInHanded_of_change (C := Try.checked) own_knob started (by kernel_rfl) Try.func5
    (ChangeSpec.witness6 (enc := enc) (C := Try.checked) false ⟨#[], #[.agg #[.slice none 0 0,.slice none 0 0,.slice none 0 0], .agg #[.int .u32 0,.int .u32 0,.int .u64 0], .int .u64 0], []⟩ 8 (by kernel_rfl) (by kernel_rfl) (by kernel_rfl) (by kernel_rfl)) ?_
  intro W base args ds gs before hval0 hW _ _
  have hval : ∀ (j : Nat) t v, Try.f5.params[j]? = some t → args[j]? = some v → Value.okWide Try.prog W .any base t v := hval0
  have hW' := hW
  obtain ⟨p, q, hA0, hV, rfl, _, _⟩ := hW
  have hA : DataW.TrodAll enc Try.prog W 0 (fun _ => true) true Try.f5.params.toList args.toList ds p := hA0
  rw [Try.params5] at hA hval
  obtain ⟨v0, vs0, d0, ds0, p0, q0, hargs, rfl, rfl, h0, r0⟩ := trodAll_cons hA
  obtain ⟨v1, vs1, d1, ds1, p1, q1, rfl, rfl, rfl, h1, r1⟩ := trodAll_cons r0
  obtain ⟨v2, vs2, d2, ds2, p2, q2, rfl, rfl, rfl, h2, r2⟩ := trodAll_cons r1
  obtain ⟨rfl, rfl, rfl⟩ := trodAll_nil r2
  obtain rfl : args = #[v0, v1, v2] := by cases args; simp_all
  obtain ⟨rfl, rfl⟩ := trodVars_none hV
  have hlt : ∀ x ∈ p0 ++ (p1 ++ (p2)), x.block < W.heap.size := fun x hx => hW'.lt x (by simpa using hx)
  obtain ⟨A0, B0, C0, n0, c0, m0, d0, k0, e0, rfl, hn0⟩ := open_net (hval 0 25 v0 rfl rfl) h0 (fun x hx => hlt x (by simp [hx]))
  obtain ⟨src1, to1, most1, rfl, hs1, ht1, hm1⟩ := open_ask (hval 1 29 v1 rfl rfl) h1 (fun x hx => hlt x (by simp [hx]))
  obtain ⟨z2, rfl, rfl, rfl, w2⟩ := open_int Try.underlying27 (hval 2 27 v2 rfl rfl) h2
  obtain ⟨x2, rfl, hx2⟩ := u64_bounds w2
  refine (walk A0 B0 C0 n0 c0 m0 d0 k0 e0 src1 to1 most1 x2 W hn0 hs1 ht1 hm1 hx2).mono fun e W' ⟨he, hg⟩ => ?_
  subst he
  exact ⟨_, rfl, law_post hW' rfl (by kernel_rfl) rfl (by kernel_rfl) hg⟩

theorem proved : Rows.WitnessMoreSaid :=
  OpenClaim.holds_of_wide 5 Try.f5 rfl rfl rfl rfl rfl rfl rfl ⟨rfl, rfl, rfl, rfl, rfl⟩ rfl rfl rfl rfl rfl (by kernel_rfl) Try.func5 (by kernel_rfl)
    (of_decide_eq_true (by kernel_rfl)) (by unfold Func.isWrapper; first | (rw [if_pos (by decide +kernel)]; kernel_rfl) | (rw [if_neg (by decide +kernel)]; exact ⟨rfl, rfl⟩))
    (fun os started H enc _ => lifted os started H enc)

end Go.Proofs.Ytpnmfhcmodoeiaa.witnessMore
