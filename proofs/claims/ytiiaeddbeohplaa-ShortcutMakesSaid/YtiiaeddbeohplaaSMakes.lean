/- ShortcutMakes: for any net and any vertex the call returns true: Make tells the shortcuts of a vertex, Count how many they are, or the first error, as the document says. No condition. -/
import Derived.Test.YtiiaeddbeohplaaL7
import Derived.Test.YtiiaeddbeohplaaTw
import Derived.Test.YtiiaeddbeohplaaRm
namespace Go.Proofs.Ytiiaeddbeohplaa.shortcutMakes
open Go.ChangeShapes Go.WideShapes Go.ChangeAt Go.RowKit Go.Deep
set_option maxRecDepth 100000 in
theorem large (A B C : Option Addr) (n c m d k e : Nat) (v : Nat) (w : World) (h : largeB n m k = true) : Calls Try.prog 3 #[.agg #[.slice A n c, .slice B m d, .slice C k e], .int .u32 (v : Int)] w (LawOk w) := by
  have HW := Lib.hid works_any
  have HL := Lib.hid h
  clear h
  go_enter Try.func3, Try.ntmps3
  go_wp2_with fail
  refine (large_any A B C n c m d k e _).mono ?_
  rw [HL.out]
  rintro e1 w1 ⟨rfl, hb1⟩
  have HB1 : Hid (Below w.heap.size w w1) := Lib.hid (((Below.refl _ _).alloc (Nat.le_refl _) _).trans (hb1.mono (by simp)))
  clear hb1
  go_wp2_with (go_at_call 11; with_reducible refine (HW.out _).mono ?_; rintro e w9 ⟨rfl, hb9⟩)
  go_ret
  exact ⟨rfl, HB1.out.trans (hb9.mono HB1.out.size)⟩
set_option maxRecDepth 100000 in
set_option maxHeartbeats 16000000 in
theorem walk (A B C : Option Addr) (n c m d k e : Nat) (v : Nat) (w : World) (hn : NetIn w A B C n m k) (hv : v < 4294967296) :
    Calls Try.prog 3 #[.agg #[.slice A n c, .slice B m d, .slice C k e], .int .u32 (v : Int)] w (LawOk w) := by
  cases hL : largeB n m k with
  | true => exact large A B C n c m d k e v w hL
  | false =>
  have HW := Lib.hid works_any
  obtain ⟨E, bad, shun, rfl, rfl, rfl, hE, hbl, hsl, h0, h1, h2⟩ := hn.lists hL
  have HL := Lib.hid hL
  obtain ⟨W1, hW1, k1, k2, k3, k4⟩ := boxed_net c d e h0 h1 h2
  have HW1 := Lib.hid hW1
  have HK1 := Lib.hid k1
  have HK2 := Lib.hid k2
  have HLG := Lib.hid (large_any A B C E.length c bad.length d shun.length e W1)
  have HM1 := Lib.hid (fun (w1 : World) NB (hn : NetAt w1.heap.size NB E bad shun w1) => make_net NB E bad shun v hv w1 hn (by omega))
  have HM2 := Lib.hid (fun (w1 : World) NB (hn : NetAt w1.heap.size NB E bad shun w1) => ref_make NB E bad shun v hv w1 hn (by omega) (by omega))
  have HC1 := Lib.hid (fun (w1 : World) NB (hn : NetAt w1.heap.size NB E bad shun w1) => count_net NB E bad shun v hv w1 hn (by omega))
  have HC2 := Lib.hid (fun (w1 : World) NB (hn : NetAt w1.heap.size NB E bad shun w1) => ref_count NB E bad shun v hv w1 hn (by omega))
  generalize (makeR (netOut E bad) (netIn E bad) (inB shun) v hv).1 = L at *
  generalize (makeR (netOut E bad) (netIn E bad) (inB shun) v hv).2 = er at *
  generalize (countR (netOut E bad) (netIn E bad) v hv).1 = n1 at *
  generalize (countR (netOut E bad) (netIn E bad) v hv).2.1 = n2 at *
  generalize (countR (netOut E bad) (netIn E bad) v hv).2.2.1 = n3 at *
  generalize (countR (netOut E bad) (netIn E bad) v hv).2.2.2 = er2 at *
  clear hn hL h0 h1 h2 k1 k2 k3 k4 hW1
  go_enter Try.func3, Try.ntmps3
  go_wp2_with fail
  rw [HW1.out]
  clear HW1
  refine HLG.out.mono ?_
  rw [HL.out]
  rintro e1 w1 ⟨rfl, hb1⟩
  clear HLG HL
  have HN1 := Lib.hid (HK1.out.nets (Nat.le_refl _) hb1 hb1.size)
  have HB1 : Hid (Below w.heap.size w w1) := Lib.hid (HK2.out.trans (hb1.mono HK2.out.size))
  clear hb1 HK1 HK2
  go_wp2_with fail
  refine (HM1.out w1 w.heap.size HN1.out).mono ?_
  rintro e1 w2 ⟨P, p, rfl, hl2, hb2⟩
  have HL2 := Lib.hid hl2
  have HN2 := Lib.hid (HN1.out.nets (Nat.le_refl _) hb2 hb2.size)
  have HB2 : Hid (Below w.heap.size w w2) := Lib.hid (HB1.out.trans (hb2.mono HB1.out.size))
  clear hl2 hb2 HN1 HB1 HM1
  go_wp2_with fail
  refine (HM2.out w2 w.heap.size HN2.out).mono ?_
  rintro e1 w3 ⟨P', p', rfl, hl3, hb3⟩
  have HL3 := Lib.hid hl3
  have HL2b := Lib.hid ((HL2.out.below hb3).more hb3.size)
  have HN3 := Lib.hid (HN2.out.nets (Nat.le_refl _) hb3 hb3.size)
  have HB3 : Hid (Below w.heap.size w w3) := Lib.hid (HB2.out.trans (hb3.mono HB2.out.size))
  clear hl3 hb3 HN2 HB2 HM2 HL2
  go_wp2_with fail
  refine (HC1.out w3 w.heap.size HN3.out).mono ?_
  rintro e1 w4 ⟨rfl, hb4⟩
  have HL4 := Lib.hid ((HL3.out.below hb4).more hb4.size)
  have HL4b := Lib.hid ((HL2b.out.below hb4).more hb4.size)
  have HN4 := Lib.hid (HN3.out.nets (Nat.le_refl _) hb4 hb4.size)
  have HB4 : Hid (Below w.heap.size w w4) := Lib.hid (HB3.out.trans (hb4.mono HB3.out.size))
  clear hb4 HN3 HB3 HC1 HL3 HL2b
  go_wp2_with fail
  refine (HC2.out w4 w.heap.size HN4.out).mono ?_
  rintro e1 w5 ⟨rfl, hb5⟩
  have HL5 := Lib.hid ((HL4.out.below hb5).more hb5.size)
  have HL5b := Lib.hid ((HL4b.out.below hb5).more hb5.size)
  have HB5 : Hid (Below w.heap.size w w5) := Lib.hid (HB4.out.trans (hb5.mono HB4.out.size))
  clear hb5 HN4 HB4 HC2 HL4 HL4b
  have HEq := Lib.hid (eq_same w5.heap.size w5.heap.size P P' L p p' w5 HL5b.out HL5.out)
  clear HL5 HL5b
  go_wp2_with fail
  refine HEq.out.mono ?_
  rintro e1 w6 ⟨rfl, hd⟩
  have HB6 : Hid (Below w.heap.size w w6) := Lib.hid (HB5.out.trans (hd.below _))
  clear hd HEq HB5
  go_wp2_with (go_at_call 11; with_reducible refine (HW.out _).mono ?_; rintro e w9 ⟨rfl, hb9⟩)
  go_ret
  exact ⟨rfl, HB6.out.trans (hb9.mono HB6.out.size)⟩

set_option maxRecDepth 100000 in
theorem lifted (os : Os) (started : os.Started) (H : Type) (enc : TypeId × Value → H) :
    ReturnsInHanded {} Try.checked os 3 .any (Rows.shortcutMakesSpec.pre6 enc Try.prog Try.f3 Rows.shortcutMakesRow.domain false) (Rows.shortcutMakesSpec.post enc Try.prog Try.f3 false true false false) := by
  refine returnsInHanded_of_change (C := Try.checked) own_knob started (by kernel_rfl) Try.func3
    (ChangeSpec.witness6 (enc := enc) (C := Try.checked) false ⟨#[], #[.agg #[.slice none 0 0,.slice none 0 0,.slice none 0 0], .int .u32 0], []⟩ 8 (by kernel_rfl) (by kernel_rfl) (by kernel_rfl) (by kernel_rfl)) ?_
  intro W base args ds gs before hval0 hW _ _
  have hval : ∀ (j : Nat) t v, Try.f3.params[j]? = some t → args[j]? = some v → Value.okWide Try.prog W .any base t v := hval0
  have hW' := hW
  obtain ⟨p, q, hA0, hV, rfl, _, _⟩ := hW
  have hA : DataW.TrodAll enc Try.prog W 0 (fun _ => true) true Try.f3.params.toList args.toList ds p := hA0
  rw [Try.params3] at hA hval
  obtain ⟨v0, vs0, d0, ds0, p0, q0, hargs, rfl, rfl, h0, r0⟩ := trodAll_cons hA
  obtain ⟨v1, vs1, d1, ds1, p1, q1, rfl, rfl, rfl, h1, r1⟩ := trodAll_cons r0
  obtain ⟨rfl, rfl, rfl⟩ := trodAll_nil r1
  obtain rfl : args = #[v0, v1] := by cases args; simp_all
  obtain ⟨rfl, rfl⟩ := trodVars_none hV
  have hlt : ∀ x ∈ p0 ++ (p1), x.block < W.heap.size := fun x hx => hW'.lt x (by simpa using hx)
  obtain ⟨A0, B0, C0, n0, c0, m0, d0, k0, e0, rfl, hn0⟩ := open_net (hval 0 25 v0 rfl rfl) h0 (fun x hx => hlt x (by simp [hx]))
  obtain ⟨z1, rfl, rfl, rfl, w1⟩ := open_int Try.underlying26 (hval 1 26 v1 rfl rfl) h1
  obtain ⟨x1, rfl, hx1⟩ := u32_bounds w1
  refine (walk A0 B0 C0 n0 c0 m0 d0 k0 e0 x1 W hn0 hx1).mono fun e W' ⟨he, hg⟩ => ?_
  subst he
  exact ⟨_, rfl, law_post hW' rfl (by kernel_rfl) rfl (by kernel_rfl) hg⟩

theorem proved : Rows.ShortcutMakesSaid :=
  OpenClaim.holds_of_wide 3 Try.f3 rfl rfl rfl rfl rfl rfl rfl ⟨rfl, rfl, rfl, rfl, rfl⟩ rfl rfl rfl rfl rfl (by kernel_rfl) Try.func3 (by kernel_rfl)
    (of_decide_eq_true (by kernel_rfl)) (by unfold Func.isWrapper; first | (rw [if_pos (by decide +kernel)]; kernel_rfl) | (rw [if_neg (by decide +kernel)]; exact ⟨rfl, rfl⟩))
    (fun os started H enc _ => lifted os started H enc)

end Go.Proofs.Ytiiaeddbeohplaa.shortcutMakes
