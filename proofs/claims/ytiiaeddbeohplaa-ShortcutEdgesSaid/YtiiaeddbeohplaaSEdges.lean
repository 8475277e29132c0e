/- ShortcutEdges: for any three weights the call returns true: where there is an edge already a shortcut is made just if that is longer. No condition. -/
import Derived.Test.YtiiaeddbeohplaaSe
import Derived.Test.YtiiaeddbeohplaaW7
import Derived.Test.YtiiaeddbeohplaaLaw
import Derived.Test.YtiiaeddbeohplaaBd
namespace Go.Proofs.Ytiiaeddbeohplaa.shortcutEdges
open Go.ChangeShapes Go.WideShapes Go.ChangeAt Go.RowKit Go.Deep
theorem make_none (SB : Nat) (a b x : W64) (w : World) (h : StarAt w.heap.size SB [a] [b] true x 4294967295 w) (h2 : fitsB a.1 b.1 = false ∨ (fitsB a.1 b.1 = true ∧ x.1 ≤ sumV a.1 b.1)) :
    Calls Try.prog 12 #[.func (.func 24) #[.pointer (some ⟨SB, 0, none⟩)] #[], .func (.func 25) #[.pointer (some ⟨SB, 0, none⟩)] #[], .func (.func 26) #[.pointer (some ⟨SB, 0, none⟩)] #[], .int .u32 0] w fun e w' => ∃ A c, e = .returned (.tuple #[.slice A 0 c, .int .i64 0]) ∧ Below w.heap.size w w' := by
  have := make_star SB [a] [b] true x 4294967295 0 zero_lt w h (by simp) (by simp)
  have e : makeR (starOut [a] [b] true x) (starIn [a] [b] true x) (fun v => v == 4294967295) 0 zero_lt = ([], 0) := by
    rcases h2 with h2 | ⟨h2, h3⟩
    · exact edges_far a b x h2
    · exact edges_near a b x h2 h3
  rw [e] at this
  exact this.mono fun _ _ ⟨A, c, h1, _, h2⟩ => ⟨A, c, h1, h2⟩
theorem make_one (SB : Nat) (a b x : W64) (w : World) (h : StarAt w.heap.size SB [a] [b] true x 4294967295 w) (h2 : fitsB a.1 b.1 = true) (h3 : sumV a.1 b.1 < x.1) :
    Calls Try.prog 12 #[.func (.func 24) #[.pointer (some ⟨SB, 0, none⟩)] #[], .func (.func 25) #[.pointer (some ⟨SB, 0, none⟩)] #[], .func (.func 26) #[.pointer (some ⟨SB, 0, none⟩)] #[], .int .u32 0] w fun e w' => ∃ p o c, e = .returned (.tuple #[.slice (some ⟨p, o, none⟩) 1 c, .int .i64 0]) ∧ (w'.cell? ⟨p, o, none⟩ = some (.int .u32 1) ∧ w'.cell? ⟨p, o + 1, none⟩ = some (.int .u32 101) ∧ w'.cell? ⟨p, o + 2, none⟩ = some (.int .u64 (sumV a.1 b.1 : Nat)) ∧ w'.cell? ⟨p, o + 3, none⟩ = some (.int .u32 0)) ∧ Below w.heap.size w w' := by
  have := make_star SB [a] [b] true x 4294967295 0 zero_lt w h (by simp) (by simp)
  rw [edges_one a b x h2 h3] at this
  refine this.mono fun e w' ⟨A, c, h1, h4, h5⟩ => ?_
  obtain ⟨p, o, hA, _, c0, c1, c2, c3⟩ := ELs.at' h4 0 (by simp)
  rw [Nat.zero_mul, Nat.add_zero] at c0 c1 c2 c3
  subst hA
  exact ⟨p, o, c, h1, ⟨c0, c1, c2, c3⟩, h5⟩
theorem laid (a b x : Nat) (ha : a < 18446744073709551616) (hb : b < 18446744073709551616) (hx : x < 18446744073709551616) (w : World) :
    StarAt (((w.alloc (.cells #[.int .u64 (a : Int)] 41)).alloc (.cells #[.int .u64 (b : Int)] 41)).alloc (.cells #[.slice (some ⟨w.heap.size, 0, none⟩) 1 1, .slice (some ⟨w.heap.size + 1, 0, none⟩) 1 1, .bool true, .int .u64 (x : Int), .int .u32 4294967295] 52)).heap.size (w.heap.size + 2) [⟨a, ha⟩] [⟨b, hb⟩] true ⟨x, hx⟩ 4294967295 (((w.alloc (.cells #[.int .u64 (a : Int)] 41)).alloc (.cells #[.int .u64 (b : Int)] 41)).alloc (.cells #[.slice (some ⟨w.heap.size, 0, none⟩) 1 1, .slice (some ⟨w.heap.size + 1, 0, none⟩) 1 1, .bool true, .int .u64 (x : Int), .int .u32 4294967295] 52)) ∧ Below w.heap.size w (((w.alloc (.cells #[.int .u64 (a : Int)] 41)).alloc (.cells #[.int .u64 (b : Int)] 41)).alloc (.cells #[.slice (some ⟨w.heap.size, 0, none⟩) 1 1, .slice (some ⟨w.heap.size + 1, 0, none⟩) 1 1, .bool true, .int .u64 (x : Int), .int .u32 4294967295] 52)) := by
  obtain ⟨W1, hW1⟩ : ∃ W1, w.alloc (.cells #[.int .u64 (a : Int)] 41) = W1 := ⟨_, rfl⟩
  have hb1 : Below w.heap.size w W1 := by rw [← hW1]; exact (Below.refl _ _).alloc (Nat.le_refl _) _
  have hs1 : W1.heap.size = w.heap.size + 1 := by rw [← hW1]; simp
  have x1 : XLs (w.heap.size + 1) W1 (some ⟨w.heap.size, 0, none⟩) [⟨a, ha⟩] := by rw [← hW1]; exact SR.one (enc := fun v : W64 => [Value.int .u64 (v.1 : Int)]) ⟨a, ha⟩ (heap_alloc_new w _) rfl _ (by omega)
  rw [hW1]
  obtain ⟨W2, hW2⟩ : ∃ W2, W1.alloc (.cells #[.int .u64 (b : Int)] 41) = W2 := ⟨_, rfl⟩
  have hb2' : Below W1.heap.size W1 W2 := by rw [← hW2]; exact (Below.refl _ _).alloc (Nat.le_refl _) _
  have hs2 : W2.heap.size = w.heap.size + 2 := by rw [← hW2]; simp [hs1]
  have x2 : XLs (w.heap.size + 2) W2 (some ⟨w.heap.size + 1, 0, none⟩) [⟨b, hb⟩] := by rw [← hW2, ← hs1]; exact SR.one (enc := fun v : W64 => [Value.int .u64 (v.1 : Int)]) ⟨b, hb⟩ (heap_alloc_new W1 _) rfl _ (by omega)
  rw [hW2]
  obtain ⟨W3, hW3⟩ : ∃ W3, W2.alloc (.cells #[.slice (some ⟨w.heap.size, 0, none⟩) 1 1, .slice (some ⟨w.heap.size + 1, 0, none⟩) 1 1, .bool true, .int .u64 (x : Int), .int .u32 4294967295] 52) = W3 := ⟨_, rfl⟩
  have hb3' : Below W2.heap.size W2 W3 := by rw [← hW3]; exact (Below.refl _ _).alloc (Nat.le_refl _) _
  have hs3 : W3.heap.size = w.heap.size + 3 := by rw [← hW3]; simp [hs2]
  have r3 : W3.heap[w.heap.size + 2]? = some (.cells #[.slice (some ⟨w.heap.size, 0, none⟩) 1 1, .slice (some ⟨w.heap.size + 1, 0, none⟩) 1 1, .bool true, .int .u64 (x : Int), .int .u32 4294967295] 52 (0, 0)) := by rw [← hW3, ← hs2]; exact heap_alloc_new _ _
  rw [hW3]
  refine ⟨⟨_, 1, _, 1, r3, ?_, ?_⟩, hb1.trans ((hb2'.mono (by omega)).trans (hb3'.mono (by omega)))⟩
  · have y1 := (x1.more (Nat.le_of_eq hs1.symm)).below hb2'
    have l1 : W1.heap.size ≤ W2.heap.size := by rw [hs1, hs2]; omega
    have l2 : W2.heap.size ≤ W3.heap.size := by rw [hs2, hs3]; omega
    have y2 := (y1.more l1).below hb3'
    exact y2.more l2
  · have l2 : W2.heap.size ≤ W3.heap.size := by rw [hs2, hs3]; omega
    exact ((x2.more (Nat.le_of_eq hs2.symm)).below hb3').more l2
set_option maxRecDepth 100000 in
set_option maxHeartbeats 4000000 in
theorem walk_none (a b x : Nat) (w : World) (ha : a < 18446744073709551616) (hb : b < 18446744073709551616) (hx : x < 18446744073709551616) (h2 : fitsB a b = false ∨ (fitsB a b = true ∧ x ≤ sumV a b)) :
    Calls Try.prog 8 #[.int .u64 (a : Int), .int .u64 (b : Int), .int .u64 (x : Int)] w (LawOk w) := by
  have HW := Lib.hid works_any
  obtain ⟨hS, hB⟩ := laid a b x ha hb hx w
  obtain ⟨W3, hW3⟩ : ∃ W3, ((w.alloc (.cells #[.int .u64 (a : Int)] 41)).alloc (.cells #[.int .u64 (b : Int)] 41)).alloc (.cells #[.slice (some ⟨w.heap.size, 0, none⟩) 1 1, .slice (some ⟨w.heap.size + 1, 0, none⟩) 1 1, .bool true, .int .u64 (x : Int), .int .u32 4294967295] 52) = W3 := ⟨_, rfl⟩
  rw [hW3] at hS hB
  have HX := Lib.hid hW3
  have HB := Lib.hid hB
  have HA := Lib.hid (fun V => (refAdd_any a b V).mono fun e w' (h : _ ∧ _) => (⟨h.1, h.2.symm⟩ : _ ∧ w' = V))
  have HM := Lib.hid (make_none (w.heap.size + 2) ⟨a, ha⟩ ⟨b, hb⟩ ⟨x, hx⟩ W3 hS h2)
  have h3 : fitsB a b = false ∨ (fitsB a b = true ∧ (x : Int) ≤ (sumV a b : Nat)) := h2.imp id (fun h => ⟨h.1, by have := h.2; omega⟩)
  have H3 := Lib.hid h3
  clear hS hB hW3 h2 h3
  go_enter Try.func8, Try.ntmps8
  go_wp2_with fail
  rw [HX.out]
  clear HX
  refine HM.out.mono ?_
  rintro e w1 ⟨A1, c1, rfl, hb1⟩
  have HB1 := Lib.hid (HB.out.trans (hb1.mono HB.out.size))
  clear hb1 HM HB
  go_wp2_with fail
  refine (HA.out _).mono ?_
  rintro e w2 ⟨rfl, hw2⟩
  subst hw2
  have h3 := H3.out
  generalize sumV a b = s at *
  generalize fitsB a b = f at *
  clear H3 HA
  rcases h3 with rfl | ⟨rfl, h3⟩
  all_goals go_wp2_with (go_at_call 11; with_reducible refine (HW.out _).mono ?_; rintro e w9 ⟨rfl, hb9⟩)
  all_goals go_ret
  all_goals exact ⟨rfl, HB1.out.trans (hb9.mono HB1.out.size)⟩
set_option maxRecDepth 100000 in
set_option maxHeartbeats 4000000 in
theorem walk_one (a b x : Nat) (w : World) (ha : a < 18446744073709551616) (hb : b < 18446744073709551616) (hx : x < 18446744073709551616) (h2 : fitsB a b = true) (h4 : sumV a b < x) :
    Calls Try.prog 8 #[.int .u64 (a : Int), .int .u64 (b : Int), .int .u64 (x : Int)] w (LawOk w) := by
  have HW := Lib.hid works_any
  obtain ⟨hS, hB⟩ := laid a b x ha hb hx w
  obtain ⟨W3, hW3⟩ : ∃ W3, ((w.alloc (.cells #[.int .u64 (a : Int)] 41)).alloc (.cells #[.int .u64 (b : Int)] 41)).alloc (.cells #[.slice (some ⟨w.heap.size, 0, none⟩) 1 1, .slice (some ⟨w.heap.size + 1, 0, none⟩) 1 1, .bool true, .int .u64 (x : Int), .int .u32 4294967295] 52) = W3 := ⟨_, rfl⟩
  rw [hW3] at hS hB
  have HX := Lib.hid hW3
  have HB := Lib.hid hB
  have HA := Lib.hid (fun V => (refAdd_any a b V).mono fun e w' (h : _ ∧ _) => (⟨h.1, h.2.symm⟩ : _ ∧ w' = V))
  have HM := Lib.hid (make_one (w.heap.size + 2) ⟨a, ha⟩ ⟨b, hb⟩ ⟨x, hx⟩ W3 hS h2 h4)
  have h3 : ¬ (x : Int) ≤ (sumV a b : Nat) := by omega
  have H3 := Lib.hid h3
  have H2 := Lib.hid h2
  clear hS hB hW3 h2 h3 h4
  go_enter Try.func8, Try.ntmps8
  go_wp2_with fail
  rw [HX.out]
  clear HX
  refine HM.out.mono ?_
  rintro e w1 ⟨p, o, c1, rfl, hc, hb1⟩
  have HC := Lib.hid hc
  have HB1 := Lib.hid (HB.out.trans (hb1.mono HB.out.size))
  clear hb1 HM HB hc
  go_wp2_with fail
  refine (HA.out _).mono ?_
  rintro e w2 ⟨rfl, hw2⟩
  subst hw2
  have h3 := H3.out
  rw [H2.out]
  have hc := HC.out
  obtain ⟨c0, c1', c2, c3⟩ := hc
  generalize sumV a b = s at *
  clear H3 HA H2 HC
  go_wp2_with (go_at_call 11; with_reducible refine (HW.out _).mono ?_; rintro e w9 ⟨rfl, hb9⟩)
  go_ret
  exact ⟨rfl, HB1.out.trans (hb9.mono HB1.out.size)⟩
theorem walk (a b x : Nat) (w : World) (ha : a < 18446744073709551616) (hb : b < 18446744073709551616) (hx : x < 18446744073709551616) :
    Calls Try.prog 8 #[.int .u64 (a : Int), .int .u64 (b : Int), .int .u64 (x : Int)] w (LawOk w) := by
  cases h : fitsB a b with
  | false => exact walk_none a b x w ha hb hx (.inl h)
  | true =>
    by_cases h2 : x ≤ sumV a b
    · exact walk_none a b x w ha hb hx (.inr ⟨h, h2⟩)
    · exact walk_one a b x w ha hb hx h (by omega)

set_option maxRecDepth 100000 in
theorem lifted (os : Os) (started : os.Started) (H : Type) (enc : TypeId × Value → H) :
    ReturnsInHanded {} Try.checked os 8 .any (Rows.shortcutEdgesSpec.pre6 enc Try.prog Try.f8 Rows.shortcutEdgesRow.domain false) (Rows.shortcutEdgesSpec.post enc Try.prog Try.f8 false true false false) := by
  refine returnsInHanded_of_change (C := Try.checked) own_knob started (by kernel_rfl) Try.func8
    (ChangeSpec.witness6 (enc := enc) (C := Try.checked) false ⟨#[], #[.int .u64 0, .int .u64 0, .int .u64 0], []⟩ 8 (by kernel_rfl) (by kernel_rfl) (by kernel_rfl) (by kernel_rfl)) ?_
  intro W base args ds gs before hval0 hW _ _
  have hval : ∀ (j : Nat) t v, Try.f8.params[j]? = some t → args[j]? = some v → Value.okWide Try.prog W .any base t v := hval0
  have hW' := hW
  obtain ⟨p, q, hA0, hV, rfl, _, _⟩ := hW
  have hA : DataW.TrodAll enc Try.prog W 0 (fun _ => true) true Try.f8.params.toList args.toList ds p := hA0
  rw [Try.params8] at hA hval
  obtain ⟨v0, vs0, d0, ds0, p0, q0, hargs, rfl, rfl, h0, r0⟩ := trodAll_cons hA
  obtain ⟨v1, vs1, d1, ds1, p1, q1, rfl, rfl, rfl, h1, r1⟩ := trodAll_cons r0
  obtain ⟨v2, vs2, d2, ds2, p2, q2, rfl, rfl, rfl, h2, r2⟩ := trodAll_cons r1
  obtain ⟨rfl, rfl, rfl⟩ := trodAll_nil r2
  obtain rfl : args = #[v0, v1, v2] := by cases args; simp_all
  obtain ⟨rfl, rfl⟩ := trodVars_none hV
  have hlt : ∀ x ∈ p0 ++ (p1 ++ (p2)), x.block < W.heap.size := fun x hx => hW'.lt x (by simpa using hx)
  obtain ⟨z0, rfl, rfl, rfl, w0⟩ := open_int Try.underlying41 (hval 0 41 v0 rfl rfl) h0
  obtain ⟨x0, rfl, hx0⟩ := u64_bounds w0
  obtain ⟨z1, rfl, rfl, rfl, w1⟩ := open_int Try.underlying41 (hval 1 41 v1 rfl rfl) h1
  obtain ⟨x1, rfl, hx1⟩ := u64_bounds w1
  obtain ⟨z2, rfl, rfl, rfl, w2⟩ := open_int Try.underlying41 (hval 2 41 v2 rfl rfl) h2
  obtain ⟨x2, rfl, hx2⟩ := u64_bounds w2
  refine (walk x0 x1 x2 W hx0 hx1 hx2).mono fun e W' ⟨he, hg⟩ => ?_
  subst he
  exact ⟨_, rfl, law_post hW' rfl (by kernel_rfl) rfl (by kernel_rfl) hg⟩

theorem proved : Rows.ShortcutEdgesSaid :=
  OpenClaim.holds_of_wide 8 Try.f8 rfl rfl rfl rfl rfl rfl rfl ⟨rfl, rfl, rfl, rfl, rfl⟩ rfl rfl rfl rfl rfl (by kernel_rfl) Try.func8 (by kernel_rfl)
    (of_decide_eq_true (by kernel_rfl)) (by unfold Func.isWrapper; first | (rw [if_pos (by decide +kernel)]; kernel_rfl) | (rw [if_neg (by decide +kernel)]; exact ⟨rfl, rfl⟩))
    (fun os started H enc _ => lifted os started H enc)

end Go.Proofs.Ytiiaeddbeohplaa.shortcutEdges
