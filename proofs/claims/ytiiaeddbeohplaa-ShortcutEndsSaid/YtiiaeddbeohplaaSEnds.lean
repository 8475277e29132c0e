/- ShortcutEnds: for any star the call returns true: a vertex that nothing goes into, or that nothing goes out of, needs no shortcuts. No condition. -/
import Derived.Test.YtiiaeddbeohplaaSo
namespace Go.Proofs.Ytiiaeddbeohplaa.shortcutEnds
open Go.ChangeShapes Go.WideShapes Go.ChangeAt Go.RowKit Go.Deep
theorem z_lt : 0 < 4294967296 := by omega
theorem ends_one (Is : List W64) (W : W64) (av : Nat → Bool) : makeR (starOut Is [] false W) (starIn Is [] false W) av 0 z_lt = ([], 0) := by
  have e : starOut Is [] false W 0 = ([], 0) := rfl
  have e2 : (starIn Is [] false W 0).2 = 0 := rfl
  unfold makeR
  rw [e, if_neg (fun h => h e2), if_neg (fun h => h rfl)]
  have : pairsOf (starIn Is [] false W 0).1 [] 0 = [] := by unfold pairsOf; simp
  rw [this]
  rfl
theorem ends_two (Os : List W64) (W : W64) (av : Nat → Bool) : makeR (starOut [] Os false W) (starIn [] Os false W) av 0 z_lt = ([], 0) := by
  have e : starIn [] Os false W 0 = ([], 0) := by unfold starIn; rw [if_pos rfl, if_neg (by omega), if_neg (by omega)]; rfl
  have e2 : (starOut [] Os false W 0).2 = 0 := rfl
  unfold makeR
  rw [e, if_neg (fun h => h rfl), if_neg (fun h => h e2)]
  rfl
theorem ends_count (Is : List W64) (W : W64) : countR (starOut Is [] false W) (starIn Is [] false W) 0 z_lt = (Is.length, 0, 0, 0) := by
  unfold countR
  rw [ends_one, if_neg (fun h => h rfl)]
  have e1 : (starIn Is [] false W 0).1.length = Is.length := by
    unfold starIn; rw [if_pos rfl, if_neg (by simp), if_neg (by omega)]; simp [insT_len]
  rw [e1]
  rfl
theorem make_one (SB : Nat) (Is : List W64) (W : W64) (away : Nat) (w : World) (h : StarAt w.heap.size SB Is [] false W away w) (hL : Is.length ≤ 900) :
    Calls Try.prog 12 #[.func (.func 24) #[.pointer (some ⟨SB, 0, none⟩)] #[], .func (.func 25) #[.pointer (some ⟨SB, 0, none⟩)] #[], .func (.func 26) #[.pointer (some ⟨SB, 0, none⟩)] #[], .int .u32 0] w fun e w' => ∃ A c, e = .returned (.tuple #[.slice A 0 c, .int .i64 0]) ∧ Below w.heap.size w w' := by
  have := make_star SB Is [] false W away 0 z_lt w h hL (by simp)
  rw [ends_one] at this
  exact this.mono fun _ _ ⟨A, c, h1, _, h2⟩ => ⟨A, c, h1, h2⟩
theorem make_two (SB : Nat) (Os : List W64) (W : W64) (away : Nat) (w : World) (h : StarAt w.heap.size SB [] Os false W away w) (hL : Os.length ≤ 900) :
    Calls Try.prog 12 #[.func (.func 24) #[.pointer (some ⟨SB, 0, none⟩)] #[], .func (.func 25) #[.pointer (some ⟨SB, 0, none⟩)] #[], .func (.func 26) #[.pointer (some ⟨SB, 0, none⟩)] #[], .int .u32 0] w fun e w' => ∃ A c, e = .returned (.tuple #[.slice A 0 c, .int .i64 0]) ∧ Below w.heap.size w w' := by
  have := make_star SB [] Os false W away 0 z_lt w h (by simp) hL
  rw [ends_two] at this
  exact this.mono fun _ _ ⟨A, c, h1, _, h2⟩ => ⟨A, c, h1, h2⟩
theorem count_one (SB : Nat) (Is : List W64) (W : W64) (away : Nat) (w : World) (h : StarAt w.heap.size SB Is [] false W away w) (hL : Is.length ≤ 900) :
    Calls Try.prog 17 #[.func (.func 24) #[.pointer (some ⟨SB, 0, none⟩)] #[], .func (.func 25) #[.pointer (some ⟨SB, 0, none⟩)] #[], .int .u32 0] w fun e w' => e = .returned (.tuple #[.int .i64 (Is.length : Int), .int .i64 0, .int .i64 0, .int .i64 0]) ∧ Below w.heap.size w w' := by
  have := count_star SB Is [] false W away 0 z_lt w h hL (by simp)
  rw [ends_count] at this
  exact this
set_option maxRecDepth 100000 in
theorem long (A A' : Option Addr) (n c n' c' : Nat) (th : Bool) (x away : Nat) (w : World) (h : 12 < n ∨ (n ≤ 12 ∧ 12 < n')) : Calls Try.prog 9 #[.agg #[.slice A n c, .slice A' n' c', .bool th, .int .u64 (x : Int), .int .u32 (away : Int)]] w (LawOk w) := by
  have HW := Lib.hid works_any
  have hb : Below w.heap.size w (w.alloc (.cells #[.slice A n c, .slice A' n' c', .bool th, .int .u64 (x : Int), .int .u32 (away : Int)] 52)) := (Below.refl _ _).alloc (Nat.le_refl _) _
  have HB := Lib.hid hb
  have h1 : (12 : Int) < (n : Int) ∨ (¬ (12 : Int) < (n : Int) ∧ (12 : Int) < (n' : Int)) := by omega
  clear h hb
  rcases h1 with g1 | ⟨g1, g2⟩
  all_goals go_enter Try.func9, Try.ntmps9
  all_goals go_wp2_with (go_at_call 11; with_reducible refine (HW.out _).mono ?_; rintro e w9 ⟨rfl, hb9⟩)
  all_goals go_ret
  all_goals exact ⟨rfl, HB.out.trans (hb9.mono HB.out.size)⟩
set_option maxRecDepth 100000 in
set_option maxHeartbeats 8000000 in
theorem short (A A' : Option Addr) (Is Os : List W64) (c c' : Nat) (th : Bool) (x away : Nat) (w : World) (hs : XLs w.heap.size w A Is) (hs' : XLs w.heap.size w A' Os) (hl : Is.length ≤ 12) (hl' : Os.length ≤ 12) :
    Calls Try.prog 9 #[.agg #[.slice A Is.length c, .slice A' Os.length c', .bool th, .int .u64 (x : Int), .int .u32 (away : Int)]] w (LawOk w) := by
  have HW := Lib.hid works_any
  obtain ⟨W1, hW1⟩ : ∃ W1, w.alloc (.cells #[.slice A Is.length c, .slice A' Os.length c', .bool th, .int .u64 (x : Int), .int .u32 (away : Int)] 52) = W1 := ⟨_, rfl⟩
  have hb1 : Below w.heap.size w W1 := by rw [← hW1]; exact (Below.refl _ _).alloc (Nat.le_refl _) _
  have hs1 : W1.heap.size = w.heap.size + 1 := by rw [← hW1]; simp
  obtain ⟨W2, hW2⟩ : ∃ W2, W1.alloc (.cells #[.slice A Is.length c, .slice none 0 0, .bool false, .int .u64 0, .int .u32 4294967295] 52) = W2 := ⟨_, rfl⟩
  have hb2' : Below W1.heap.size W1 W2 := by rw [← hW2]; exact (Below.refl _ _).alloc (Nat.le_refl _) _
  have hs2 : W2.heap.size = w.heap.size + 2 := by rw [← hW2]; simp [hs1]
  obtain ⟨W3, hW3⟩ : ∃ W3, W2.alloc (.cells #[.slice none 0 0, .slice A' Os.length c', .bool false, .int .u64 0, .int .u32 4294967295] 52) = W3 := ⟨_, rfl⟩
  have hb3' : Below W2.heap.size W2 W3 := by rw [← hW3]; exact (Below.refl _ _).alloc (Nat.le_refl _) _
  have hs3 : W3.heap.size = w.heap.size + 3 := by rw [← hW3]; simp [hs2]
  have hb2 : Below w.heap.size w W2 := hb1.trans (hb2'.mono (by omega))
  have hb3 : Below w.heap.size w W3 := hb2.trans (hb3'.mono (by omega))
  have r1 : W1.heap[w.heap.size]? = some (.cells #[.slice A Is.length c, .slice A' Os.length c', .bool th, .int .u64 (x : Int), .int .u32 (away : Int)] 52 (0, 0)) := by rw [← hW1]; exact heap_alloc_new _ _
  have r2 : W2.heap[w.heap.size + 1]? = some (.cells #[.slice A Is.length c, .slice none 0 0, .bool false, .int .u64 0, .int .u32 4294967295] 52 (0, 0)) := by rw [← hW2, ← hs1]; exact heap_alloc_new _ _
  have r3 : W3.heap[w.heap.size + 2]? = some (.cells #[.slice none 0 0, .slice A' Os.length c', .bool false, .int .u64 0, .int .u32 4294967295] 52 (0, 0)) := by rw [← hW3, ← hs2]; exact heap_alloc_new _ _
  have q1 : W3.heap[w.heap.size]? = W1.heap[w.heap.size]? := (hb3'.block _ (by omega)).trans (hb2'.block _ (by omega))
  have q2 : W3.heap[w.heap.size + 1]? = W2.heap[w.heap.size + 1]? := hb3'.block _ (by omega)
  have s1 : StarAt W3.heap.size (w.heap.size + 1) Is [] false w0 4294967295 W3 := ⟨A, c, none, 0, q2.trans r2, (hs.below hb3).more (by omega), SR.nil _ _ _ _ _⟩
  have s2 : StarAt W3.heap.size (w.heap.size + 2) [] Os false w0 4294967295 W3 := ⟨none, 0, A', c', r3, SR.nil _ _ _ _ _, (hs'.below hb3).more (by omega)⟩
  have C0 := Lib.hid (cell_of_row _ _ 0 _ _ _ (q1.trans r1) : W3.cell? ⟨w.heap.size, 0, none⟩ = some (.slice A Is.length c))
  have hX : ((w.alloc (.cells #[.slice A Is.length c, .slice A' Os.length c', .bool th, .int .u64 (x : Int), .int .u32 (away : Int)] 52)).alloc (.cells #[.slice A Is.length c, .slice none 0 0, .bool false, .int .u64 0, .int .u32 4294967295] 52)).alloc (.cells #[.slice none 0 0, .slice A' Os.length c', .bool false, .int .u64 0, .int .u32 4294967295] 52) = W3 := by rw [hW1, hW2, hW3]
  have HX := Lib.hid hX
  have HM := Lib.hid (make_one (w.heap.size + 1) Is w0 4294967295 W3 s1 (by omega))
  have HS1 := Lib.hid s1
  have HS2 := Lib.hid s2
  have HB := Lib.hid hb3
  have HL := Lib.hid hl
  have HL' := Lib.hid hl'
  have HSz := Lib.hid hs3
  have g1 : ¬ (12 : Int) < (Is.length : Int) := by omega
  have g2 : ¬ (12 : Int) < (Os.length : Int) := by omega
  clear hs hs' hW1 hb1 hs1 hW2 hb2' hs2 hW3 hb3' hs3 hb2 hb3 r1 r2 r3 q1 q2 s1 s2 hX hl hl'
  go_enter Try.func9, Try.ntmps9
  go_wp2_with fail
  rw [HX.out]
  clear HX
  refine HM.out.mono ?_
  rintro e w1 ⟨A1, c1, rfl, hb1⟩
  have HM2 := Lib.hid (make_two (w.heap.size + 2) Os w0 4294967295 w1 ((HS2.out.below (Nat.le_refl _) hb1).more hb1.size) (by have := HL'.out; omega))
  have HS3 := Lib.hid ((HS1.out.below (Nat.le_refl _) hb1).more hb1.size)
  have HB1 := Lib.hid (HB.out.trans (hb1.mono HB.out.size))
  have D0 := Lib.hid ((hb1.cell (p := ⟨w.heap.size, 0, none⟩) (World.block_lt_of_cell? W3 _ C0.out)).trans C0.out)
  clear hb1 HM HS1 HS2 HB C0
  go_wp2_with fail
  refine HM2.out.mono ?_
  rintro e w2 ⟨A2, c2, rfl, hb2⟩
  have HC := Lib.hid (count_one (w.heap.size + 1) Is w0 4294967295 w2 ((HS3.out.below (Nat.le_refl _) hb2).more hb2.size) (by have := HL.out; omega))
  have HB2 := Lib.hid (HB1.out.trans (hb2.mono HB1.out.size))
  have C0 := Lib.hid ((hb2.cell (p := ⟨w.heap.size, 0, none⟩) (World.block_lt_of_cell? w1 _ D0.out)).trans D0.out)
  clear hb2 HM2 HS3 HB1 D0
  go_wp2_with fail
  refine HC.out.mono ?_
  rintro e w3 ⟨rfl, hb3⟩
  have c0 : w3.cell? ⟨w.heap.size, 0, none⟩ = some (.slice A Is.length c) := (hb3.cell (p := ⟨w.heap.size, 0, none⟩) (World.block_lt_of_cell? w2 _ C0.out)).trans C0.out
  have HB3 := Lib.hid (HB2.out.trans (hb3.mono HB2.out.size))
  clear hb3 HC HB2 C0 HSz HL HL'
  go_wp2_with (go_at_call 11; with_reducible refine (HW.out _).mono ?_; rintro e w9 ⟨rfl, hb9⟩)
  go_ret
  exact ⟨rfl, HB3.out.trans (hb9.mono HB3.out.size)⟩
theorem walk (A A' : Option Addr) (n c n' c' : Nat) (th : Bool) (x away : Nat) (w : World) (h : StarIn w A A' n n') (_ : x < 18446744073709551616) (_ : away < 4294967296) : Calls Try.prog 9 #[.agg #[.slice A n c, .slice A' n' c', .bool th, .int .u64 (x : Int), .int .u32 (away : Int)]] w (LawOk w) := by
  by_cases h1 : 12 < n ∨ (n ≤ 12 ∧ 12 < n')
  · exact long A A' n c n' c' th x away w h1
  · obtain ⟨l, rfl, hs⟩ := h.l0 (by omega)
    obtain ⟨l', rfl, hs'⟩ := h.l1 (by omega)
    exact short A A' l l' c c' th x away w hs hs' (by omega) (by omega)

set_option maxRecDepth 100000 in
theorem lifted (os : Os) (started : os.Started) (H : Type) (enc : TypeId × Value → H) :
    ReturnsInHanded {} Try.checked os 9 .any (Rows.shortcutEndsSpec.pre6 enc Try.prog Try.f9 Rows.shortcutEndsRow.domain false) (Rows.shortcutEndsSpec.post enc Try.prog Try.f9 false true false false) := by
  refine returnsInHanded_of_change (C := Try.checked) own_knob started (by kernel_rfl) Try.func9
    (ChangeSpec.witness6 (enc := enc) (C := Try.checked) false ⟨#[], #[.agg #[.slice none 0 0,.slice none 0 0,.bool false,.int .u64 0,.int .u32 0]], []⟩ 8 (by kernel_rfl) (by kernel_rfl) (by kernel_rfl) (by kernel_rfl)) ?_
  intro W base args ds gs before hval0 hW _ _
  have hval : ∀ (j : Nat) t v, Try.f9.params[j]? = some t → args[j]? = some v → Value.okWide Try.prog W .any base t v := hval0
  have hW' := hW
  obtain ⟨p, q, hA0, hV, rfl, _, _⟩ := hW
  have hA : DataW.TrodAll enc Try.prog W 0 (fun _ => true) true Try.f9.params.toList args.toList ds p := hA0
  rw [Try.params9] at hA hval
  obtain ⟨v0, vs0, d0, ds0, p0, q0, hargs, rfl, rfl, h0, r0⟩ := trodAll_cons hA
  obtain ⟨rfl, rfl, rfl⟩ := trodAll_nil r0
  obtain rfl : args = #[v0] := by cases args; simp_all
  obtain ⟨rfl, rfl⟩ := trodVars_none hV
  have hlt : ∀ x ∈ p0, x.block < W.heap.size := fun x hx => hW'.lt x (by simpa using hx)
  obtain ⟨A0, A'0, n0, c0, n'0, c'0, th0, x0, away0, rfl, hn0, hx0, ha0⟩ := open_star (hval 0 52 v0 rfl rfl) h0 (fun x hx => hlt x (by simp [hx]))
  refine (walk A0 A'0 n0 c0 n'0 c'0 th0 x0 away0 W hn0 hx0 ha0).mono fun e W' ⟨he, hg⟩ => ?_
  subst he
  exact ⟨_, rfl, law_post hW' rfl (by kernel_rfl) rfl (by kernel_rfl) hg⟩

theorem proved : Rows.ShortcutEndsSaid :=
  OpenClaim.holds_of_wide 9 Try.f9 rfl rfl rfl rfl rfl rfl rfl ⟨rfl, rfl, rfl, rfl, rfl⟩ rfl rfl rfl rfl rfl (by kernel_rfl) Try.func9 (by kernel_rfl)
    (of_decide_eq_true (by kernel_rfl)) (by unfold Func.isWrapper; first | (rw [if_pos (by decide +kernel)]; kernel_rfl) | (rw [if_neg (by decide +kernel)]; exact ⟨rfl, rfl⟩))
    (fun os started H enc _ => lifted os started H enc)

end Go.Proofs.Ytiiaeddbeohplaa.shortcutEnds
