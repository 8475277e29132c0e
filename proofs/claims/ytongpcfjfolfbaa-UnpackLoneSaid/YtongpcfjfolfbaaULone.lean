/- UnpackLone: for any edge and any two vertices the call returns true: an edge that was there from the first is its own way, where it is asked for by its ends. No condition. -/
import Derived.Test.YtongpcfjfolfbaaWk
import Derived.Test.YtongpcfjfolfbaaEp
import Derived.Test.YtongpcfjfolfbaaUr
import Derived.Deep.RegionHeld3
namespace Go.Proofs.Ytongpcfjfolfbaa.unpackLone
open Go.ChangeShapes Go.WideShapes Go.ChangeAt Go.RowKit Go.Deep

theorem lone_any (S : Nat) (x : Edg) (a b : Nat) (w : World) (h : w.heap[S]? = some (.cells x.cells 59 (0, 0))) :
    Calls Try.prog 24 #[.pointer (some ⟨S, 0, none⟩), .int .u32 (a : Int), .int .u32 (b : Int)] w fun e w' => e = .returned (.tuple #[x.agg, .int .i64 0]) ∧ Below w.heap.size w w' := by
  have x0 : w.cell? ⟨S, 0, none⟩ = some (.int .u32 x.tail) := cell_of_row _ _ 0 _ _ _ h
  have x1 : w.cell? ⟨S, 1, none⟩ = some (.int .u32 x.head) := cell_of_row _ _ 1 _ _ _ h
  have x2 : w.cell? ⟨S, 2, none⟩ = some (.int .u64 x.weight) := cell_of_row _ _ 2 _ _ _ h
  have x3 : w.cell? ⟨S, 3, none⟩ = some (.int .u32 x.mid) := cell_of_row _ _ 3 _ _ _ h
  have hS : S < w.heap.size := World.block_lt_of_cell? w _ x0
  have hbw : Below w.heap.size w (w.alloc (.cells #[.int .u32 0, .int .u32 0, .int .u64 0, .int .u32 0] 42)) := (Below.refl _ _).alloc (Nat.le_refl _) _
  have hrow : (w.alloc (.cells #[.int .u32 0, .int .u32 0, .int .u64 0, .int .u32 0] 42)).heap[w.heap.size]? = some (.cells Edg.nil.cells 42 (0, 0)) := heap_alloc_new w _
  have y0 := (hbw.cell (p := ⟨S, 0, none⟩) hS).trans x0
  have y1 := (hbw.cell (p := ⟨S, 1, none⟩) hS).trans x1
  have y2 := (hbw.cell (p := ⟨S, 2, none⟩) hS).trans x2
  have y3 := (hbw.cell (p := ⟨S, 3, none⟩) hS).trans x3
  go_enter Try.func24, Try.ntmps24
  obtain ⟨W, hW⟩ : ∃ W, w.alloc (.cells #[.int .u32 0, .int .u32 0, .int .u64 0, .int .u32 0] 42) = W := ⟨_, rfl⟩
  rw [hW] at hbw hrow y0 y1 y2 y3
  obtain ⟨b0, b1, b2, b3⟩ := cells_of hrow
  obtain ⟨f0, f1, f2, f3⟩ := frozen_of hrow
  have HB := Lib.hid hbw
  have HR := Lib.hid hrow
  clear hbw hrow x0 x1 x2 x3 h
  go_wp2_with fail
  have hr := set4 x HR.out
  have hb2 := low4 HB.out (Nat.le_refl _) (.int .u32 (x.tail : Int)) (.int .u32 (x.head : Int)) (.int .u64 (x.weight : Int)) (.int .u32 (x.mid : Int))
  obtain ⟨k0, k1, k2, k3⟩ := cells_of hr
  generalize ((((W.setCell ⟨w.heap.size, 0, none⟩ (.int .u32 (x.tail : Int))).setCell ⟨w.heap.size, 1, none⟩ (.int .u32 (x.head : Int))).setCell ⟨w.heap.size, 2, none⟩ (.int .u64 (x.weight : Int))).setCell ⟨w.heap.size, 3, none⟩ (.int .u32 (x.mid : Int))) = W5 at *
  exact bodyPost_ret (v := .tuple #[.agg #[.int .u32 (x.tail : Int), .int .u32 (x.head : Int), .int .u64 (x.weight : Int), .int .u32 (x.mid : Int)], .int .i64 0]) (by simp [results, Try.results24, go_sem, k0, k1, k2, k3]) rfl ⟨rfl, hb2⟩

/-- where such an edge is in memory -/
def LoneAt (S : Nat) (x : Edg) (w : World) : Prop := w.heap[S]? = some (.cells x.cells 59 (0, 0))
theorem lone_tells (S : Nat) (x : Edg) : Tells 24 (.pointer (some ⟨S, 0, none⟩)) (fun _ _ => (x, 0)) (LoneAt S x) :=
  ⟨fun args w => run_enter Try.func24 (by kernel_rfl) rfl args w, fun a b w _ _ hI => lone_any S x a b w hI⟩
theorem lone_stays {S M : Nat} {x : Edg} (hS : S < M) : Stays M (LoneAt S x) := fun _ _ h hb => (hb S hS).trans h
def bare (x : Edg) : Edg := ⟨x.tail, x.head, x.weight, 4294967295, x.htail, x.hhead, x.hweight, by omega⟩

theorem two_new (w : World) (x : Edg) : ∃ W, (w.alloc (.cells x.cells 42)).alloc (.cells x.cells 59) = W ∧ W.heap[w.heap.size]? = some (.cells x.cells 42 (0, 0)) ∧ LoneAt (w.heap.size + 1) x W ∧ Below w.heap.size w W ∧ W.heap.size = w.heap.size + 2 := by
  refine ⟨_, rfl, ?_, ?_, ((Below.refl _ _).alloc (Nat.le_refl _) _).alloc (by simp) _, by simp⟩
  · rw [Below.heap_alloc _ _ _ (by simp)]; exact heap_alloc_new w _
  · have := heap_alloc_new (w.alloc (.cells x.cells 42)) (.cells x.cells 59)
    rw [World.size_alloc] at this
    exact this

theorem walk_no (x : Edg) (a b : Nat) (w : World) (ha : a < 4294967296) (hb : b < 4294967296) (h : ¬ (x.tail = a ∧ x.head = b)) : Calls Try.prog 11 #[x.agg, .int .u32 (a : Int), .int .u32 (b : Int)] w (LawOk w) := by
  have HH := Lib.hid h
  clear h
  have hmf : ∀ (fn : Fn) (first cap : Array Value) (w : World), (Instr.makeFunc fn first cap).run Try.prog w = .ok (.func fn first cap) w := fun _ _ _ _ => rfl
  have HW := Lib.hid works_any
  dsimp only [Edg.agg]
  go_enter Try.func11, Try.ntmps11
  go_wp2_with fail
  obtain ⟨W, hWe, r1, r2, hbw, hsz⟩ := two_new w (bare x)
  dsimp only [bare, Edg.cells] at hWe
  simp only [show ((4294967295 : Nat) : Int) = 4294967295 from rfl] at hWe
  rw [hWe]
  clear hWe
  refine (way_any 24 (.pointer (some ⟨w.heap.size + 1, 0, none⟩)) _ _ (lone_tells (w.heap.size + 1) (bare x)) a b ha hb W r2 (lone_stays (by omega))).mono ?_
  unfold WayTold
  rw [lone_open (bare x) rfl]
  rw [if_neg (show ¬ ((bare x).tail = a ∧ (bare x).head = b) from HH.out)]
  rintro e w1 ⟨A1, c1, rfl, hl1, hb1⟩
  have HB1 := Lib.hid (hbw.trans (hb1.mono hbw.size))
  obtain ⟨x0, x1, x2, x3⟩ := cells_of ((hb1.block _ (by omega)).trans r1)
  dsimp only [wayV, bare] at *
  clear hl1 hb1 r1 r2 hbw hsz
  have h := HH.out
  by_cases h1 : x.tail = a
  · have g1 : ((a : Int) != (x.tail : Int)) = false := by rw [h1]; simp
    have g2 : ((b : Int) != (x.head : Int)) = true := by rw [bne_iff_ne]; intro e; exact h ⟨h1, by omega⟩
    clear h h1
    go_wp2_with (go_at_call 12; with_reducible refine (HW.out _).mono ?_; rintro e w2 ⟨rfl, hb2⟩)
    go_ret
    exact ⟨rfl, HB1.out.trans (hb2.mono HB1.out.size)⟩
  · have g1 : ((a : Int) != (x.tail : Int)) = true := by rw [bne_iff_ne]; omega
    clear h h1
    go_wp2_with (go_at_call 12; with_reducible refine (HW.out _).mono ?_; rintro e w2 ⟨rfl, hb2⟩)
    go_ret
    exact ⟨rfl, HB1.out.trans (hb2.mono HB1.out.size)⟩

theorem held_next {q o X : Nat} {t hd wt : Int} {w1 w2 w3 : World} (h : (fun w' => w'.cell? ⟨q, o, none⟩ = some (.int .u32 t) ∧ w'.cell? ⟨q, o + 1, none⟩ = some (.int .u32 hd) ∧ w'.cell? ⟨q, o + 2, none⟩ = some (.int .u64 wt) ∧ w'.cell? ⟨q, o + 3, none⟩ = some (.int .u32 4294967295) ∧ w'.cell? ⟨X, 0, none⟩ = some (.int .u32 t) ∧ w'.cell? ⟨X, 1, none⟩ = some (.int .u32 hd) ∧ w'.cell? ⟨X, 2, none⟩ = some (.int .u64 wt) ∧ w'.cell? ⟨X, 3, none⟩ = some (.int .u32 4294967295) ∧ Below w1.heap.size w1 w') w2) (hb : Below w2.heap.size w2 w3) : (fun w' => w'.cell? ⟨q, o, none⟩ = some (.int .u32 t) ∧ w'.cell? ⟨q, o + 1, none⟩ = some (.int .u32 hd) ∧ w'.cell? ⟨q, o + 2, none⟩ = some (.int .u64 wt) ∧ w'.cell? ⟨q, o + 3, none⟩ = some (.int .u32 4294967295) ∧ w'.cell? ⟨X, 0, none⟩ = some (.int .u32 t) ∧ w'.cell? ⟨X, 1, none⟩ = some (.int .u32 hd) ∧ w'.cell? ⟨X, 2, none⟩ = some (.int .u64 wt) ∧ w'.cell? ⟨X, 3, none⟩ = some (.int .u32 4294967295) ∧ Below w1.heap.size w1 w') w3 := by
  obtain ⟨a0, a1, a2, a3, b0, b1, b2, b3, hB⟩ := h
  have hq := World.block_lt_of_cell? w2 _ a0
  have hX := World.block_lt_of_cell? w2 _ b0
  have e1 := fun k => hb.cell (p := ⟨q, k, none⟩) hq
  have e2 := fun k => hb.cell (p := ⟨X, k, none⟩) hX
  exact ⟨(e1 o).trans a0, (e1 (o + 1)).trans a1, (e1 (o + 2)).trans a2, (e1 (o + 3)).trans a3, (e2 0).trans b0, (e2 1).trans b1, (e2 2).trans b2, (e2 3).trans b3, hB.trans (hb.mono hB.size)⟩
theorem held_drew {q o X : Nat} {t hd wt : Int} {w1 w2 : World} (h : (fun w' => w'.cell? ⟨q, o, none⟩ = some (.int .u32 t) ∧ w'.cell? ⟨q, o + 1, none⟩ = some (.int .u32 hd) ∧ w'.cell? ⟨q, o + 2, none⟩ = some (.int .u64 wt) ∧ w'.cell? ⟨q, o + 3, none⟩ = some (.int .u32 4294967295) ∧ w'.cell? ⟨X, 0, none⟩ = some (.int .u32 t) ∧ w'.cell? ⟨X, 1, none⟩ = some (.int .u32 hd) ∧ w'.cell? ⟨X, 2, none⟩ = some (.int .u64 wt) ∧ w'.cell? ⟨X, 3, none⟩ = some (.int .u32 4294967295) ∧ Below w1.heap.size w1 w') w2) : (fun w' => w'.cell? ⟨q, o, none⟩ = some (.int .u32 t) ∧ w'.cell? ⟨q, o + 1, none⟩ = some (.int .u32 hd) ∧ w'.cell? ⟨q, o + 2, none⟩ = some (.int .u64 wt) ∧ w'.cell? ⟨q, o + 3, none⟩ = some (.int .u32 4294967295) ∧ w'.cell? ⟨X, 0, none⟩ = some (.int .u32 t) ∧ w'.cell? ⟨X, 1, none⟩ = some (.int .u32 hd) ∧ w'.cell? ⟨X, 2, none⟩ = some (.int .u64 wt) ∧ w'.cell? ⟨X, 3, none⟩ = some (.int .u32 4294967295) ∧ Below w1.heap.size w1 w') w2.drew := held_next h (below_drewN (Below.refl _ _) 1)
theorem held_below {q o X : Nat} {t hd wt : Int} {w1 w2 : World} (h : (fun w' => w'.cell? ⟨q, o, none⟩ = some (.int .u32 t) ∧ w'.cell? ⟨q, o + 1, none⟩ = some (.int .u32 hd) ∧ w'.cell? ⟨q, o + 2, none⟩ = some (.int .u64 wt) ∧ w'.cell? ⟨q, o + 3, none⟩ = some (.int .u32 4294967295) ∧ w'.cell? ⟨X, 0, none⟩ = some (.int .u32 t) ∧ w'.cell? ⟨X, 1, none⟩ = some (.int .u32 hd) ∧ w'.cell? ⟨X, 2, none⟩ = some (.int .u64 wt) ∧ w'.cell? ⟨X, 3, none⟩ = some (.int .u32 4294967295) ∧ Below w1.heap.size w1 w') w2) : Below w1.heap.size w1 w2 := h.2.2.2.2.2.2.2.2

set_option maxHeartbeats 1000000 in
theorem walk_yes (x : Edg) (a b : Nat) (w : World) (ha : a < 4294967296) (hb : b < 4294967296) (h : x.tail = a ∧ x.head = b) : Calls Try.prog 11 #[x.agg, .int .u32 (a : Int), .int .u32 (b : Int)] w (LawOk w) := by
  have HH := Lib.hid h
  clear h
  have hmf : ∀ (fn : Fn) (first cap : Array Value) (w : World), (Instr.makeFunc fn first cap).run Try.prog w = .ok (.func fn first cap) w := fun _ _ _ _ => rfl
  have HW := Lib.hid works_any
  dsimp only [Edg.agg]
  go_enter Try.func11, Try.ntmps11
  go_wp2_with fail
  obtain ⟨W, hWe, r1, r2, hbw, hsz⟩ := two_new w (bare x)
  dsimp only [bare, Edg.cells] at hWe
  simp only [show ((4294967295 : Nat) : Int) = 4294967295 from rfl] at hWe
  rw [hWe]
  clear hWe
  refine (way_any 24 (.pointer (some ⟨w.heap.size + 1, 0, none⟩)) _ _ (lone_tells (w.heap.size + 1) (bare x)) a b ha hb W r2 (lone_stays (by omega))).mono ?_
  unfold WayTold
  rw [lone_open (bare x) rfl]
  rw [if_pos (show (bare x).tail = a ∧ (bare x).head = b from HH.out)]
  rintro e w1 ⟨A1, c1, rfl, hl1, hb1⟩
  dsimp only [wayV] at *
  have HB1 := Lib.hid (hbw.trans (hb1.mono hbw.size))
  obtain ⟨x0, x1, x2, x3⟩ := cells_of ((hb1.block _ (by omega)).trans r1)
  obtain ⟨q, o, rfl, _, k0, k1, k2, k3⟩ := ELs.at' hl1 0 (by simp)
  simp only [List.getElem_cons_zero, Nat.zero_mul, Nat.add_zero] at k0 k1 k2 k3
  dsimp only [bare] at *
  simp only [show ((4294967295 : Nat) : Int) = 4294967295 from rfl] at *
  have g1 : ((a : Int) != (x.tail : Int)) = false := by rw [HH.out.1]; simp
  have g2 : ((b : Int) != (x.head : Int)) = false := by rw [HH.out.2]; simp
  clear HH hl1 hb1 r1 r2 hbw hsz
  generalize (x.tail : Int) = t at *
  generalize (x.head : Int) = hd at *
  generalize (x.weight : Int) = wt at *
  generalize hXe : w.heap.size = X at *
  have HX := Lib.hid hXe
  clear hXe
  have hS : (fun w' => w'.cell? ⟨q, o, none⟩ = some (.int .u32 t) ∧ w'.cell? ⟨q, o + 1, none⟩ = some (.int .u32 hd) ∧ w'.cell? ⟨q, o + 2, none⟩ = some (.int .u64 wt) ∧ w'.cell? ⟨q, o + 3, none⟩ = some (.int .u32 4294967295) ∧ w'.cell? ⟨X, 0, none⟩ = some (.int .u32 t) ∧ w'.cell? ⟨X, 1, none⟩ = some (.int .u32 hd) ∧ w'.cell? ⟨X, 2, none⟩ = some (.int .u64 wt) ∧ w'.cell? ⟨X, 3, none⟩ = some (.int .u32 4294967295) ∧ Below w1.heap.size w1 w') w1 := ⟨k0, k1, k2, k3, x0, x1, x2, x3, Below.refl _ _⟩
  go_wp2_with fail
  go_region_held3 (fun w' => w'.cell? ⟨q, o, none⟩ = some (.int .u32 t) ∧ w'.cell? ⟨q, o + 1, none⟩ = some (.int .u32 hd) ∧ w'.cell? ⟨q, o + 2, none⟩ = some (.int .u64 wt) ∧ w'.cell? ⟨q, o + 3, none⟩ = some (.int .u32 4294967295) ∧ w'.cell? ⟨X, 0, none⟩ = some (.int .u32 t) ∧ w'.cell? ⟨X, 1, none⟩ = some (.int .u32 hd) ∧ w'.cell? ⟨X, 2, none⟩ = some (.int .u64 wt) ∧ w'.cell? ⟨X, 3, none⟩ = some (.int .u32 4294967295) ∧ Below w1.heap.size w1 w') (first | exact held_drew hS | exact held_next (by assumption) (by assumption))
    (first | (go_at_call 12; with_reducible refine (HW.out _).mono ?_; rintro e w' ⟨rfl, hb⟩))
  go_wp2_with fail
  go_ret
  exact ⟨rfl, by rw [HX.out]; exact HB1.out.trans ((held_below (by assumption)).mono (HX.out ▸ HB1.out.size))⟩
theorem walk (x : Edg) (a b : Nat) (w : World) (ha : a < 4294967296) (hb : b < 4294967296) : Calls Try.prog 11 #[x.agg, .int .u32 (a : Int), .int .u32 (b : Int)] w (LawOk w) := by
  by_cases h : x.tail = a ∧ x.head = b
  · exact walk_yes x a b w ha hb h
  · exact walk_no x a b w ha hb h

set_option maxRecDepth 100000 in
theorem lifted (os : Os) (started : os.Started) (H : Type) (enc : TypeId × Value → H) :
    ReturnsInHanded {} Try.checked os 11 .any (Rows.unpackLoneSpec.pre6 enc Try.prog Try.f11 Rows.unpackLoneRow.domain false) (Rows.unpackLoneSpec.post enc Try.prog Try.f11 false true false false) := by
  refine returnsInHanded_of_change (C := Try.checked) own_knob started (by kernel_rfl) Try.func11
    (ChangeSpec.witness6 (enc := enc) (C := Try.checked) false ⟨#[], #[.agg #[.int .u32 0, .int .u32 0, .int .u64 0, .int .u32 0], .int .u32 0, .int .u32 0], []⟩ 8 (by kernel_rfl) (by kernel_rfl) (by kernel_rfl) (by kernel_rfl)) ?_
  intro W base args ds gs before hval0 hW _ _
  have hval : ∀ (j : Nat) t v, Try.f11.params[j]? = some t → args[j]? = some v → Value.okWide Try.prog W .any base t v := hval0
  have hW' := hW
  obtain ⟨p, q, hA0, hV, rfl, _, _⟩ := hW
  have hA : DataW.TrodAll enc Try.prog W 0 (fun _ => true) true Try.f11.params.toList args.toList ds p := hA0
  rw [Try.params11] at hA hval
  obtain ⟨v0, vs0, d0, ds0, p0, q0, hargs, rfl, rfl, h0, r0⟩ := trodAll_cons hA
  obtain ⟨v1, vs1, d1, ds1, p1, q1, rfl, rfl, rfl, h1, r1⟩ := trodAll_cons r0
  obtain ⟨v2, vs2, d2, ds2, p2, q2, rfl, rfl, rfl, h2, r2⟩ := trodAll_cons r1
  obtain ⟨rfl, rfl, rfl⟩ := trodAll_nil r2
  obtain rfl : args = #[v0, v1, v2] := by cases args; simp_all
  obtain ⟨rfl, rfl⟩ := trodVars_none hV
  have hlt : ∀ x ∈ p0 ++ (p1 ++ (p2)), x.block < W.heap.size := fun x hx => hW'.lt x (by simpa using hx)
  obtain ⟨x0, rfl⟩ := open_edge (hval 0 42 v0 rfl rfl) h0
  obtain ⟨z1, rfl, rfl, rfl, w1⟩ := open_int Try.underlying25 (hval 1 25 v1 rfl rfl) h1
  obtain ⟨x1, rfl, hx1⟩ := u32_bounds w1
  obtain ⟨z2, rfl, rfl, rfl, w2⟩ := open_int Try.underlying25 (hval 2 25 v2 rfl rfl) h2
  obtain ⟨x2, rfl, hx2⟩ := u32_bounds w2
  refine (walk x0 x1 x2 W hx1 hx2).mono fun e W' ⟨he, hg⟩ => ?_
  subst he
  exact ⟨_, rfl, law_post hW' rfl (by kernel_rfl) rfl (by kernel_rfl) hg⟩

theorem proved : Rows.UnpackLoneSaid :=
  OpenClaim.holds_of_wide 11 Try.f11 rfl rfl rfl rfl rfl rfl rfl ⟨rfl, rfl, rfl, rfl, rfl⟩ rfl rfl rfl rfl rfl (by kernel_rfl) Try.func11 (by kernel_rfl)
    (of_decide_eq_true (by kernel_rfl)) (by unfold Func.isWrapper; first | (rw [if_pos (by decide +kernel)]; kernel_rfl) | (rw [if_neg (by decide +kernel)]; exact ⟨rfl, rfl⟩))
    (fun os started H enc _ => lifted os started H enc)

end Go.Proofs.Ytongpcfjfolfbaa.unpackLone
