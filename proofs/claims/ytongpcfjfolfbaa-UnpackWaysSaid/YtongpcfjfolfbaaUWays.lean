/- UnpackWays: for any shelf and any two vertices the call returns true: Way tells the document's edges, or its error. No condition. -/
import Derived.Test.YtongpcfjfolfbaaWk
import Derived.Test.YtongpcfjfolfbaaEp
namespace Go.Proofs.Ytongpcfjfolfbaa.unpackWays
open Go.ChangeShapes Go.WideShapes Go.ChangeAt Go.RowKit Go.Deep

theorem far (A : Option Addr) (n c : Nat) (a b : Nat) (w : World) (h : 60 < n) (hn : n ≤ 9223372036854775807) : Calls Try.prog 3 #[.agg #[.slice A n c], .int .u32 (a : Int), .int .u32 (b : Int)] w (LawOk w) := by
  have h1 : (60 : Int) < (n : Int) := by omega
  have HW := Lib.hid works_any
  go_enter Try.func3, Try.ntmps3
  go_wp2_with (go_at_call 12; refine (HW.out _).mono ?_; rintro e w1 ⟨rfl, hb1⟩)
  go_ret
  exact ⟨rfl, ((Below.refl _ _).alloc (Nat.le_refl _) _).trans (hb1.mono (by simp))⟩
theorem shelf_new (A : Option Addr) (c : Nat) (L : List Ent) (w : World) (h : EnLs w.heap.size w A L) : ∃ W, w.alloc (.cells #[.slice A L.length c] 24) = W ∧ ShelfIn w.heap.size w.heap.size A c L W ∧ Below w.heap.size w W ∧ W.heap.size = w.heap.size + 1 ∧ W.cell? ⟨w.heap.size, 0, none⟩ = some (.slice A L.length c) := by
  have hb : Below w.heap.size w (w.alloc (.cells #[.slice A L.length c] 24)) := (Below.refl _ _).alloc (Nat.le_refl _) _
  exact ⟨_, rfl, ⟨by simp, cell_new w _ _ 0, h.below hb⟩, hb, by simp, cell_new w _ _ 0⟩
set_option maxHeartbeats 1000000 in
theorem near (A : Option Addr) (L : List Ent) (c : Nat) (a b : Nat) (ha : a < 4294967296) (hb : b < 4294967296) (w : World) (hs : EnLs w.heap.size w A L) (hl : L.length ≤ 60) : Calls Try.prog 3 #[.agg #[.slice A L.length c], .int .u32 (a : Int), .int .u32 (b : Int)] w (LawOk w) := by
  have h1 : ¬ (60 : Int) < (L.length : Int) := by omega
  have hmf : ∀ (fn : Fn) (first cap : Array Value) (w : World), (Instr.makeFunc fn first cap).run Try.prog w = .ok (.func fn first cap) w := fun _ _ _ _ => rfl
  have HW := Lib.hid works_any
  obtain ⟨W, hW, hsh, hbw, hsz, c0⟩ := shelf_new A c L w hs
  have HSh := Lib.hid hsh
  have HBw := Lib.hid hbw
  have hlt : w.heap.size < W.heap.size := by omega
  clear hs hsh hbw hsz
  go_enter Try.func3, Try.ntmps3
  go_wp2_with fail
  clear hW c0
  refine (way_shelf w.heap.size w.heap.size A c L a b ha hb W hlt HSh.out).mono ?_
  have HR := Lib.hid (fun W' hI hS' => refWay_shelf w.heap.size w.heap.size A c L a b ha hb W' hS' hI)
  generalize openV (shelfG L) 65536 [] a b = r at *
  unfold WayTold at *
  generalize wayV r = q at *
  rintro e w1 ⟨A1, c1, rfl, hl1, hb1⟩
  have HB1 := Lib.hid hb1
  have HL1 := Lib.hid hl1
  have HSh1 := Lib.hid (shelfIn_below HSh.out hb1 hlt)
  have hlt1 : w.heap.size < w1.heap.size := Nat.lt_of_lt_of_le hlt hb1.size
  clear hb1 hl1
  go_wp2_with fail
  refine (HR.out w1 HSh1.out hlt1).mono ?_
  rintro e w2 ⟨A2, c2, rfl, hl2, hb2⟩
  have HB2 := Lib.hid (HB1.out.trans (hb2.mono HB1.out.size))
  have HL2 := Lib.hid hl2
  have HL1' := Lib.hid (HL1.out.below hb2)
  clear hb2 hl2
  obtain ⟨M, er⟩ := q
  dsimp only at *
  go_wp2_with fail
  refine (eq_same _ _ A1 A2 M c1 c2 w2 HL1'.out HL2.out).mono ?_
  rintro e w3 ⟨rfl, n3, rfl⟩
  go_wp2_with fail
  refine (HW.out _).mono ?_
  rintro e w4 ⟨rfl, hb4⟩
  have HB4 := Lib.hid hb4
  clear hb4
  go_wp2_with fail
  go_ret
  exact ⟨rfl, (below_drewN (HBw.out.trans (HB2.out.mono HBw.out.size)) n3).trans (HB4.out.mono (Nat.le_trans HBw.out.size HB2.out.size))⟩
theorem walk (A : Option Addr) (n c : Nat) (a b : Nat) (w : World) (hn : n ≤ maxLen) (hf : n ≤ 4611686018427387904 → ∃ l : List Ent, l.length = n ∧ EnLs w.heap.size w A l) (ha : a < 4294967296) (hb : b < 4294967296) : Calls Try.prog 3 #[.agg #[.slice A n c], .int .u32 (a : Int), .int .u32 (b : Int)] w (LawOk w) := by
  unfold maxLen at hn
  by_cases h : 60 < n
  · exact far A n c a b w h hn
  · obtain ⟨l, rfl, hl⟩ := hf (by omega)
    exact near A l c a b ha hb w hl (by omega)

set_option maxRecDepth 100000 in
theorem lifted (os : Os) (started : os.Started) (H : Type) (enc : TypeId × Value → H) :
    ReturnsInHanded {} Try.checked os 3 .any (Rows.unpackWaysSpec.pre6 enc Try.prog Try.f3 Rows.unpackWaysRow.domain false) (Rows.unpackWaysSpec.post enc Try.prog Try.f3 false true false false) := by
  refine returnsInHanded_of_change (C := Try.checked) own_knob started (by kernel_rfl) Try.func3
    (ChangeSpec.witness6 (enc := enc) (C := Try.checked) false ⟨#[], #[.agg #[.slice none 0 0], .int .u32 0, .int .u32 0], []⟩ 8 (by kernel_rfl) (by kernel_rfl) (by kernel_rfl) (by kernel_rfl)) ?_
  intro W base args ds gs before hval0 hW _ _
  have hval : ∀ (j : Nat) t v, Try.f3.params[j]? = some t → args[j]? = some v → Value.okWide Try.prog W .any base t v := hval0
  have hW' := hW
  obtain ⟨p, q, hA0, hV, rfl, _, _⟩ := hW
  have hA : DataW.TrodAll enc Try.prog W 0 (fun _ => true) true Try.f3.params.toList args.toList ds p := hA0
  rw [Try.params3] at hA hval
  obtain ⟨v0, vs0, d0, ds0, p0, q0, hargs, rfl, rfl, h0, r0⟩ := trodAll_cons hA
  obtain ⟨v1, vs1, d1, ds1, p1, q1, rfl, rfl, rfl, h1, r1⟩ := trodAll_cons r0
  obtain ⟨v2, vs2, d2, ds2, p2, q2, rfl, rfl, rfl, h2, r2⟩ := trodAll_cons r1
  obtain ⟨rfl, rfl, rfl⟩ := trodAll_nil r2
  obtain rfl : args = #[v0, v1, v2] := by cases args; simp_all
  obtain ⟨rfl, rfl⟩ := trodVars_none hV
  have hlt : ∀ x ∈ p0 ++ (p1 ++ (p2)), x.block < W.heap.size := fun x hx => hW'.lt x (by simpa using hx)
  obtain ⟨A0, n0, c0, rfl, hn0, hf0⟩ := open_shelf (hval 0 24 v0 rfl rfl) h0 (fun x hx => hlt x (by simp [hx]))
  obtain ⟨z1, rfl, rfl, rfl, w1⟩ := open_int Try.underlying25 (hval 1 25 v1 rfl rfl) h1
  obtain ⟨x1, rfl, hx1⟩ := u32_bounds w1
  obtain ⟨z2, rfl, rfl, rfl, w2⟩ := open_int Try.underlying25 (hval 2 25 v2 rfl rfl) h2
  obtain ⟨x2, rfl, hx2⟩ := u32_bounds w2
  refine (walk A0 n0 c0 x1 x2 W hn0 hf0 hx1 hx2).mono fun e W' ⟨he, hg⟩ => ?_
  subst he
  exact ⟨_, rfl, law_post hW' rfl (by kernel_rfl) rfl (by kernel_rfl) hg⟩

theorem proved : Rows.UnpackWaysSaid :=
  OpenClaim.holds_of_wide 3 Try.f3 rfl rfl rfl rfl rfl rfl rfl ⟨rfl, rfl, rfl, rfl, rfl⟩ rfl rfl rfl rfl rfl (by kernel_rfl) Try.func3 (by kernel_rfl)
    (of_decide_eq_true (by kernel_rfl)) (by unfold Func.isWrapper; first | (rw [if_pos (by decide +kernel)]; kernel_rfl) | (rw [if_neg (by decide +kernel)]; exact ⟨rfl, rfl⟩))
    (fun os started H enc _ => lifted os started H enc)

end Go.Proofs.Ytongpcfjfolfbaa.unpackWays
