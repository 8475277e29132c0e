/- UnpackRight: for any shelf and any two vertices the call returns true: a way leads from the one to the other, by edges that were told, and is as long as the edge. No condition. -/
import Derived.Test.YtongpcfjfolfbaaWk
import Derived.Test.YtongpcfjfolfbaaEp
import Derived.Deep.RegionHeld3
import Derived.StillTailTactics
namespace Go.Proofs.Ytongpcfjfolfbaa.unpackRight
open Go.ChangeShapes Go.WideShapes Go.ChangeAt Go.RowKit Go.Deep

theorem far (A : Option Addr) (n c : Nat) (a b : Nat) (w : World) (h : 60 < n) (hn : n ≤ 9223372036854775807) : Calls Try.prog 5 #[.agg #[.slice A n c], .int .u32 (a : Int), .int .u32 (b : Int)] w (LawOk w) := by
  have h1 : (60 : Int) < (n : Int) := by omega
  have HW := Lib.hid works_any
  go_enter Try.func5, Try.ntmps5
  go_wp2_with (go_at_call 12; refine (HW.out _).mono ?_; rintro e w1 ⟨rfl, hb1⟩)
  go_ret
  exact ⟨rfl, ((Below.refl _ _).alloc (Nat.le_refl _) _).trans (hb1.mono (by simp))⟩
theorem shelf_new (A : Option Addr) (c : Nat) (L : List Ent) (w : World) (h : EnLs w.heap.size w A L) : ∃ W, w.alloc (.cells #[.slice A L.length c] 24) = W ∧ ShelfIn w.heap.size w.heap.size A c L W ∧ Below w.heap.size w W ∧ W.heap.size = w.heap.size + 1 ∧ W.cell? ⟨w.heap.size, 0, none⟩ = some (.slice A L.length c) := by
  have hb : Below w.heap.size w (w.alloc (.cells #[.slice A L.length c] 24)) := (Below.refl _ _).alloc (Nat.le_refl _) _
  exact ⟨_, rfl, ⟨by simp, cell_new w _ _ 0, h.below hb⟩, hb, by simp, cell_new w _ _ 0⟩
theorem near_bad (A : Option Addr) (L : List Ent) (c : Nat) (a b : Nat) (ha : a < 4294967296) (hb : b < 4294967296) (w : World) (hs : EnLs w.heap.size w A L) (hl : L.length ≤ 60) (er : Int) (hop : openV (shelfG L) 65536 [] a b = .bad er) : Calls Try.prog 5 #[.agg #[.slice A L.length c], .int .u32 (a : Int), .int .u32 (b : Int)] w (LawOk w) := by
  have g1 : (er != 0) = true := by simpa using openV_bad_ne hop
  have h1 : ¬ (60 : Int) < (L.length : Int) := by omega
  have hmf : ∀ (fn : Fn) (first cap : Array Value) (w : World), (Instr.makeFunc fn first cap).run Try.prog w = .ok (.func fn first cap) w := fun _ _ _ _ => rfl
  have HW := Lib.hid works_any
  obtain ⟨W, hW, hsh, hbw, hsz, c0⟩ := shelf_new A c L w hs
  have HSh := Lib.hid hsh
  have HBw := Lib.hid hbw
  have hlt : w.heap.size < W.heap.size := by omega
  have HOp := Lib.hid hop
  clear hs hsh hbw hsz hop
  go_enter Try.func5, Try.ntmps5
  go_wp2_with fail
  clear hW c0
  refine (way_shelf w.heap.size w.heap.size A c L a b ha hb W hlt HSh.out).mono ?_
  unfold WayTold
  rw [HOp.out]
  dsimp only [wayV]
  rintro e w1 ⟨A1, c1, rfl, hl1, hb1⟩
  have HB1 := Lib.hid hb1
  have HL1 := Lib.hid hl1
  have HSh1 := Lib.hid (shelfIn_below HSh.out hb1 hlt)
  have hlt1 : w.heap.size < w1.heap.size := Nat.lt_of_lt_of_le hlt hb1.size
  clear hb1 hl1
  go_wp2_with fail
  refine (HW.out _).mono ?_
  rintro e w4 ⟨rfl, hb4⟩
  have HB4 := Lib.hid hb4
  clear hb4
  go_wp2_with fail
  go_ret
  exact ⟨rfl, (HBw.out.trans (HB1.out.mono HBw.out.size)).trans (HB4.out.mono (Nat.le_trans HBw.out.size HB1.out.size))⟩

theorem held_next {p o X : Nat} {tl hd wg md : Int} {V w2 w3 : World} (h : (fun w' => w'.cell? ⟨p, o, none⟩ = some (.int .u32 tl) ∧ w'.cell? ⟨p, o + 1, none⟩ = some (.int .u32 hd) ∧ w'.cell? ⟨p, o + 2, none⟩ = some (.int .u64 wg) ∧ w'.cell? ⟨p, o + 3, none⟩ = some (.int .u32 md) ∧ w'.cell? ⟨X, 0, none⟩ = some (.int .u32 tl) ∧ w'.cell? ⟨X, 1, none⟩ = some (.int .u32 hd) ∧ w'.cell? ⟨X, 2, none⟩ = some (.int .u64 wg) ∧ w'.cell? ⟨X, 3, none⟩ = some (.int .u32 md) ∧ Below V.heap.size V w') w2) (hb : Below w2.heap.size w2 w3) : (fun w' => w'.cell? ⟨p, o, none⟩ = some (.int .u32 tl) ∧ w'.cell? ⟨p, o + 1, none⟩ = some (.int .u32 hd) ∧ w'.cell? ⟨p, o + 2, none⟩ = some (.int .u64 wg) ∧ w'.cell? ⟨p, o + 3, none⟩ = some (.int .u32 md) ∧ w'.cell? ⟨X, 0, none⟩ = some (.int .u32 tl) ∧ w'.cell? ⟨X, 1, none⟩ = some (.int .u32 hd) ∧ w'.cell? ⟨X, 2, none⟩ = some (.int .u64 wg) ∧ w'.cell? ⟨X, 3, none⟩ = some (.int .u32 md) ∧ Below V.heap.size V w') w3 := by
  obtain ⟨a0, a1, a2, a3, b0, b1, b2, b3, hB⟩ := h
  have hq := World.block_lt_of_cell? w2 _ a0
  have hX := World.block_lt_of_cell? w2 _ b0
  have e1 := fun k => hb.cell (p := ⟨p, k, none⟩) hq
  have e2 := fun k => hb.cell (p := ⟨X, k, none⟩) hX
  exact ⟨(e1 o).trans a0, (e1 (o + 1)).trans a1, (e1 (o + 2)).trans a2, (e1 (o + 3)).trans a3, (e2 0).trans b0, (e2 1).trans b1, (e2 2).trans b2, (e2 3).trans b3, hB.trans (hb.mono hB.size)⟩
theorem held_drew {p o X : Nat} {tl hd wg md : Int} {V w2 : World} (h : (fun w' => w'.cell? ⟨p, o, none⟩ = some (.int .u32 tl) ∧ w'.cell? ⟨p, o + 1, none⟩ = some (.int .u32 hd) ∧ w'.cell? ⟨p, o + 2, none⟩ = some (.int .u64 wg) ∧ w'.cell? ⟨p, o + 3, none⟩ = some (.int .u32 md) ∧ w'.cell? ⟨X, 0, none⟩ = some (.int .u32 tl) ∧ w'.cell? ⟨X, 1, none⟩ = some (.int .u32 hd) ∧ w'.cell? ⟨X, 2, none⟩ = some (.int .u64 wg) ∧ w'.cell? ⟨X, 3, none⟩ = some (.int .u32 md) ∧ Below V.heap.size V w') w2) : (fun w' => w'.cell? ⟨p, o, none⟩ = some (.int .u32 tl) ∧ w'.cell? ⟨p, o + 1, none⟩ = some (.int .u32 hd) ∧ w'.cell? ⟨p, o + 2, none⟩ = some (.int .u64 wg) ∧ w'.cell? ⟨p, o + 3, none⟩ = some (.int .u32 md) ∧ w'.cell? ⟨X, 0, none⟩ = some (.int .u32 tl) ∧ w'.cell? ⟨X, 1, none⟩ = some (.int .u32 hd) ∧ w'.cell? ⟨X, 2, none⟩ = some (.int .u64 wg) ∧ w'.cell? ⟨X, 3, none⟩ = some (.int .u32 md) ∧ Below V.heap.size V w') w2.drew := held_next h (below_drewN (Below.refl _ _) 1)
theorem held_below {p o X : Nat} {tl hd wg md : Int} {V w2 : World} (h : (fun w' => w'.cell? ⟨p, o, none⟩ = some (.int .u32 tl) ∧ w'.cell? ⟨p, o + 1, none⟩ = some (.int .u32 hd) ∧ w'.cell? ⟨p, o + 2, none⟩ = some (.int .u64 wg) ∧ w'.cell? ⟨p, o + 3, none⟩ = some (.int .u32 md) ∧ w'.cell? ⟨X, 0, none⟩ = some (.int .u32 tl) ∧ w'.cell? ⟨X, 1, none⟩ = some (.int .u32 hd) ∧ w'.cell? ⟨X, 2, none⟩ = some (.int .u64 wg) ∧ w'.cell? ⟨X, 3, none⟩ = some (.int .u32 md) ∧ Below V.heap.size V w') w2) : Below V.heap.size V w2 := h.2.2.2.2.2.2.2.2
set_option maxRecDepth 100000 in
set_option maxHeartbeats 4000000 in
theorem near_one (A : Option Addr) (L : List Ent) (c : Nat) (a b : Nat) (ha : a < 4294967296) (hb : b < 4294967296) (w : World) (hs : EnLs w.heap.size w A L) (hl : L.length ≤ 60) (wt : Nat) (M : List Edg) (hop : openV (shelfG L) 65536 [] a b = .good wt M) (hone : (shelfG L a b).1.mid = 4294967295) : Calls Try.prog 5 #[.agg #[.slice A L.length c], .int .u32 (a : Int), .int .u32 (b : Int)] w (LawOk w) := by
  have HOne := Lib.hid hone
  clear hone
  have R := (openV_right (shelfG L) 65536 [] a b wt M (by simp) hop)
  obtain ⟨hl6, M2, hM, R⟩ := R
  rw [List.nil_append] at hM
  subst hM
  have HR := Lib.hid R
  have hpos : 0 < M.length := List.length_pos_iff.2 R.ne
  have hj : M.length - 1 < M.length := by omega
  have hfirst : (M[0]'hpos).tail = a := by
    have := R.first
    rw [List.head?_eq_getElem?, List.getElem?_eq_getElem hpos] at this
    simpa using this
  have hlast : (M[M.length - 1]'hj).head = b := by
    have := R.last
    rw [List.getLast?_eq_getElem?, List.getElem?_eq_getElem hj] at this
    simpa using this
  have HFst := Lib.hid hfirst
  have HLst := Lib.hid hlast
  have HOk := Lib.hid R.ok
  clear R hfirst hlast
  have h1 : ¬ (60 : Int) < (L.length : Int) := by omega
  have hmf : ∀ (fn : Fn) (first cap : Array Value) (w : World), (Instr.makeFunc fn first cap).run Try.prog w = .ok (.func fn first cap) w := fun _ _ _ _ => rfl
  have HW := Lib.hid works_any
  obtain ⟨W, hW, hsh, hbw, hsz, c0⟩ := shelf_new A c L w hs
  have HSh := Lib.hid hsh
  have HBw := Lib.hid hbw
  have hlt : w.heap.size < W.heap.size := by omega
  have HOp := Lib.hid hop
  clear hs hsh hbw hsz hop
  go_enter Try.func5, Try.ntmps5
  go_wp2_with fail
  clear hW c0
  refine (way_shelf w.heap.size w.heap.size A c L a b ha hb W hlt HSh.out).mono ?_
  unfold WayTold
  rw [HOp.out]
  dsimp only [wayV]
  rintro e w1 ⟨A1, c1, rfl, hl1, hb1⟩
  have HB1 := Lib.hid hb1
  have HL1 := Lib.hid hl1
  have HSh1 := Lib.hid (shelfIn_below HSh.out hb1 hlt)
  have hlt1 : w.heap.size < w1.heap.size := Nat.lt_of_lt_of_le hlt hb1.size
  clear hb1 hl1
  -- the edge, once more
  go_wp2_with fail
  refine (first_any w.heap.size w.heap.size A c L a b w1 HSh1.out.1 HSh1.out.2).mono ?_
  rintro e w2 ⟨rfl, hb2⟩
  rw [HOk.out]
  have HL2 := Lib.hid (HL1.out.below hb2)
  have HB2 := Lib.hid hb2
  have HSh2 := Lib.hid (shelfIn_below HSh1.out hb2 hlt1)
  have hlt2 : w.heap.size < w2.heap.size := Nat.lt_of_lt_of_le hlt1 hb2.size
  clear hb2
  obtain ⟨x, hx⟩ : ∃ x, x = (shelfG L a b).1 := ⟨_, rfl⟩
  rw [← hx]
  have HX := Lib.hid hx
  clear hx
  dsimp only [Edg.agg]
  go_wp2_with fail
  obtain ⟨W2, hW2, r2, hs2, hbx⟩ := boxed w2 x
  dsimp only [Edg.cells] at hW2
  rw [hW2]
  clear hW2
  have HL3 := Lib.hid (HL2.out.more HB2.out.size)
  have HL4 := Lib.hid (HL3.out.below hbx)
  have z1 := HBw.out.size
  have z2 := HB1.out.size
  have z3 := HB2.out.size
  have HBA := Lib.hid (((HBw.out.trans (HB1.out.mono z1)).trans (HB2.out.mono (by omega))).trans (hbx.mono (by omega)))
  have HSh3 := Lib.hid (shelfIn_below HSh2.out hbx hlt2)
  have hlt3 : w.heap.size < W2.heap.size := by omega
  have HR2 := Lib.hid r2
  have hX3 : w2.heap.size < W2.heap.size := by omega
  clear HL3 HL2 HL1 hbx r2 hs2 HSh HSh1 HSh2 HB1 HB2 z1 z2 z3 hlt hlt1 hlt2 HBw
  refine (sum_any _ A1 M c1 W2 HL4.out).mono ?_
  rintro e w3 ⟨rfl, n3, rfl⟩
  have HS1 := Lib.hid (right_sum HR.out)
  generalize hso : sumOf M = so at *
  generalize hsk : sumOk M = sk at *
  have HSo := Lib.hid hso
  have HSk := Lib.hid hsk
  clear hso hsk
  obtain ⟨p, o, rfl, hp, c0, c1', c2, c3⟩ := ELs.at' HL4.out 0 hpos
  obtain ⟨d0, d1, d2, d3⟩ := ELs.row HL4.out (M.length - 1) hj
  rw [HFst.out] at c0
  rw [HLst.out] at d1
  simp only [Nat.zero_mul, Nat.add_zero] at c0 c1' c2 c3
  obtain ⟨x0, x1, x2, x3⟩ := cells_of HR2.out
  have e0 : (0:Int) < (M.length:Int) := by omega
  have e1 : IntKind.i64.wrap ((M.length:Int) - 1) = (M.length:Int) - 1 := IntWalk.i64_in _ (by omega)
  have e3 : (0:Int) ≤ (M.length:Int) - 1 := by omega
  have e4 : (M.length:Int) - 1 < M.length := by omega
  have e5 : ((M.length:Int) - 1).toNat = M.length - 1 := by omega
  have e6 : ((M.length : Int) == 0) = false := by rw [beq_eq_false_iff_ne]; omega
  have e7 : ¬ (65536 : Int) < (M.length : Int) := by omega
  have hM : M = [x] := by
    rcases HR.out.two with h | h
    · rw [h.1, HX.out]
    · exact absurd HOne.out h.2.1
  have hxm : x.mid = 4294967295 := by rw [HX.out]; exact HOne.out
  have HMx := Lib.hid (show (M[0]'hpos) = x by simp [hM])
  have e8 : ((M.length : Int) == 1) = true := by rw [hM]; rfl
  have e9 : ((x.mid : Int) == 4294967295) = true := by rw [hxm]; rfl
  have k0 : W2.cell? ⟨p, o, none⟩ = some (.int .u32 x.tail) := by rw [c0, ← HFst.out, HMx.out]
  rw [HMx.out] at c1' c2 c3
  have K0 := Lib.hid k0
  clear hM hxm d0 d2 d3 HL4 k0
  go_wp2_with fail
  clear c0 d1 e1 e3 e4 e5 e6 e7 e8 e9
  have k0 := K0.out
  obtain ⟨V, hV⟩ : ∃ V, V = W2.drewN n3 := ⟨_, rfl⟩
  have HB3 : Hid (Below w.heap.size w V) := Lib.hid (by rw [hV]; exact below_drewN HBA.out n3)
  have k1 : V.cell? ⟨p, o, none⟩ = some (.int .u32 x.tail) := by rw [hV]; exact k0
  have k2 : V.cell? ⟨p, o + 1, none⟩ = some (.int .u32 x.head) := by rw [hV]; exact c1'
  have k3 : V.cell? ⟨p, o + 2, none⟩ = some (.int .u64 x.weight) := by rw [hV]; exact c2
  have k4 : V.cell? ⟨p, o + 3, none⟩ = some (.int .u32 x.mid) := by rw [hV]; exact c3
  have m1 : V.cell? ⟨w2.heap.size, 0, none⟩ = some (.int .u32 x.tail) := by rw [hV]; exact x0
  have m2 : V.cell? ⟨w2.heap.size, 1, none⟩ = some (.int .u32 x.head) := by rw [hV]; exact x1
  have m3 : V.cell? ⟨w2.heap.size, 2, none⟩ = some (.int .u64 x.weight) := by rw [hV]; exact x2
  have m4 : V.cell? ⟨w2.heap.size, 3, none⟩ = some (.int .u32 x.mid) := by rw [hV]; exact x3
  rw [← hV]
  clear hV K0 k0 c1' c2 c3 x0 x1 x2 x3 HBA HSh3 hlt3 HR2 hX3 HX HMx HOne HOk HLst HFst HR HOp HS1 HSo HSk hp
  generalize w2.heap.size = X at *
  generalize (x.tail : Int) = tl at *
  generalize (x.head : Int) = hd at *
  generalize (x.weight : Int) = wg at *
  generalize (x.mid : Int) = md at *
  have hS : (fun w' => w'.cell? ⟨p, o, none⟩ = some (.int .u32 tl) ∧ w'.cell? ⟨p, o + 1, none⟩ = some (.int .u32 hd) ∧ w'.cell? ⟨p, o + 2, none⟩ = some (.int .u64 wg) ∧ w'.cell? ⟨p, o + 3, none⟩ = some (.int .u32 md) ∧ w'.cell? ⟨X, 0, none⟩ = some (.int .u32 tl) ∧ w'.cell? ⟨X, 1, none⟩ = some (.int .u32 hd) ∧ w'.cell? ⟨X, 2, none⟩ = some (.int .u64 wg) ∧ w'.cell? ⟨X, 3, none⟩ = some (.int .u32 md) ∧ Below V.heap.size V w') V := ⟨k1, k2, k3, k4, m1, m2, m3, m4, Below.refl _ _⟩
  go_region_held3 (fun w' => w'.cell? ⟨p, o, none⟩ = some (.int .u32 tl) ∧ w'.cell? ⟨p, o + 1, none⟩ = some (.int .u32 hd) ∧ w'.cell? ⟨p, o + 2, none⟩ = some (.int .u64 wg) ∧ w'.cell? ⟨p, o + 3, none⟩ = some (.int .u32 md) ∧ w'.cell? ⟨X, 0, none⟩ = some (.int .u32 tl) ∧ w'.cell? ⟨X, 1, none⟩ = some (.int .u32 hd) ∧ w'.cell? ⟨X, 2, none⟩ = some (.int .u64 wg) ∧ w'.cell? ⟨X, 3, none⟩ = some (.int .u32 md) ∧ Below V.heap.size V w') (first | exact held_drew hS | exact held_next (by assumption) (by assumption))
    (first | (go_at_call 12; with_reducible refine (HW.out _).mono ?_; rintro e w' ⟨rfl, hb⟩))
  go_wp2_with fail
  go_ret
  exact ⟨rfl, HB3.out.trans ((held_below (by assumption)).mono HB3.out.size)⟩
theorem heldT_of {p o i : Nat} {y : Edg} {A : Option Addr} {c : Nat} {L : List Ent} {w wr w2 : World} (h : (fun w' => w'.cell? ⟨p, o + i * 4, none⟩ = some (.int .u32 (y.tail : Int)) ∧ w'.cell? ⟨p, o + i * 4 + 1, none⟩ = some (.int .u32 (y.head : Int)) ∧ ShelfIn w.heap.size w.heap.size A c L w' ∧ w.heap.size < wr.heap.size ∧ p < wr.heap.size ∧ Below wr.heap.size wr w') wr) (hb : Below wr.heap.size wr w2) : (fun w' => w'.cell? ⟨p, o + i * 4, none⟩ = some (.int .u32 (y.tail : Int)) ∧ w'.cell? ⟨p, o + i * 4 + 1, none⟩ = some (.int .u32 (y.head : Int)) ∧ ShelfIn w.heap.size w.heap.size A c L w' ∧ w.heap.size < wr.heap.size ∧ p < wr.heap.size ∧ Below wr.heap.size wr w') w2 := by
  obtain ⟨a0, a1, hs, hl, hp, _⟩ := h
  have e1 := fun k => hb.cell (p := ⟨p, k, none⟩) hp
  exact ⟨(e1 _).trans a0, (e1 _).trans a1, shelfIn_below hs hb hl, hl, hp, hb⟩
theorem heldT_below {p o i : Nat} {y : Edg} {A : Option Addr} {c : Nat} {L : List Ent} {w wr w2 : World} (h : (fun w' => w'.cell? ⟨p, o + i * 4, none⟩ = some (.int .u32 (y.tail : Int)) ∧ w'.cell? ⟨p, o + i * 4 + 1, none⟩ = some (.int .u32 (y.head : Int)) ∧ ShelfIn w.heap.size w.heap.size A c L w' ∧ w.heap.size < wr.heap.size ∧ p < wr.heap.size ∧ Below wr.heap.size wr w') w2) : Below wr.heap.size wr w2 := h.2.2.2.2.2
theorem heldT_next {p o i : Nat} {y : Edg} {A : Option Addr} {c : Nat} {L : List Ent} {w wr w2 w3 : World} (h : (fun w' => w'.cell? ⟨p, o + i * 4, none⟩ = some (.int .u32 (y.tail : Int)) ∧ w'.cell? ⟨p, o + i * 4 + 1, none⟩ = some (.int .u32 (y.head : Int)) ∧ ShelfIn w.heap.size w.heap.size A c L w' ∧ w.heap.size < wr.heap.size ∧ p < wr.heap.size ∧ Below wr.heap.size wr w') wr) (h2 : (fun w' => w'.cell? ⟨p, o + i * 4, none⟩ = some (.int .u32 (y.tail : Int)) ∧ w'.cell? ⟨p, o + i * 4 + 1, none⟩ = some (.int .u32 (y.head : Int)) ∧ ShelfIn w.heap.size w.heap.size A c L w' ∧ w.heap.size < wr.heap.size ∧ p < wr.heap.size ∧ Below wr.heap.size wr w') w2) (hb : Below w2.heap.size w2 w3) : (fun w' => w'.cell? ⟨p, o + i * 4, none⟩ = some (.int .u32 (y.tail : Int)) ∧ w'.cell? ⟨p, o + i * 4 + 1, none⟩ = some (.int .u32 (y.head : Int)) ∧ ShelfIn w.heap.size w.heap.size A c L w' ∧ w.heap.size < wr.heap.size ∧ p < wr.heap.size ∧ Below wr.heap.size wr w') w3 := heldT_of h ((heldT_below h2).trans (hb.mono (heldT_below h2).size))
theorem firstT {p o i : Nat} {y : Edg} {A : Option Addr} {c : Nat} {L : List Ent} {w wr w2 : World} (ht : shelfG L y.tail y.head = (y, 0)) (h : (fun w' => w'.cell? ⟨p, o + i * 4, none⟩ = some (.int .u32 (y.tail : Int)) ∧ w'.cell? ⟨p, o + i * 4 + 1, none⟩ = some (.int .u32 (y.head : Int)) ∧ ShelfIn w.heap.size w.heap.size A c L w' ∧ w.heap.size < wr.heap.size ∧ p < wr.heap.size ∧ Below wr.heap.size wr w') w2) :
    Calls Try.prog 14 #[.pointer (some ⟨w.heap.size, 0, none⟩), .int .u32 (y.tail : Int), .int .u32 (y.head : Int)] w2 fun e w' => e = .returned (.tuple #[.agg #[.int .u32 (y.tail : Int), .int .u32 (y.head : Int), .int .u64 (y.weight : Int), .int .u32 (y.mid : Int)], .int .i64 0]) ∧ Below w2.heap.size w2 w' := by
  have := first_any w.heap.size w.heap.size A c L y.tail y.head w2 h.2.2.1.1 h.2.2.1.2
  rw [ht] at this
  exact this
theorem firstU {p o i : Nat} {y : Edg} {A : Option Addr} {c : Nat} {L : List Ent} {w wr : World} (ht : shelfG L y.tail y.head = (y, 0)) (h : (fun w' => w'.cell? ⟨p, o + i * 4, none⟩ = some (.int .u32 (y.tail : Int)) ∧ w'.cell? ⟨p, o + i * 4 + 1, none⟩ = some (.int .u32 (y.head : Int)) ∧ ShelfIn w.heap.size w.heap.size A c L w' ∧ w.heap.size < wr.heap.size ∧ p < wr.heap.size ∧ Below wr.heap.size wr w') wr) :
    Calls Try.prog 14 #[.pointer (some ⟨w.heap.size, 0, none⟩), .int .u32 (y.tail : Int), .int .u32 (y.head : Int)] (wr.alloc (.cells #[.int .u32 0, .int .u32 0, .int .u64 0, .int .u32 0] 42)).drew fun e w' => e = .returned (.tuple #[.agg #[.int .u32 (y.tail : Int), .int .u32 (y.head : Int), .int .u64 (y.weight : Int), .int .u32 (y.mid : Int)], .int .i64 0]) ∧
      (Below (wr.alloc (.cells #[.int .u32 0, .int .u32 0, .int .u64 0, .int .u32 0] 42)).drew.heap.size (wr.alloc (.cells #[.int .u32 0, .int .u32 0, .int .u64 0, .int .u32 0] 42)).drew w' ∧ w'.heap[wr.heap.size]? = some (.cells Edg.nil.cells 42 (0, 0)) ∧ wr.heap.size < w'.heap.size) := by
  refine (firstT ht (heldT_of h (below_drewN ((Below.refl _ _).alloc (Nat.le_refl _) _) 1))).mono fun e w' ⟨he, hb⟩ => ⟨he, hb, ?_, ?_⟩
  · rw [hb.block _ (by show wr.heap.size < (wr.alloc _).heap.size; simp)]
    exact heap_alloc_new wr _
  · have := hb.size
    simp at this
    omega
set_option maxRecDepth 100000 in
set_option maxHeartbeats 4000000 in
theorem near_two (A : Option Addr) (L : List Ent) (c : Nat) (a b : Nat) (ha : a < 4294967296) (hb : b < 4294967296) (w : World) (hs : EnLs w.heap.size w A L) (hl : L.length ≤ 60) (wt : Nat) (M : List Edg) (hop : openV (shelfG L) 65536 [] a b = .good wt M) (hone : ¬ (shelfG L a b).1.mid = 4294967295) : Calls Try.prog 5 #[.agg #[.slice A L.length c], .int .u32 (a : Int), .int .u32 (b : Int)] w (LawOk w) := by
  have HOne := Lib.hid hone
  clear hone
  have R := (openV_right (shelfG L) 65536 [] a b wt M (by simp) hop)
  obtain ⟨hl6, M2, hM, R⟩ := R
  rw [List.nil_append] at hM
  subst hM
  have HR := Lib.hid R
  have hpos : 0 < M.length := List.length_pos_iff.2 R.ne
  have hj : M.length - 1 < M.length := by omega
  have hfirst : (M[0]'hpos).tail = a := by
    have := R.first
    rw [List.head?_eq_getElem?, List.getElem?_eq_getElem hpos] at this
    simpa using this
  have hlast : (M[M.length - 1]'hj).head = b := by
    have := R.last
    rw [List.getLast?_eq_getElem?, List.getElem?_eq_getElem hj] at this
    simpa using this
  have HFst := Lib.hid hfirst
  have HLst := Lib.hid hlast
  have HOk := Lib.hid R.ok
  clear R hfirst hlast
  have h1 : ¬ (60 : Int) < (L.length : Int) := by omega
  have hmf : ∀ (fn : Fn) (first cap : Array Value) (w : World), (Instr.makeFunc fn first cap).run Try.prog w = .ok (.func fn first cap) w := fun _ _ _ _ => rfl
  have HW := Lib.hid works_any
  obtain ⟨W, hW, hsh, hbw, hsz, c0⟩ := shelf_new A c L w hs
  have HSh := Lib.hid hsh
  have HBw := Lib.hid hbw
  have hlt : w.heap.size < W.heap.size := by omega
  have HOp := Lib.hid hop
  clear hs hsh hbw hsz hop
  go_enter Try.func5, Try.ntmps5
  go_wp2_with fail
  clear hW c0
  refine (way_shelf w.heap.size w.heap.size A c L a b ha hb W hlt HSh.out).mono ?_
  unfold WayTold
  rw [HOp.out]
  dsimp only [wayV]
  rintro e w1 ⟨A1, c1, rfl, hl1, hb1⟩
  have HB1 := Lib.hid hb1
  have HL1 := Lib.hid hl1
  have HSh1 := Lib.hid (shelfIn_below HSh.out hb1 hlt)
  have hlt1 : w.heap.size < w1.heap.size := Nat.lt_of_lt_of_le hlt hb1.size
  clear hb1 hl1
  -- the edge, once more
  go_wp2_with fail
  refine (first_any w.heap.size w.heap.size A c L a b w1 HSh1.out.1 HSh1.out.2).mono ?_
  rintro e w2 ⟨rfl, hb2⟩
  rw [HOk.out]
  have HL2 := Lib.hid (HL1.out.below hb2)
  have HB2 := Lib.hid hb2
  have HSh2 := Lib.hid (shelfIn_below HSh1.out hb2 hlt1)
  have hlt2 : w.heap.size < w2.heap.size := Nat.lt_of_lt_of_le hlt1 hb2.size
  clear hb2
  obtain ⟨x, hx⟩ : ∃ x, x = (shelfG L a b).1 := ⟨_, rfl⟩
  rw [← hx]
  have HX := Lib.hid hx
  clear hx
  dsimp only [Edg.agg]
  go_wp2_with fail
  obtain ⟨W2, hW2, r2, hs2, hbx⟩ := boxed w2 x
  dsimp only [Edg.cells] at hW2
  rw [hW2]
  clear hW2
  have HL3 := Lib.hid (HL2.out.more HB2.out.size)
  have HL4 := Lib.hid (HL3.out.below hbx)
  have z1 := HBw.out.size
  have z2 := HB1.out.size
  have z3 := HB2.out.size
  have HBA := Lib.hid (((HBw.out.trans (HB1.out.mono z1)).trans (HB2.out.mono (by omega))).trans (hbx.mono (by omega)))
  have HSh3 := Lib.hid (shelfIn_below HSh2.out hbx hlt2)
  have hlt3 : w.heap.size < W2.heap.size := by omega
  have HR2 := Lib.hid r2
  have hX3 : w2.heap.size < W2.heap.size := by omega
  clear HL3 HL2 HL1 hbx r2 hs2 HSh HSh1 HSh2 HB1 HB2 z1 z2 z3 hlt hlt1 hlt2 HBw
  refine (sum_any _ A1 M c1 W2 HL4.out).mono ?_
  rintro e w3 ⟨rfl, n3, rfl⟩
  have HS1 := Lib.hid (right_sum HR.out)
  generalize hso : sumOf M = so at *
  generalize hsk : sumOk M = sk at *
  have HSo := Lib.hid hso
  have HSk := Lib.hid hsk
  clear hso hsk
  obtain ⟨p, o, rfl, hp, c0, c1', c2, c3⟩ := ELs.at' HL4.out 0 hpos
  obtain ⟨d0, d1, d2, d3⟩ := ELs.row HL4.out (M.length - 1) hj
  rw [HFst.out] at c0
  rw [HLst.out] at d1
  simp only [Nat.zero_mul, Nat.add_zero] at c0 c1' c2 c3
  obtain ⟨x0, x1, x2, x3⟩ := cells_of HR2.out
  have e0 : (0:Int) < (M.length:Int) := by omega
  have e1 : IntKind.i64.wrap ((M.length:Int) - 1) = (M.length:Int) - 1 := IntWalk.i64_in _ (by omega)
  have e3 : (0:Int) ≤ (M.length:Int) - 1 := by omega
  have e4 : (M.length:Int) - 1 < M.length := by omega
  have e5 : ((M.length:Int) - 1).toNat = M.length - 1 := by omega
  have e6 : ((M.length : Int) == 0) = false := by rw [beq_eq_false_iff_ne]; omega
  have e7 : ¬ (65536 : Int) < (M.length : Int) := by omega
  have hM : 2 ≤ M.length ∧ wt < 9223372036854775808 := by
    rcases HR.out.two with h | h
    · exact absurd h.2 HOne.out
    · exact ⟨h.1, h.2.2⟩
  obtain ⟨hsk, hso⟩ := HS1.out hM.2
  have hwx : wt = x.weight := by rw [HX.out]; exact HR.out.is
  have e8 : ((M.length : Int) == 1) = false := by rw [beq_eq_false_iff_ne]; omega
  rw [hsk]
  rw [hso, hwx]
  clear hM hsk hso hwx HS1 HSo HSk HX HOne c1' c2 c3 d0 d2 d3 x0 x1 x3
  go_wp2_with fail
  clear c0 d1 x2 e1 e3 e4 e5 e6 e7 e8
  obtain ⟨V, hV⟩ : ∃ V, V = W2.drewN n3 := ⟨_, rfl⟩
  have HB3 : Hid (Below w.heap.size w V) := Lib.hid (by rw [hV]; exact below_drewN HBA.out n3)
  have HLV : Hid (ELs w2.heap.size V (some ⟨p, o, none⟩) M) := Lib.hid (by rw [hV]; exact HL4.out.drew ⟨n3, rfl⟩)
  have HSV : Hid (ShelfIn w.heap.size w.heap.size A c L V) := Lib.hid (by rw [hV]; exact shelfIn_below HSh3.out (below_drewN (Below.refl _ _) n3) hlt3)
  have hX4 : w2.heap.size < V.heap.size := by rw [hV]; exact hX3
  have hlt4 : w.heap.size < V.heap.size := by rw [hV]; exact hlt3
  rw [← hV]
  clear hV HBA HL4 HSh3 hX3 hlt3 HR2
  go_loopw [13] (fun vi wr => ∃ i : Nat, i ≤ M.length ∧ vi = .int .i64 i ∧ Hid (Below V.heap.size V wr)) (fun vi _ => M.length - (intOf vi).toNat)
  case atStart => exact ⟨0, by omega, rfl, Lib.hid (Below.refl _ _)⟩
  case round =>
    obtain ⟨i, hi, rfl, HB⟩ := hrel
    by_cases hlt : i < M.length
    · obtain ⟨k0, k1, k2, k3⟩ := ELs.row (HLV.out.keep fun q hq => HB.out.cell (Nat.lt_trans hq hX4)) i hlt
      have HT := Lib.hid (HR.out.told M[i] (List.getElem_mem hlt))
      have HSr := Lib.hid (shelfIn_below HSV.out HB.out hlt4)
      have hltr : w.heap.size < wr.heap.size := Nat.lt_of_lt_of_le hlt4 HB.out.size
      have hpr : p < wr.heap.size := World.block_lt_of_cell? wr _ k0
      generalize M[i] = y at *
      have e1 : (0:Int) ≤ (i:Int) := by omega
      have e2 : (i:Int) < M.length := by omega
      have e3 : (i:Int) < (M.length:Int) := by omega
      go_wp2_with fail
      have hT : (fun w' => w'.cell? ⟨p, o + i * 4, none⟩ = some (.int .u32 (y.tail : Int)) ∧ w'.cell? ⟨p, o + i * 4 + 1, none⟩ = some (.int .u32 (y.head : Int)) ∧ ShelfIn w.heap.size w.heap.size A c L w' ∧ w.heap.size < wr.heap.size ∧ p < wr.heap.size ∧ Below wr.heap.size wr w') wr := ⟨k0, k1, HSr.out, hltr, hpr, Below.refl _ _⟩
      have K := Lib.hid (show _ ∧ _ ∧ _ ∧ _ from ⟨k0, k1, k2, k3⟩)
      go_region_held3 (fun w' => w'.cell? ⟨p, o + i * 4, none⟩ = some (.int .u32 (y.tail : Int)) ∧ w'.cell? ⟨p, o + i * 4 + 1, none⟩ = some (.int .u32 (y.head : Int)) ∧ ShelfIn w.heap.size w.heap.size A c L w' ∧ w.heap.size < wr.heap.size ∧ p < wr.heap.size ∧ Below wr.heap.size wr w') (first | exact heldT_of hT hB2 | exact heldT_of hT (hB2.alloc hB2.size _) | exact heldT_of hT (low4 hB2 (Nat.le_refl _) _ _ _ _) | exact heldT_of hT (below_drewN (Below.refl _ _) 1) | exact heldT_of hT (below_drewN ((Below.refl _ _).alloc (Nat.le_refl _) _) 1) | exact heldT_next hT (by assumption) (by assumption) | exact heldT_next hT (by assumption) ((Below.refl _ _).alloc (Nat.le_refl _) _) | exact heldT_of hT (low4 (heldT_below (by assumption)) (Nat.le_refl _) _ _ _ _))
        (first
         | (go_at_call 14; (with_reducible refine (firstU HT.out.1 hT).mono ?_); rintro e w' ⟨rfl, hb, hbox, hzz⟩; obtain ⟨b0, b1, b2, b3⟩ := cells_of hbox; obtain ⟨f0, f1, f2, f3⟩ := frozen_of hbox; have hB2 : Below wr.heap.size wr w' := (below_drewN ((Below.refl _ _).alloc (Nat.le_refl _) _) 1).trans (hb.mono (by simp)))
         | (go_at_call 14; (with_reducible refine (firstT HT.out.1 (by assumption)).mono ?_); rintro e w' ⟨rfl, hb⟩; have hB2 : Below wr.heap.size wr w' := ⟨hb.os, hb.tape, hb.output, hb.size, fun k hk => hb.block k hk⟩))
      · obtain ⟨U, hU0, hZ, _, hbz⟩ := boxed w' y
        dsimp only [Edg.cells] at hU0
        have hU := hB2.trans (hbz.mono hB2.size)
        rw [hU0]
        clear hU0 hbz
        have HU := Lib.hid hU
        have HZ := Lib.hid hZ
        clear hU hZ k0 k1 k2 k3 hT
        obtain ⟨k0, k1, k2, k3⟩ := (show U.cell? ⟨p, o + i * 4, none⟩ = some (.int .u32 (y.tail : Int)) ∧ U.cell? ⟨p, o + i * 4 + 1, none⟩ = some (.int .u32 (y.head : Int)) ∧ U.cell? ⟨p, o + i * 4 + 2, none⟩ = some (.int .u64 (y.weight : Int)) ∧ U.cell? ⟨p, o + i * 4 + 3, none⟩ = some (.int .u32 (y.mid : Int)) from ⟨(HU.out.cell (p := ⟨p, _, none⟩) hpr).trans K.out.1, (HU.out.cell (p := ⟨p, _, none⟩) hpr).trans K.out.2.1, (HU.out.cell (p := ⟨p, _, none⟩) hpr).trans K.out.2.2.1, (HU.out.cell (p := ⟨p, _, none⟩) hpr).trans K.out.2.2.2⟩)
        obtain ⟨x0, x1, x2, x3⟩ := cells_of HZ.out
        have g9 : ((y.mid : Int) != 4294967295) = false := by rw [HT.out.2]; rfl
        go_wp2_with fail
        go_quiet (fail)
        clear k0 k1 k2 k3 x0 x1 x2 x3 g9
        go_wp2_with fail
        go_roundw
        case rel => exact ⟨i + 1, by omega, by go_num, Lib.hid (below_drewN (HB.out.trans (HU.out.mono HB.out.size)) _)⟩
        case measure => simp [intOf]; omega
      · have hZ := set4 y hbox
        have hU := low4 hB2 (Nat.le_refl _) (.int .u32 (y.tail : Int)) (.int .u32 (y.head : Int)) (.int .u64 (y.weight : Int)) (.int .u32 (y.mid : Int))
        clear b0 b1 b2 b3 f0 f1 f2 f3
        generalize ((((w'.setCell ⟨wr.heap.size, 0, none⟩ (.int .u32 (y.tail : Int))).setCell ⟨wr.heap.size, 1, none⟩ (.int .u32 (y.head : Int))).setCell ⟨wr.heap.size, 2, none⟩ (.int .u64 (y.weight : Int))).setCell ⟨wr.heap.size, 3, none⟩ (.int .u32 (y.mid : Int))) = U at *
        have HU := Lib.hid hU
        have HZ := Lib.hid hZ
        clear hU hZ k0 k1 k2 k3 hT
        obtain ⟨k0, k1, k2, k3⟩ := (show U.cell? ⟨p, o + i * 4, none⟩ = some (.int .u32 (y.tail : Int)) ∧ U.cell? ⟨p, o + i * 4 + 1, none⟩ = some (.int .u32 (y.head : Int)) ∧ U.cell? ⟨p, o + i * 4 + 2, none⟩ = some (.int .u64 (y.weight : Int)) ∧ U.cell? ⟨p, o + i * 4 + 3, none⟩ = some (.int .u32 (y.mid : Int)) from ⟨(HU.out.cell (p := ⟨p, _, none⟩) hpr).trans K.out.1, (HU.out.cell (p := ⟨p, _, none⟩) hpr).trans K.out.2.1, (HU.out.cell (p := ⟨p, _, none⟩) hpr).trans K.out.2.2.1, (HU.out.cell (p := ⟨p, _, none⟩) hpr).trans K.out.2.2.2⟩)
        obtain ⟨x0, x1, x2, x3⟩ := cells_of HZ.out
        have g9 : ((y.mid : Int) != 4294967295) = false := by rw [HT.out.2]; rfl
        go_wp2_with fail
        go_quiet (fail)
        clear k0 k1 k2 k3 x0 x1 x2 x3 g9
        go_wp2_with fail
        go_roundw
        case rel => exact ⟨i + 1, by omega, by go_num, Lib.hid (below_drewN (HB.out.trans (HU.out.mono HB.out.size)) _)⟩
        case measure => simp [intOf]; omega
    · have e3 : ¬ (i:Int) < (M.length:Int) := by omega
      go_wp2_with fail
      refine (HW.out _).mono ?_
      rintro e w5 ⟨rfl, hb5⟩
      have HB5 := Lib.hid hb5
      clear hb5
      go_wp2_with fail
      go_ret
      exact ⟨rfl, (HB3.out.trans (HB.out.mono HB3.out.size)).trans (HB5.out.mono (Nat.le_trans HB3.out.size HB.out.size))⟩
theorem near (A : Option Addr) (L : List Ent) (c : Nat) (a b : Nat) (ha : a < 4294967296) (hb : b < 4294967296) (w : World) (hs : EnLs w.heap.size w A L) (hl : L.length ≤ 60) : Calls Try.prog 5 #[.agg #[.slice A L.length c], .int .u32 (a : Int), .int .u32 (b : Int)] w (LawOk w) := by
  cases hop : openV (shelfG L) 65536 [] a b with
  | bad er => exact near_bad A L c a b ha hb w hs hl er hop
  | good wt M =>
    by_cases h : (shelfG L a b).1.mid = 4294967295
    · exact near_one A L c a b ha hb w hs hl wt M hop h
    · exact near_two A L c a b ha hb w hs hl wt M hop h
theorem walk (A : Option Addr) (n c : Nat) (a b : Nat) (w : World) (hn : n ≤ maxLen) (hf : n ≤ 4611686018427387904 → ∃ l : List Ent, l.length = n ∧ EnLs w.heap.size w A l) (ha : a < 4294967296) (hb : b < 4294967296) : Calls Try.prog 5 #[.agg #[.slice A n c], .int .u32 (a : Int), .int .u32 (b : Int)] w (LawOk w) := by
  unfold maxLen at hn
  by_cases h : 60 < n
  · exact far A n c a b w h hn
  · obtain ⟨l, rfl, hl⟩ := hf (by omega)
    exact near A l c a b ha hb w hl (by omega)

set_option maxRecDepth 100000 in
theorem lifted (os : Os) (started : os.Started) (H : Type) (enc : TypeId × Value → H) :
    ReturnsInHanded {} Try.checked os 5 .any (Rows.unpackRightSpec.pre6 enc Try.prog Try.f5 Rows.unpackRightRow.domain false) (Rows.unpackRightSpec.post enc Try.prog Try.f5 false true false false) := by
  refine returnsInHanded_of_change (C := Try.checked) own_knob started (by kernel_rfl) Try.func5
    (ChangeSpec.witness6 (enc := enc) (C := Try.checked) false ⟨#[], #[.agg #[.slice none 0 0], .int .u32 0, .int .u32 0], []⟩ 8 (by kernel_rfl) (by kernel_rfl) (by kernel_rfl) (by kernel_rfl)) ?_
  intro W base args ds gs before hval0 hW _ _
  have hval : ∀ (j : Nat) t v, Try.f5.params[j]? = some t → args[j]? = some v → Value.okWide Try.prog W .any base t v := hval0
  have hW' := hW
  obtain ⟨p, q, hA0, hV, rfl, _, _⟩ := hW
  have hA : DataW.TrodAll enc Try.prog W 0 (fun _ => true) true Try.f5.params.toList args.toList ds p := hA0
  rw [Try.params5] at hA hval
  obtain ⟨v0, vs0, d0, ds0, p0, q0, hargs, rfl, rfl, h0, r0⟩ := trodAll_cons hA
  obtain ⟨v1, vs1, d1, ds1, p1, q1, rfl, rfl, rfl, h1, r1⟩ := trodAll_cons r0
  obtain ⟨v2, vs2, d2, ds2, p2, q2, rfl, rfl, rfl, h2, r2⟩ := trodAll_cons r1
  obtain ⟨rfl, rfl, rfl⟩ := trodAll_nil r2
  obtain rfl : args = #[v0, v1, v2] := by cases args; simp_all
  obtain ⟨rfl, rfl⟩ := trodVars_none hV
  have hlt : ∀ x ∈ p0 ++ (p1 ++ (p2)), x.block < W.heap.size := fun x hx => hW'.lt x (by simpa using hx)
  obtain ⟨A0, n0, c0, rfl, hn0, hf0⟩ := open_shelf (hval 0 24 v0 rfl rfl) h0 (fun x hx => hlt x (by simp [hx]))
  obtain ⟨z1, rfl, rfl, rfl, w1⟩ := open_int Try.underlying25 (hval 1 25 v1 rfl rfl) h1
  obtain ⟨x1, rfl, hx1⟩ := u32_bounds w1
  obtain ⟨z2, rfl, rfl, rfl, w2⟩ := open_int Try.underlying25 (hval 2 25 v2 rfl rfl) h2
  obtain ⟨x2, rfl, hx2⟩ := u32_bounds w2
  refine (walk A0 n0 c0 x1 x2 W hn0 hf0 hx1 hx2).mono fun e W' ⟨he, hg⟩ => ?_
  subst he
  exact ⟨_, rfl, law_post hW' rfl (by kernel_rfl) rfl (by kernel_rfl) hg⟩

theorem proved : Rows.UnpackRightSaid :=
  OpenClaim.holds_of_wide 5 Try.f5 rfl rfl rfl rfl rfl rfl rfl ⟨rfl, rfl, rfl, rfl, rfl⟩ rfl rfl rfl rfl rfl (by kernel_rfl) Try.func5 (by kernel_rfl)
    (of_decide_eq_true (by kernel_rfl)) (by unfold Func.isWrapper; first | (rw [if_pos (by decide +kernel)]; kernel_rfl) | (rw [if_neg (by decide +kernel)]; exact ⟨rfl, rfl⟩))
    (fun os started H enc _ => lifted os started H enc)

end Go.Proofs.Ytongpcfjfolfbaa.unpackRight
