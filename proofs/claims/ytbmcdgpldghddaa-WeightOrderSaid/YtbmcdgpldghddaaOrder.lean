/- WeightOrder: better is an order of weights and middles, in which the ends have no say. No condition. -/
import Derived.Test.YtbmcdgpldghddaaWw
import Derived.Test.YtbmcdgpldghddaaEo
namespace Go.Proofs.Ytbmcdgpldghddaa.weightOrder
open Go.ChangeShapes Go.WideShapes Go.ChangeAt Go.RowKit

theorem nx_eq {m k : Nat} (h1 : m < 4294967296) (h2 : k < 4294967296) (h : nx m = nx k) : m = k := by unfold nx at h; omega
theorem irr (a : Edg) : betterB a a = false := by unfold betterB; simp
theorem asym (a b : Edg) (h1 : betterB a b = true) (h2 : betterB b a = true) : False := by
  unfold betterB at h1 h2
  simp only [decide_eq_true_eq] at h1 h2
  omega
theorem both (a b : Edg) : (betterB a b = false ∧ betterB b a = false) ↔ (a.weight = b.weight ∧ a.mid = b.mid) := by
  unfold betterB
  simp only [decide_eq_false_iff_not]
  constructor
  · rintro ⟨h1, h2⟩
    have hw : a.weight = b.weight := by omega
    exact ⟨hw, nx_eq a.hmid b.hmid (by omega)⟩
  · rintro ⟨h1, h2⟩
    rw [h1, h2]
    omega
theorem trans (a b c : Edg) (h1 : betterB a b = true) (h2 : betterB b c = true) : betterB a c = true := by
  unfold betterB at *
  simp only [decide_eq_true_eq] at *
  omega

/-- the cells of an edge's box -/
structure EdAt (w : World) (B : Nat) (x : Edg) : Prop where
  c0 : w.cell? ⟨B, 0, none⟩ = some (.int .u32 x.tail)
  c1 : w.cell? ⟨B, 1, none⟩ = some (.int .u32 x.head)
  c2 : w.cell? ⟨B, 2, none⟩ = some (.int .u64 x.weight)
  c3 : w.cell? ⟨B, 3, none⟩ = some (.int .u32 x.mid)
theorem EdAt.new (w : World) (x : Edg) : EdAt (w.alloc (.cells x.cells 30)) w.heap.size x := ⟨cell_new w _ _ 0, cell_new w _ _ 1, cell_new w _ _ 2, cell_new w _ _ 3⟩
theorem EdAt.below {w w' : World} {B : Nat} {x : Edg} (h : EdAt w B x) (hb : Below w.heap.size w w') (hB : B < w.heap.size) : EdAt w' B x :=
  ⟨(hb.cell (p := ⟨B, 0, none⟩) hB).trans h.c0, (hb.cell (p := ⟨B, 1, none⟩) hB).trans h.c1, (hb.cell (p := ⟨B, 2, none⟩) hB).trans h.c2, (hb.cell (p := ⟨B, 3, none⟩) hB).trans h.c3⟩

/-- three edges in boxes -/
structure Three (w W : World) (a b c : Edg) : Prop where
  at0 : EdAt W w.heap.size a
  at1 : EdAt W (w.heap.size + 1) b
  at2 : EdAt W (w.heap.size + 2) c
  size : w.heap.size + 3 ≤ W.heap.size
  low : Below w.heap.size w W
theorem Three.next {w W W' : World} {a b c : Edg} (h : Three w W a b c) (hb : Below W.heap.size W W') : Three w W' a b c := by
  have hs := h.size
  exact ⟨h.at0.below hb (by omega), h.at1.below hb (by omega), h.at2.below hb (by omega), Nat.le_trans h.size hb.size, h.low.trans (hb.mono h.low.size)⟩
theorem Three.past {w W : World} {a b c : Edg} (h : Three w W a b c) (o : Obj) : Three w (W.alloc o) a b c := h.next ((Below.refl _ _).alloc (Nat.le_refl _) _)
/-- a fourth, made last, of whatever ends -/
theorem fourth {w W W' : World} {a b c d : Edg} (h : Three w W a b c) (hb : Below (W.alloc (.cells d.cells 30)).heap.size (W.alloc (.cells d.cells 30)) W') : Three w W' a b c ∧ EdAt W' W.heap.size d :=
  ⟨(h.past _).next hb, (EdAt.new W d).below hb (by simp)⟩
theorem Three.new (w : World) (a b c : Edg) : Three w (((w.alloc (.cells a.cells 30)).alloc (.cells b.cells 30)).alloc (.cells c.cells 30)) a b c := by
  have hb : ∀ (W : World) (x : Edg), Below W.heap.size W (W.alloc (.cells x.cells 30)) := fun W x => (Below.refl _ _).alloc (Nat.le_refl _) _
  have h1 := EdAt.new w a
  have h2 := EdAt.new (w.alloc (.cells a.cells 30)) b
  have h3 := EdAt.new ((w.alloc (.cells a.cells 30)).alloc (.cells b.cells 30)) c
  simp only [World.size_alloc] at h2 h3
  refine ⟨(h1.below (hb _ b) (by simp)).below (hb _ c) (by simp; omega), h2.below (hb _ c) (by simp), h3, by simp, ?_⟩
  exact (hb w a).trans (((hb _ b).trans ((hb _ c).mono (by simp))).mono (by simp))

set_option maxRecDepth 100000 in
set_option maxHeartbeats 8000000 in
theorem walk (a b c : Edg) (w : World) : Calls Try.prog 5 #[a.agg, b.agg, c.agg] w (LawOk w) := by
  have Hab := Lib.hid fun W => better_any a b W
  have Hba := Lib.hid fun W => better_any b a W
  have Haa := Lib.hid fun W => better_any a a W
  have Hbc := Lib.hid fun W => better_any b c W
  have Hac := Lib.hid fun W => better_any a c W
  rw [irr a] at Haa
  have Hdb := Lib.hid fun W => better_any ⟨b.head, c.tail, a.weight, a.mid, b.hhead, c.htail, a.hweight, a.hmid⟩ b W
  have Hbd := Lib.hid fun W => better_any b ⟨b.head, c.tail, a.weight, a.mid, b.hhead, c.htail, a.hweight, a.hmid⟩ W
  rw [show betterB ⟨b.head, c.tail, a.weight, a.mid, b.hhead, c.htail, a.hweight, a.hmid⟩ b = betterB a b from rfl] at Hdb
  rw [show betterB b ⟨b.head, c.tail, a.weight, a.mid, b.hhead, c.htail, a.hweight, a.hmid⟩ = betterB b a from rfl] at Hbd
  have L1 := asym a b
  have L2 := both a b
  have L3 := trans a b c
  have hT := Three.new w a b c
  dsimp only [Edg.cells, Edg.agg] at Hab Hba Haa Hbc Hac Hdb Hbd hT ⊢
  generalize betterB a b = ab at *
  generalize betterB b a = ba at *
  generalize betterB b c = bc at *
  generalize betterB a c = ac at *
  have HT := Lib.hid hT
  have HL := Lib.hid (And.intro L2 L3)
  clear hT L2 L3
  go_enter Try.func5, Try.ntmps5
  go_wp2_with fail
  obtain ⟨W, hWe⟩ : ∃ W, (((w.alloc (.cells #[.int .u32 (a.tail : Int), .int .u32 (a.head : Int), .int .u64 (a.weight : Int), .int .u32 (a.mid : Int)] 30)).alloc (.cells #[.int .u32 (b.tail : Int), .int .u32 (b.head : Int), .int .u64 (b.weight : Int), .int .u32 (b.mid : Int)] 30)).alloc (.cells #[.int .u32 (c.tail : Int), .int .u32 (c.head : Int), .int .u64 (c.weight : Int), .int .u32 (c.mid : Int)] 30)) = W := ⟨_, rfl⟩
  rw [hWe] at HT ⊢
  clear hWe
  refine (Hab.out W).mono ?_
  rintro e w1 ⟨rfl, hb1⟩
  have HT := Lib.hid (HT.out.next hb1)
  clear hb1
  obtain ⟨⟨a0, a1, a2, a3⟩, ⟨b0, b1, b2, b3⟩, ⟨c0, c1, c2, c3⟩, hsz, _⟩ := HT.out
  go_wp2_with fail
  clear a0 a1 a2 a3 b0 b1 b2 b3 c0 c1 c2 c3 hsz
  refine (Hba.out w1).mono ?_
  rintro e w2 ⟨rfl, hb2⟩
  have HT := Lib.hid (HT.out.next hb2)
  clear hb2
  -- the region of the tests
  have hnot : ¬ (ab = true ∧ ba = true) := fun h => L1 h.1 h.2
  clear L1
  cases ab with
  | true =>
    cases ba with
    | true => exact absurd ⟨rfl, rfl⟩ hnot
    | false =>
      clear hnot
      by_cases hw : a.weight = b.weight
      · have hm : ¬ a.mid = b.mid := fun h => by have := (HL.out.1.2 ⟨hw, h⟩).1; cases this
        have q1 : ((a.weight : Int) == (b.weight : Int)) = true := by rw [beq_iff_eq]; omega
        have q2 : ((a.mid : Int) == (b.mid : Int)) = false := by rw [beq_eq_false_iff_ne]; omega
        clear hw hm
        -- Better(a, a)
        obtain ⟨⟨a0, a1, a2, a3⟩, ⟨b0, b1, b2, b3⟩, ⟨c0, c1, c2, c3⟩, hsz, _⟩ := HT.out
        go_wp2_with fail
        clear a0 a1 a2 a3 b0 b1 b2 b3 c0 c1 c2 c3 hsz
        refine (Haa.out _).mono ?_
        rintro e w3 ⟨rfl, hb3⟩
        have HT := Lib.hid (HT.out.next hb3)
        clear hb3
        obtain ⟨⟨a0, a1, a2, a3⟩, ⟨b0, b1, b2, b3⟩, ⟨c0, c1, c2, c3⟩, hsz, _⟩ := HT.out
        have p0 := fun o => (HT.out.past o).at1.c0
        have p1 := fun o => (HT.out.past o).at1.c1
        have p2 := fun o => (HT.out.past o).at1.c2
        have p3 := fun o => (HT.out.past o).at1.c3
        have p4 := fun o => (HT.out.past o).at2.c0
        go_wp2_with fail
        -- Better(b, c)
        refine (Hbc.out _).mono ?_
        rintro e w3 ⟨rfl, hb3⟩
        clear a0 a1 a2 a3 b0 b1 b2 b3 c0 c1 c2 c3 hsz
        clear p0 p1 p2 p3 p4
        have HT := Lib.hid (HT.out.next hb3)
        clear hb3
        cases bc with
        | false =>
          obtain ⟨⟨a0, a1, a2, a3⟩, ⟨b0, b1, b2, b3⟩, ⟨c0, c1, c2, c3⟩, hsz, _⟩ := HT.out
          have p0 := fun o => (HT.out.past o).at1.c0
          have p1 := fun o => (HT.out.past o).at1.c1
          have p2 := fun o => (HT.out.past o).at1.c2
          have p3 := fun o => (HT.out.past o).at1.c3
          have p4 := fun o => (HT.out.past o).at2.c0
          go_wp2_with fail
          refine (Hdb.out _).mono ?_
          rintro e w4 ⟨rfl, hb4⟩
          obtain ⟨hT4, hD4⟩ := fourth (d := ⟨b.head, c.tail, a.weight, a.mid, b.hhead, c.htail, a.hweight, a.hmid⟩) HT.out hb4
          clear a0 a1 a2 a3 b0 b1 b2 b3 c0 c1 c2 c3 hsz
          clear p0 p1 p2 p3 p4 hb4
          have HT := Lib.hid hT4
          clear hT4
          obtain ⟨d0, d1, d2, d3⟩ := hD4
          dsimp only at d0 d1 d2 d3
          obtain ⟨⟨a0, a1, a2, a3⟩, ⟨b0, b1, b2, b3⟩, ⟨c0, c1, c2, c3⟩, hsz, _⟩ := HT.out
          go_wp2_with fail
          clear a0 a1 a2 a3 b0 b1 b2 b3 c0 c1 c2 c3 hsz
          clear d0 d1 d2 d3
          refine (Hbd.out _).mono ?_
          rintro e w5 ⟨rfl, hb5⟩
          have HT := Lib.hid (HT.out.next hb5)
          clear hb5
          go_wp2_with fail
          refine (works_any _).mono ?_
          rintro e w6 ⟨rfl, hb6⟩
          go_wp2_with fail
          go_ret
          exact ⟨rfl, HT.out.low.trans (hb6.mono HT.out.low.size)⟩
        | true =>
          have hac := HL.out.2 (by trivial) (by trivial)
          subst hac
          obtain ⟨⟨a0, a1, a2, a3⟩, ⟨b0, b1, b2, b3⟩, ⟨c0, c1, c2, c3⟩, hsz, _⟩ := HT.out
          go_wp2_with fail
          clear a0 a1 a2 a3 b0 b1 b2 b3 c0 c1 c2 c3 hsz
          refine (Hac.out _).mono ?_
          rintro e w3 ⟨rfl, hb3⟩
          have HT := Lib.hid (HT.out.next hb3)
          clear hb3
          obtain ⟨⟨a0, a1, a2, a3⟩, ⟨b0, b1, b2, b3⟩, ⟨c0, c1, c2, c3⟩, hsz, _⟩ := HT.out
          have p0 := fun o => (HT.out.past o).at1.c0
          have p1 := fun o => (HT.out.past o).at1.c1
          have p2 := fun o => (HT.out.past o).at1.c2
          have p3 := fun o => (HT.out.past o).at1.c3
          have p4 := fun o => (HT.out.past o).at2.c0
          go_wp2_with fail
          refine (Hdb.out _).mono ?_
          rintro e w4 ⟨rfl, hb4⟩
          obtain ⟨hT4, hD4⟩ := fourth (d := ⟨b.head, c.tail, a.weight, a.mid, b.hhead, c.htail, a.hweight, a.hmid⟩) HT.out hb4
          clear a0 a1 a2 a3 b0 b1 b2 b3 c0 c1 c2 c3 hsz
          clear p0 p1 p2 p3 p4 hb4
          have HT := Lib.hid hT4
          clear hT4
          obtain ⟨d0, d1, d2, d3⟩ := hD4
          dsimp only at d0 d1 d2 d3
          obtain ⟨⟨a0, a1, a2, a3⟩, ⟨b0, b1, b2, b3⟩, ⟨c0, c1, c2, c3⟩, hsz, _⟩ := HT.out
          go_wp2_with fail
          clear a0 a1 a2 a3 b0 b1 b2 b3 c0 c1 c2 c3 hsz
          clear d0 d1 d2 d3
          refine (Hbd.out _).mono ?_
          rintro e w5 ⟨rfl, hb5⟩
          have HT := Lib.hid (HT.out.next hb5)
          clear hb5
          go_wp2_with fail
          refine (works_any _).mono ?_
          rintro e w6 ⟨rfl, hb6⟩
          go_wp2_with fail
          go_ret
          exact ⟨rfl, HT.out.low.trans (hb6.mono HT.out.low.size)⟩
      · have q1 : ((a.weight : Int) == (b.weight : Int)) = false := by rw [beq_eq_false_iff_ne]; omega
        clear hw
        -- Better(a, a)
        obtain ⟨⟨a0, a1, a2, a3⟩, ⟨b0, b1, b2, b3⟩, ⟨c0, c1, c2, c3⟩, hsz, _⟩ := HT.out
        go_wp2_with fail
        clear a0 a1 a2 a3 b0 b1 b2 b3 c0 c1 c2 c3 hsz
        refine (Haa.out _).mono ?_
        rintro e w3 ⟨rfl, hb3⟩
        have HT := Lib.hid (HT.out.next hb3)
        clear hb3
        obtain ⟨⟨a0, a1, a2, a3⟩, ⟨b0, b1, b2, b3⟩, ⟨c0, c1, c2, c3⟩, hsz, _⟩ := HT.out
        have p0 := fun o => (HT.out.past o).at1.c0
        have p1 := fun o => (HT.out.past o).at1.c1
        have p2 := fun o => (HT.out.past o).at1.c2
        have p3 := fun o => (HT.out.past o).at1.c3
        have p4 := fun o => (HT.out.past o).at2.c0
        go_wp2_with fail
        -- Better(b, c)
        refine (Hbc.out _).mono ?_
        rintro e w3 ⟨rfl, hb3⟩
        clear a0 a1 a2 a3 b0 b1 b2 b3 c0 c1 c2 c3 hsz
        clear p0 p1 p2 p3 p4
        have HT := Lib.hid (HT.out.next hb3)
        clear hb3
        cases bc with
        | false =>
          obtain ⟨⟨a0, a1, a2, a3⟩, ⟨b0, b1, b2, b3⟩, ⟨c0, c1, c2, c3⟩, hsz, _⟩ := HT.out
          have p0 := fun o => (HT.out.past o).at1.c0
          have p1 := fun o => (HT.out.past o).at1.c1
          have p2 := fun o => (HT.out.past o).at1.c2
          have p3 := fun o => (HT.out.past o).at1.c3
          have p4 := fun o => (HT.out.past o).at2.c0
          go_wp2_with fail
          refine (Hdb.out _).mono ?_
          rintro e w4 ⟨rfl, hb4⟩
          obtain ⟨hT4, hD4⟩ := fourth (d := ⟨b.head, c.tail, a.weight, a.mid, b.hhead, c.htail, a.hweight, a.hmid⟩) HT.out hb4
          clear a0 a1 a2 a3 b0 b1 b2 b3 c0 c1 c2 c3 hsz
          clear p0 p1 p2 p3 p4 hb4
          have HT := Lib.hid hT4
          clear hT4
          obtain ⟨d0, d1, d2, d3⟩ := hD4
          dsimp only at d0 d1 d2 d3
          obtain ⟨⟨a0, a1, a2, a3⟩, ⟨b0, b1, b2, b3⟩, ⟨c0, c1, c2, c3⟩, hsz, _⟩ := HT.out
          go_wp2_with fail
          clear a0 a1 a2 a3 b0 b1 b2 b3 c0 c1 c2 c3 hsz
          clear d0 d1 d2 d3
          refine (Hbd.out _).mono ?_
          rintro e w5 ⟨rfl, hb5⟩
          have HT := Lib.hid (HT.out.next hb5)
          clear hb5
          go_wp2_with fail
          refine (works_any _).mono ?_
          rintro e w6 ⟨rfl, hb6⟩
          go_wp2_with fail
          go_ret
          exact ⟨rfl, HT.out.low.trans (hb6.mono HT.out.low.size)⟩
        | true =>
          have hac := HL.out.2 (by trivial) (by trivial)
          subst hac
          obtain ⟨⟨a0, a1, a2, a3⟩, ⟨b0, b1, b2, b3⟩, ⟨c0, c1, c2, c3⟩, hsz, _⟩ := HT.out
          go_wp2_with fail
          clear a0 a1 a2 a3 b0 b1 b2 b3 c0 c1 c2 c3 hsz
          refine (Hac.out _).mono ?_
          rintro e w3 ⟨rfl, hb3⟩
          have HT := Lib.hid (HT.out.next hb3)
          clear hb3
          obtain ⟨⟨a0, a1, a2, a3⟩, ⟨b0, b1, b2, b3⟩, ⟨c0, c1, c2, c3⟩, hsz, _⟩ := HT.out
          have p0 := fun o => (HT.out.past o).at1.c0
          have p1 := fun o => (HT.out.past o).at1.c1
          have p2 := fun o => (HT.out.past o).at1.c2
          have p3 := fun o => (HT.out.past o).at1.c3
          have p4 := fun o => (HT.out.past o).at2.c0
          go_wp2_with fail
          refine (Hdb.out _).mono ?_
          rintro e w4 ⟨rfl, hb4⟩
          obtain ⟨hT4, hD4⟩ := fourth (d := ⟨b.head, c.tail, a.weight, a.mid, b.hhead, c.htail, a.hweight, a.hmid⟩) HT.out hb4
          clear a0 a1 a2 a3 b0 b1 b2 b3 c0 c1 c2 c3 hsz
          clear p0 p1 p2 p3 p4 hb4
          have HT := Lib.hid hT4
          clear hT4
          obtain ⟨d0, d1, d2, d3⟩ := hD4
          dsimp only at d0 d1 d2 d3
          obtain ⟨⟨a0, a1, a2, a3⟩, ⟨b0, b1, b2, b3⟩, ⟨c0, c1, c2, c3⟩, hsz, _⟩ := HT.out
          go_wp2_with fail
          clear a0 a1 a2 a3 b0 b1 b2 b3 c0 c1 c2 c3 hsz
          clear d0 d1 d2 d3
          refine (Hbd.out _).mono ?_
          rintro e w5 ⟨rfl, hb5⟩
          have HT := Lib.hid (HT.out.next hb5)
          clear hb5
          go_wp2_with fail
          refine (works_any _).mono ?_
          rintro e w6 ⟨rfl, hb6⟩
          go_wp2_with fail
          go_ret
          exact ⟨rfl, HT.out.low.trans (hb6.mono HT.out.low.size)⟩
  | false =>
    clear hnot
    cases ba with
    | true =>
      by_cases hw : a.weight = b.weight
      · have hm : ¬ a.mid = b.mid := fun h => by have := (HL.out.1.2 ⟨hw, h⟩).2; cases this
        have q1 : ((a.weight : Int) == (b.weight : Int)) = true := by rw [beq_iff_eq]; omega
        have q2 : ((a.mid : Int) == (b.mid : Int)) = false := by rw [beq_eq_false_iff_ne]; omega
        clear hw hm
        -- Better(a, a)
        obtain ⟨⟨a0, a1, a2, a3⟩, ⟨b0, b1, b2, b3⟩, ⟨c0, c1, c2, c3⟩, hsz, _⟩ := HT.out
        go_wp2_with fail
        clear a0 a1 a2 a3 b0 b1 b2 b3 c0 c1 c2 c3 hsz
        refine (Haa.out _).mono ?_
        rintro e w3 ⟨rfl, hb3⟩
        have HT := Lib.hid (HT.out.next hb3)
        clear hb3
        obtain ⟨⟨a0, a1, a2, a3⟩, ⟨b0, b1, b2, b3⟩, ⟨c0, c1, c2, c3⟩, hsz, _⟩ := HT.out
        have p0 := fun o => (HT.out.past o).at1.c0
        have p1 := fun o => (HT.out.past o).at1.c1
        have p2 := fun o => (HT.out.past o).at1.c2
        have p3 := fun o => (HT.out.past o).at1.c3
        have p4 := fun o => (HT.out.past o).at2.c0
        go_wp2_with fail
        refine (Hdb.out _).mono ?_
        rintro e w4 ⟨rfl, hb4⟩
        obtain ⟨hT4, hD4⟩ := fourth (d := ⟨b.head, c.tail, a.weight, a.mid, b.hhead, c.htail, a.hweight, a.hmid⟩) HT.out hb4
        clear a0 a1 a2 a3 b0 b1 b2 b3 c0 c1 c2 c3 hsz
        clear p0 p1 p2 p3 p4 hb4
        have HT := Lib.hid hT4
        clear hT4
        obtain ⟨d0, d1, d2, d3⟩ := hD4
        dsimp only at d0 d1 d2 d3
        obtain ⟨⟨a0, a1, a2, a3⟩, ⟨b0, b1, b2, b3⟩, ⟨c0, c1, c2, c3⟩, hsz, _⟩ := HT.out
        go_wp2_with fail
        clear a0 a1 a2 a3 b0 b1 b2 b3 c0 c1 c2 c3 hsz
        clear d0 d1 d2 d3
        refine (Hbd.out _).mono ?_
        rintro e w5 ⟨rfl, hb5⟩
        have HT := Lib.hid (HT.out.next hb5)
        clear hb5
        go_wp2_with fail
        refine (works_any _).mono ?_
        rintro e w6 ⟨rfl, hb6⟩
        go_wp2_with fail
        go_ret
        exact ⟨rfl, HT.out.low.trans (hb6.mono HT.out.low.size)⟩
      · have q1 : ((a.weight : Int) == (b.weight : Int)) = false := by rw [beq_eq_false_iff_ne]; omega
        clear hw
        -- Better(a, a)
        obtain ⟨⟨a0, a1, a2, a3⟩, ⟨b0, b1, b2, b3⟩, ⟨c0, c1, c2, c3⟩, hsz, _⟩ := HT.out
        go_wp2_with fail
        clear a0 a1 a2 a3 b0 b1 b2 b3 c0 c1 c2 c3 hsz
        refine (Haa.out _).mono ?_
        rintro e w3 ⟨rfl, hb3⟩
        have HT := Lib.hid (HT.out.next hb3)
        clear hb3
        obtain ⟨⟨a0, a1, a2, a3⟩, ⟨b0, b1, b2, b3⟩, ⟨c0, c1, c2, c3⟩, hsz, _⟩ := HT.out
        have p0 := fun o => (HT.out.past o).at1.c0
        have p1 := fun o => (HT.out.past o).at1.c1
        have p2 := fun o => (HT.out.past o).at1.c2
        have p3 := fun o => (HT.out.past o).at1.c3
        have p4 := fun o => (HT.out.past o).at2.c0
        go_wp2_with fail
        refine (Hdb.out _).mono ?_
        rintro e w4 ⟨rfl, hb4⟩
        obtain ⟨hT4, hD4⟩ := fourth (d := ⟨b.head, c.tail, a.weight, a.mid, b.hhead, c.htail, a.hweight, a.hmid⟩) HT.out hb4
        clear a0 a1 a2 a3 b0 b1 b2 b3 c0 c1 c2 c3 hsz
        clear p0 p1 p2 p3 p4 hb4
        have HT := Lib.hid hT4
        clear hT4
        obtain ⟨d0, d1, d2, d3⟩ := hD4
        dsimp only at d0 d1 d2 d3
        obtain ⟨⟨a0, a1, a2, a3⟩, ⟨b0, b1, b2, b3⟩, ⟨c0, c1, c2, c3⟩, hsz, _⟩ := HT.out
        go_wp2_with fail
        clear a0 a1 a2 a3 b0 b1 b2 b3 c0 c1 c2 c3 hsz
        clear d0 d1 d2 d3
        refine (Hbd.out _).mono ?_
        rintro e w5 ⟨rfl, hb5⟩
        have HT := Lib.hid (HT.out.next hb5)
        clear hb5
        go_wp2_with fail
        refine (works_any _).mono ?_
        rintro e w6 ⟨rfl, hb6⟩
        go_wp2_with fail
        go_ret
        exact ⟨rfl, HT.out.low.trans (hb6.mono HT.out.low.size)⟩
    | false =>
      obtain ⟨hw, hm⟩ := HL.out.1.1 ⟨rfl, rfl⟩
      have q1 : ((a.weight : Int) == (b.weight : Int)) = true := by rw [beq_iff_eq]; omega
      have q2 : ((a.mid : Int) == (b.mid : Int)) = true := by rw [beq_iff_eq]; omega
      clear hw hm
      -- Better(a, a)
      obtain ⟨⟨a0, a1, a2, a3⟩, ⟨b0, b1, b2, b3⟩, ⟨c0, c1, c2, c3⟩, hsz, _⟩ := HT.out
      go_wp2_with fail
      clear a0 a1 a2 a3 b0 b1 b2 b3 c0 c1 c2 c3 hsz
      refine (Haa.out _).mono ?_
      rintro e w3 ⟨rfl, hb3⟩
      have HT := Lib.hid (HT.out.next hb3)
      clear hb3
      obtain ⟨⟨a0, a1, a2, a3⟩, ⟨b0, b1, b2, b3⟩, ⟨c0, c1, c2, c3⟩, hsz, _⟩ := HT.out
      have p0 := fun o => (HT.out.past o).at1.c0
      have p1 := fun o => (HT.out.past o).at1.c1
      have p2 := fun o => (HT.out.past o).at1.c2
      have p3 := fun o => (HT.out.past o).at1.c3
      have p4 := fun o => (HT.out.past o).at2.c0
      go_wp2_with fail
      refine (Hdb.out _).mono ?_
      rintro e w4 ⟨rfl, hb4⟩
      obtain ⟨hT4, hD4⟩ := fourth (d := ⟨b.head, c.tail, a.weight, a.mid, b.hhead, c.htail, a.hweight, a.hmid⟩) HT.out hb4
      clear a0 a1 a2 a3 b0 b1 b2 b3 c0 c1 c2 c3 hsz
      clear p0 p1 p2 p3 p4 hb4
      have HT := Lib.hid hT4
      clear hT4
      obtain ⟨d0, d1, d2, d3⟩ := hD4
      dsimp only at d0 d1 d2 d3
      obtain ⟨⟨a0, a1, a2, a3⟩, ⟨b0, b1, b2, b3⟩, ⟨c0, c1, c2, c3⟩, hsz, _⟩ := HT.out
      go_wp2_with fail
      clear a0 a1 a2 a3 b0 b1 b2 b3 c0 c1 c2 c3 hsz
      clear d0 d1 d2 d3
      refine (Hbd.out _).mono ?_
      rintro e w5 ⟨rfl, hb5⟩
      have HT := Lib.hid (HT.out.next hb5)
      clear hb5
      go_wp2_with fail
      refine (works_any _).mono ?_
      rintro e w6 ⟨rfl, hb6⟩
      go_wp2_with fail
      go_ret
      exact ⟨rfl, HT.out.low.trans (hb6.mono HT.out.low.size)⟩


set_option maxRecDepth 100000 in
theorem lifted (os : Os) (started : os.Started) (H : Type) (enc : TypeId × Value → H) :
    ReturnsInHanded {} Try.checked os 5 .any (Rows.weightOrderSpec.pre6 enc Try.prog Try.f5 Rows.weightOrderRow.domain false) (Rows.weightOrderSpec.post enc Try.prog Try.f5 false true false false) := by
  refine returnsInHanded_of_change (C := Try.checked) own_knob started (by kernel_rfl) Try.func5
    (ChangeSpec.witness6 (enc := enc) (C := Try.checked) false ⟨#[], #[.agg #[.int .u32 0, .int .u32 0, .int .u64 0, .int .u32 0], .agg #[.int .u32 0, .int .u32 0, .int .u64 0, .int .u32 0], .agg #[.int .u32 0, .int .u32 0, .int .u64 0, .int .u32 0]], []⟩ 8 (by kernel_rfl) (by kernel_rfl) (by kernel_rfl) (by kernel_rfl)) ?_
  intro W base args ds gs before hval0 hW _ _
  have hval : ∀ (j : Nat) t v, Try.f5.params[j]? = some t → args[j]? = some v → Value.okWide Try.prog W .any base t v := hval0
  have hW' := hW
  obtain ⟨p, q, hA0, hV, rfl, _, _⟩ := hW
  have hA : DataW.TrodAll enc Try.prog W 0 (fun _ => true) true Try.f5.params.toList args.toList ds p := hA0
  rw [Try.params5] at hA hval
  obtain ⟨v0, vs0, d0, ds0, p0, q0, hargs, rfl, rfl, h0, r0⟩ := trodAll_cons hA
  obtain ⟨v1, vs1, d1, ds1, p1, q1, rfl, rfl, rfl, h1, r1⟩ := trodAll_cons r0
  obtain ⟨v2, vs2, d2, ds2, p2, q2, rfl, rfl, rfl, h2, r2⟩ := trodAll_cons r1
  obtain ⟨rfl, rfl, rfl⟩ := trodAll_nil r2
  obtain rfl : args = #[v0, v1, v2] := by cases args; simp_all
  obtain ⟨rfl, rfl⟩ := trodVars_none hV
  have hlt : ∀ x ∈ p0 ++ (p1 ++ (p2)), x.block < W.heap.size := fun x hx => hW'.lt x (by simpa using hx)
  obtain ⟨x0, rfl⟩ := open_edge (hval 0 30 v0 rfl rfl) h0
  obtain ⟨x1, rfl⟩ := open_edge (hval 1 30 v1 rfl rfl) h1
  obtain ⟨x2, rfl⟩ := open_edge (hval 2 30 v2 rfl rfl) h2
  refine (walk x0 x1 x2 W ).mono fun e W' ⟨he, hg⟩ => ?_
  subst he
  exact ⟨_, rfl, law_post hW' rfl (by kernel_rfl) rfl (by kernel_rfl) hg⟩

theorem proved : Rows.WeightOrderSaid :=
  OpenClaim.holds_of_wide 5 Try.f5 rfl rfl rfl rfl rfl rfl rfl ⟨rfl, rfl, rfl, rfl, rfl⟩ rfl rfl rfl rfl rfl (by kernel_rfl) Try.func5 (by kernel_rfl)
    (of_decide_eq_true (by kernel_rfl)) (by unfold Func.isWrapper; first | (rw [if_pos (by decide +kernel)]; kernel_rfl) | (rw [if_neg (by decide +kernel)]; exact ⟨rfl, rfl⟩))
    (fun os started H enc _ => lifted os started H enc)

end Go.Proofs.Ytbmcdgpldghddaa.weightOrder
