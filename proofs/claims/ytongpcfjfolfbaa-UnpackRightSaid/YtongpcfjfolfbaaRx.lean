/- The contract of the document's open at an edge that stands for two. -/
import Derived.Test.YtongpcfjfolfbaaRq
namespace Go.Proofs.Ytongpcfjfolfbaa
open Go.RowKit
theorem ropen_deep (p : Value) (g : Nat → Nat → Edg × Int) (I : World → Prop) (hT : Tells fFirst p g I) (W : Nat) (L : List Edg) (a b : Nat) (d : Int) (ha : a < 4294967296) (hb : b < 4294967296) (w : World) (hI : I w) (v : Value) (hA : At mkOp 71 W w v L) (h1 : (g a b).2 = 0) (h2 : (g a b).1.tail = a ∧ (g a b).1.head = b) (h3 : (g a b).1.mid ≠ 4294967295) (hd : d = 65536) : Calls Try.prog 28 #[.pointer (some ⟨W, 0, none⟩), p, .int .u32 (a : Int), .int .u32 (b : Int), .int .i64 d] w (OpensR W w v (openV g 0 L a b)) := by
  rw [openV_deep h1 h2 h3]
  have g5 : (((g a b).1.tail : Int) != (a : Int)) = false := by rw [h2.1]; simp
  have g6 : (((g a b).1.head : Int) != (b : Int)) = false := by rw [h2.2]; simp
  have g7 : (((g a b).1.mid : Int) == 4294967295) = false := by rw [beq_eq_false_iff_ne]; omega
  have h9 : (65536 : Int) ≤ d := by omega
  clear h2 h3 hd
  have HT := Lib.hid hT.call
  have HA := Lib.hid hA
  clear hT hA
  go_enter Try.func28, Try.ntmps28
  go_wp2_with fail
  refine (HT.out a b w ha hb hI).mono ?_
  rintro e w1 ⟨rfl, hb1⟩
  have HB1 := Lib.hid hb1
  clear HT hb1
  generalize (g a b).2 = er at *
  generalize (g a b).1 = x at *
  dsimp only [Edg.agg]
  subst h1
  go_wp2_with fail
  go_ret2
  exact ⟨rfl, ((Keeps.refl _ _ _).below HB1.out).below ((Below.refl _ _).alloc (Nat.le_refl _) _)⟩

theorem ropen_bad1 (p : Value) (g : Nat → Nat → Edg × Int) (I : World → Prop) (hT : Tells fFirst p g I) (W k : Nat) (L : List Edg) (a b : Nat) (d : Int) (ha : a < 4294967296) (hb : b < 4294967296) (w : World) (hI : I w) (v : Value) (hA : At mkOp 71 W w v L) (h1 : (g a b).2 = 0) (h2 : (g a b).1.tail = a ∧ (g a b).1.head = b) (h3 : (g a b).1.mid ≠ 4294967295) (hS : Stays W I) (ih : ∀ (L : List Edg) (a b : Nat) (d : Int) (w : World) (v : Value), a < 4294967296 → b < 4294967296 → 0 ≤ d → d + k = 65536 → I w → At mkOp 71 W w v L → Calls Try.prog 28 #[.pointer (some ⟨W, 0, none⟩), p, .int .u32 (a : Int), .int .u32 (b : Int), .int .i64 d] w (OpensR W w v (openV g k L a b))) (hd0 : 0 ≤ d) (hd : d + (k + 1 : Nat) = 65536) (er : Int) (h4 : openV g k L a (g a b).1.mid = .bad er) : Calls Try.prog 28 #[.pointer (some ⟨W, 0, none⟩), p, .int .u32 (a : Int), .int .u32 (b : Int), .int .i64 d] w (OpensR W w v (openV g (k + 1) L a b)) := by
  rw [openV_bad1 h1 h2 h3 h4]
  have hz : (er != 0) = true := by simpa using openV_bad_ne h4
  have g5 : (((g a b).1.tail : Int) != (a : Int)) = false := by rw [h2.1]; simp
  have g6 : (((g a b).1.head : Int) != (b : Int)) = false := by rw [h2.2]; simp
  have g7 : (((g a b).1.mid : Int) == 4294967295) = false := by rw [beq_eq_false_iff_ne]; omega
  have h9 : ¬ (65536 : Int) ≤ d := by omega
  have IH := Lib.hid (fun W2 v2 hI2 hA2 => ih L a (g a b).1.mid (d + 1) W2 v2 ha (g a b).1.hmid (by omega) (by omega) hI2 hA2)
  rw [h4] at IH
  clear h2 h3 ih hd h4
  have HT := Lib.hid hT.call
  have HA := Lib.hid hA
  clear hT hA
  go_enter Try.func28, Try.ntmps28
  go_wp2_with fail
  refine (HT.out a b w ha hb hI).mono ?_
  rintro e w1 ⟨rfl, hb1⟩
  have HB1 := Lib.hid hb1
  clear HT hb1
  generalize (g a b).2 = er at *
  generalize (g a b).1 = x at *
  dsimp only [Edg.agg]
  subst h1
  obtain ⟨W1, hW1, hX, hsz, hb1⟩ := boxed w1 x
  have HA1 := Lib.hid ((HA.out.below HB1.out).below hb1)
  have HI1 := Lib.hid (hS _ _ hI fun b hb => ((HB1.out.trans (hb1.mono HB1.out.size)).block b (Nat.lt_trans hb HA.out.lt)))
  obtain ⟨x0, x1, x2, x3⟩ := cells_of hX
  dsimp only [Edg.cells] at hW1
  have HX := Lib.hid hX
  have HB2 := Lib.hid (HB1.out.trans (hb1.mono HB1.out.size))
  have hxs : w1.heap.size < W1.heap.size := by omega
  have hsz1 := HB1.out.size
  clear hX hb1 hsz
  go_wp2_with fail
  refine (IH.out W1 v HI1.out HA1.out).mono ?_
  rintro e w2 ⟨he, hk⟩
  unfold noR at he
  subst he
  have HK := Lib.hid (((Keeps.refl W v w).below HB2.out).trans hk (fun j hj => .inl hj))
  clear hk
  go_wp2_with fail
  go_ret2
  exact ⟨rfl, HK.out⟩

set_option maxHeartbeats 1000000 in
theorem ropen_bad2 (p : Value) (g : Nat → Nat → Edg × Int) (I : World → Prop) (hT : Tells fFirst p g I) (W k : Nat) (L : List Edg) (a b : Nat) (d : Int) (ha : a < 4294967296) (hb : b < 4294967296) (w : World) (hI : I w) (v : Value) (hA : At mkOp 71 W w v L) (h1 : (g a b).2 = 0) (h2 : (g a b).1.tail = a ∧ (g a b).1.head = b) (h3 : (g a b).1.mid ≠ 4294967295) (hS : Stays W I) (ih : ∀ (L : List Edg) (a b : Nat) (d : Int) (w : World) (v : Value), a < 4294967296 → b < 4294967296 → 0 ≤ d → d + k = 65536 → I w → At mkOp 71 W w v L → Calls Try.prog 28 #[.pointer (some ⟨W, 0, none⟩), p, .int .u32 (a : Int), .int .u32 (b : Int), .int .i64 d] w (OpensR W w v (openV g k L a b))) (hd0 : 0 ≤ d) (hd : d + (k + 1 : Nat) = 65536) (er : Int) (one : Nat) (L1 : List Edg) (h4 : openV g k L a (g a b).1.mid = .good one L1) (h5 : openV g k L1 (g a b).1.mid b = .bad er) : Calls Try.prog 28 #[.pointer (some ⟨W, 0, none⟩), p, .int .u32 (a : Int), .int .u32 (b : Int), .int .i64 d] w (OpensR W w v (openV g (k + 1) L a b)) := by
  rw [openV_bad2 h1 h2 h3 h4 h5]
  have hz : (er != 0) = true := by simpa using openV_bad_ne h5
  have g5 : (((g a b).1.tail : Int) != (a : Int)) = false := by rw [h2.1]; simp
  have g6 : (((g a b).1.head : Int) != (b : Int)) = false := by rw [h2.2]; simp
  have g7 : (((g a b).1.mid : Int) == 4294967295) = false := by rw [beq_eq_false_iff_ne]; omega
  have h9 : ¬ (65536 : Int) ≤ d := by omega
  have IH := Lib.hid (fun W2 v2 hI2 hA2 => ih L a (g a b).1.mid (d + 1) W2 v2 ha (g a b).1.hmid (by omega) (by omega) hI2 hA2)
  have IH2 := Lib.hid (fun W2 v2 hI2 hA2 => ih L1 (g a b).1.mid b (d + 1) W2 v2 (g a b).1.hmid hb (by omega) (by omega) hI2 hA2)
  rw [h4] at IH
  rw [h5] at IH2
  clear h2 h3 ih hd h4 h5
  have HT := Lib.hid hT.call
  have HA := Lib.hid hA
  clear hT hA
  go_enter Try.func28, Try.ntmps28
  go_wp2_with fail
  refine (HT.out a b w ha hb hI).mono ?_
  rintro e w1 ⟨rfl, hb1⟩
  have HB1 := Lib.hid hb1
  clear HT hb1
  generalize (g a b).2 = er at *
  generalize (g a b).1 = x at *
  dsimp only [Edg.agg]
  subst h1
  obtain ⟨W1, hW1, hX, hsz, hb1⟩ := boxed w1 x
  have HA1 := Lib.hid ((HA.out.below HB1.out).below hb1)
  have HI1 := Lib.hid (hS _ _ hI fun b hb => ((HB1.out.trans (hb1.mono HB1.out.size)).block b (Nat.lt_trans hb HA.out.lt)))
  obtain ⟨x0, x1, x2, x3⟩ := cells_of hX
  dsimp only [Edg.cells] at hW1
  have HX := Lib.hid hX
  have HB2 := Lib.hid (HB1.out.trans (hb1.mono HB1.out.size))
  have hxs : w1.heap.size < W1.heap.size := by omega
  have hsz1 := HB1.out.size
  clear hX hb1 hsz
  go_wp2_with fail
  refine (IH.out W1 v HI1.out HA1.out).mono ?_
  rintro e w2 ⟨he, hk, v', hA2, hv⟩
  unfold okR at he
  subst he
  have n0 : w1.heap.size ≠ W := by have := HA.out.lt; omega
  have n1 : some w1.heap.size ≠ v.ownBlock := fun e => by have := (HA.out.own.lt _ e.symm).2; omega
  have HX2 := Lib.hid (opens_box HX.out hk n0 n1)
  have n2 : some w1.heap.size ≠ v'.ownBlock := fun e => by
    rcases hv _ e.symm with h | h
    · exact n1 h.symm
    · omega
  have HI2 := Lib.hid (hS _ _ HI1.out (opens_low HA1.out hk))
  have HK := Lib.hid (((Keeps.refl W v w).below HB2.out).trans hk (fun j hj => .inl hj))
  have HV := Lib.hid hv
  have HA2 := Lib.hid hA2
  obtain ⟨x0, x1, x2, x3⟩ := cells_of HX2.out
  have hsz2 := HK.out.size
  have hszk := hk.size
  have N0 := Lib.hid n0
  have N2 := Lib.hid n2
  clear hk hv hA2 n0 n1 n2
  go_wp2_with fail
  refine (IH2.out w2 v' HI2.out HA2.out).mono ?_
  rintro e w3 ⟨he, hk⟩
  unfold noR at he
  subst he
  have HK3 := Lib.hid (HK.out.trans hk (fun j hj => by
    rcases HV.out j hj with h | h
    · exact .inl h
    · exact .inr (Nat.le_trans HB2.out.size h)))
  clear hk
  go_wp2_with fail
  go_ret2
  exact ⟨rfl, HK3.out⟩
set_option maxHeartbeats 1000000 in
theorem ropen_sum (p : Value) (g : Nat → Nat → Edg × Int) (I : World → Prop) (hT : Tells fFirst p g I) (W k : Nat) (L : List Edg) (a b : Nat) (d : Int) (ha : a < 4294967296) (hb : b < 4294967296) (w : World) (hI : I w) (v : Value) (hA : At mkOp 71 W w v L) (h1 : (g a b).2 = 0) (h2 : (g a b).1.tail = a ∧ (g a b).1.head = b) (h3 : (g a b).1.mid ≠ 4294967295) (hS : Stays W I) (ih : ∀ (L : List Edg) (a b : Nat) (d : Int) (w : World) (v : Value), a < 4294967296 → b < 4294967296 → 0 ≤ d → d + k = 65536 → I w → At mkOp 71 W w v L → Calls Try.prog 28 #[.pointer (some ⟨W, 0, none⟩), p, .int .u32 (a : Int), .int .u32 (b : Int), .int .i64 d] w (OpensR W w v (openV g k L a b))) (hd0 : 0 ≤ d) (hd : d + (k + 1 : Nat) = 65536) (one two : Nat) (L1 L2 : List Edg) (h4 : openV g k L a (g a b).1.mid = .good one L1) (h5 : openV g k L1 (g a b).1.mid b = .good two L2)
    (h6 : fitsB one two = true ∧ one + two = (g a b).1.weight) : Calls Try.prog 28 #[.pointer (some ⟨W, 0, none⟩), p, .int .u32 (a : Int), .int .u32 (b : Int), .int .i64 d] w (OpensR W w v (openV g (k + 1) L a b)) := by
  rw [openV_sum h1 h2 h3 h4 h5 h6]
  have g5 : (((g a b).1.tail : Int) != (a : Int)) = false := by rw [h2.1]; simp
  have g6 : (((g a b).1.head : Int) != (b : Int)) = false := by rw [h2.2]; simp
  have g7 : (((g a b).1.mid : Int) == 4294967295) = false := by rw [beq_eq_false_iff_ne]; omega
  have h9 : ¬ (65536 : Int) ≤ d := by omega
  have IH := Lib.hid (fun W2 v2 hI2 hA2 => ih L a (g a b).1.mid (d + 1) W2 v2 ha (g a b).1.hmid (by omega) (by omega) hI2 hA2)
  have IH2 := Lib.hid (fun W2 v2 hI2 hA2 => ih L1 (g a b).1.mid b (d + 1) W2 v2 (g a b).1.hmid hb (by omega) (by omega) hI2 hA2)
  rw [h4] at IH
  rw [h5] at IH2
  have HS := Lib.hid (fun W => refAdd_any one two W)
  have h10 : (((one + two : Nat) : Int) != ((g a b).1.weight : Int)) = false := by rw [h6.2]; simp
  rw [h6.1, sumV_yes h6.1] at HS
  clear h6
  generalize one + two = s at *
  clear h2 h3 ih hd h4 h5
  have HT := Lib.hid hT.call
  have HA := Lib.hid hA
  clear hT hA
  go_enter Try.func28, Try.ntmps28
  go_wp2_with fail
  refine (HT.out a b w ha hb hI).mono ?_
  rintro e w1 ⟨rfl, hb1⟩
  have HB1 := Lib.hid hb1
  clear HT hb1
  generalize (g a b).2 = er at *
  generalize (g a b).1 = x at *
  dsimp only [Edg.agg]
  subst h1
  obtain ⟨W1, hW1, hX, hsz, hb1⟩ := boxed w1 x
  have HA1 := Lib.hid ((HA.out.below HB1.out).below hb1)
  have HI1 := Lib.hid (hS _ _ hI fun b hb => ((HB1.out.trans (hb1.mono HB1.out.size)).block b (Nat.lt_trans hb HA.out.lt)))
  obtain ⟨x0, x1, x2, x3⟩ := cells_of hX
  dsimp only [Edg.cells] at hW1
  have HX := Lib.hid hX
  have HB2 := Lib.hid (HB1.out.trans (hb1.mono HB1.out.size))
  have hxs : w1.heap.size < W1.heap.size := by omega
  have hsz1 := HB1.out.size
  clear hX hb1 hsz
  go_wp2_with fail
  refine (IH.out W1 v HI1.out HA1.out).mono ?_
  rintro e w2 ⟨he, hk, v', hA2, hv⟩
  unfold okR at he
  subst he
  have n0 : w1.heap.size ≠ W := by have := HA.out.lt; omega
  have n1 : some w1.heap.size ≠ v.ownBlock := fun e => by have := (HA.out.own.lt _ e.symm).2; omega
  have HX2 := Lib.hid (opens_box HX.out hk n0 n1)
  have n2 : some w1.heap.size ≠ v'.ownBlock := fun e => by
    rcases hv _ e.symm with h | h
    · exact n1 h.symm
    · omega
  have HI2 := Lib.hid (hS _ _ HI1.out (opens_low HA1.out hk))
  have HK := Lib.hid (((Keeps.refl W v w).below HB2.out).trans hk (fun j hj => .inl hj))
  have HV := Lib.hid hv
  have HA2 := Lib.hid hA2
  obtain ⟨x0, x1, x2, x3⟩ := cells_of HX2.out
  have hsz2 := HK.out.size
  have hszk := hk.size
  have N0 := Lib.hid n0
  have N2 := Lib.hid n2
  clear hk hv hA2 n0 n1 n2
  go_wp2_with fail
  refine (IH2.out w2 v' HI2.out HA2.out).mono ?_
  rintro e w3 ⟨he, hk, v'', hA3, hv⟩
  unfold okR at he
  subst he
  have HX3 := Lib.hid (opens_box HX2.out hk N0.out N2.out)
  have HK3 := Lib.hid (HK.out.trans hk (fun j hj => by
    rcases HV.out j hj with h | h
    · exact .inl h
    · exact .inr (Nat.le_trans HB2.out.size h)))
  have HV3 : Hid (∀ j, v''.ownBlock = some j → v.ownBlock = some j ∨ w.heap.size ≤ j) := Lib.hid (fun j hj => by
    rcases hv j hj with h | h
    · rcases HV.out j h with h' | h'
      · exact .inl h'
      · exact .inr (Nat.le_trans HB2.out.size h')
    · exact .inr (Nat.le_trans hsz2 h))
  have HA3 := Lib.hid hA3
  obtain ⟨x0, x1, x2, x3⟩ := cells_of HX3.out
  clear hk hv hA3
  go_wp2_with (go_at_call 23; with_reducible refine (HS.out w3).mono ?_; rintro e w4 ⟨rfl, rfl⟩)
  (go_ret2;exact ⟨rfl, HK3.out, _, HA3.out, HV3.out⟩)
set_option maxHeartbeats 1000000 in
theorem ropen_rot1 (p : Value) (g : Nat → Nat → Edg × Int) (I : World → Prop) (hT : Tells fFirst p g I) (W k : Nat) (L : List Edg) (a b : Nat) (d : Int) (ha : a < 4294967296) (hb : b < 4294967296) (w : World) (hI : I w) (v : Value) (hA : At mkOp 71 W w v L) (h1 : (g a b).2 = 0) (h2 : (g a b).1.tail = a ∧ (g a b).1.head = b) (h3 : (g a b).1.mid ≠ 4294967295) (hS : Stays W I) (ih : ∀ (L : List Edg) (a b : Nat) (d : Int) (w : World) (v : Value), a < 4294967296 → b < 4294967296 → 0 ≤ d → d + k = 65536 → I w → At mkOp 71 W w v L → Calls Try.prog 28 #[.pointer (some ⟨W, 0, none⟩), p, .int .u32 (a : Int), .int .u32 (b : Int), .int .i64 d] w (OpensR W w v (openV g k L a b))) (hd0 : 0 ≤ d) (hd : d + (k + 1 : Nat) = 65536) (one two : Nat) (L1 L2 : List Edg) (h4 : openV g k L a (g a b).1.mid = .good one L1) (h5 : openV g k L1 (g a b).1.mid b = .good two L2)
    (h6 : fitsB one two = false) : Calls Try.prog 28 #[.pointer (some ⟨W, 0, none⟩), p, .int .u32 (a : Int), .int .u32 (b : Int), .int .i64 d] w (OpensR W w v (openV g (k + 1) L a b)) := by
  rw [openV_rot h1 h2 h3 h4 h5 (by rw [h6]; simp)]
  have g5 : (((g a b).1.tail : Int) != (a : Int)) = false := by rw [h2.1]; simp
  have g6 : (((g a b).1.head : Int) != (b : Int)) = false := by rw [h2.2]; simp
  have g7 : (((g a b).1.mid : Int) == 4294967295) = false := by rw [beq_eq_false_iff_ne]; omega
  have h9 : ¬ (65536 : Int) ≤ d := by omega
  have IH := Lib.hid (fun W2 v2 hI2 hA2 => ih L a (g a b).1.mid (d + 1) W2 v2 ha (g a b).1.hmid (by omega) (by omega) hI2 hA2)
  have IH2 := Lib.hid (fun W2 v2 hI2 hA2 => ih L1 (g a b).1.mid b (d + 1) W2 v2 (g a b).1.hmid hb (by omega) (by omega) hI2 hA2)
  rw [h4] at IH
  rw [h5] at IH2
  have HS := Lib.hid (fun W => refAdd_any one two W)
  rw [h6] at HS
  clear h6
  generalize sumV one two = s at *
  clear h2 h3 ih hd h4 h5
  have HT := Lib.hid hT.call
  have HA := Lib.hid hA
  clear hT hA
  go_enter Try.func28, Try.ntmps28
  go_wp2_with fail
  refine (HT.out a b w ha hb hI).mono ?_
  rintro e w1 ⟨rfl, hb1⟩
  have HB1 := Lib.hid hb1
  clear HT hb1
  generalize (g a b).2 = er at *
  generalize (g a b).1 = x at *
  dsimp only [Edg.agg]
  subst h1
  obtain ⟨W1, hW1, hX, hsz, hb1⟩ := boxed w1 x
  have HA1 := Lib.hid ((HA.out.below HB1.out).below hb1)
  have HI1 := Lib.hid (hS _ _ hI fun b hb => ((HB1.out.trans (hb1.mono HB1.out.size)).block b (Nat.lt_trans hb HA.out.lt)))
  obtain ⟨x0, x1, x2, x3⟩ := cells_of hX
  dsimp only [Edg.cells] at hW1
  have HX := Lib.hid hX
  have HB2 := Lib.hid (HB1.out.trans (hb1.mono HB1.out.size))
  have hxs : w1.heap.size < W1.heap.size := by omega
  have hsz1 := HB1.out.size
  clear hX hb1 hsz
  go_wp2_with fail
  refine (IH.out W1 v HI1.out HA1.out).mono ?_
  rintro e w2 ⟨he, hk, v', hA2, hv⟩
  unfold okR at he
  subst he
  have n0 : w1.heap.size ≠ W := by have := HA.out.lt; omega
  have n1 : some w1.heap.size ≠ v.ownBlock := fun e => by have := (HA.out.own.lt _ e.symm).2; omega
  have HX2 := Lib.hid (opens_box HX.out hk n0 n1)
  have n2 : some w1.heap.size ≠ v'.ownBlock := fun e => by
    rcases hv _ e.symm with h | h
    · exact n1 h.symm
    · omega
  have HI2 := Lib.hid (hS _ _ HI1.out (opens_low HA1.out hk))
  have HK := Lib.hid (((Keeps.refl W v w).below HB2.out).trans hk (fun j hj => .inl hj))
  have HV := Lib.hid hv
  have HA2 := Lib.hid hA2
  obtain ⟨x0, x1, x2, x3⟩ := cells_of HX2.out
  have hsz2 := HK.out.size
  have hszk := hk.size
  have N0 := Lib.hid n0
  have N2 := Lib.hid n2
  clear hk hv hA2 n0 n1 n2
  go_wp2_with fail
  refine (IH2.out w2 v' HI2.out HA2.out).mono ?_
  rintro e w3 ⟨he, hk, v'', hA3, hv⟩
  unfold okR at he
  subst he
  have HX3 := Lib.hid (opens_box HX2.out hk N0.out N2.out)
  have HK3 := Lib.hid (HK.out.trans hk (fun j hj => by
    rcases HV.out j hj with h | h
    · exact .inl h
    · exact .inr (Nat.le_trans HB2.out.size h)))
  have HV3 : Hid (∀ j, v''.ownBlock = some j → v.ownBlock = some j ∨ w.heap.size ≤ j) := Lib.hid (fun j hj => by
    rcases hv j hj with h | h
    · rcases HV.out j h with h' | h'
      · exact .inl h'
      · exact .inr (Nat.le_trans HB2.out.size h')
    · exact .inr (Nat.le_trans hsz2 h))
  have HA3 := Lib.hid hA3
  obtain ⟨x0, x1, x2, x3⟩ := cells_of HX3.out
  clear hk hv hA3
  go_wp2_with (go_at_call 23; with_reducible refine (HS.out w3).mono ?_; rintro e w4 ⟨rfl, rfl⟩)
  (go_ret2;exact ⟨rfl, HK3.out⟩)
set_option maxHeartbeats 1000000 in
theorem ropen_rot2 (p : Value) (g : Nat → Nat → Edg × Int) (I : World → Prop) (hT : Tells fFirst p g I) (W k : Nat) (L : List Edg) (a b : Nat) (d : Int) (ha : a < 4294967296) (hb : b < 4294967296) (w : World) (hI : I w) (v : Value) (hA : At mkOp 71 W w v L) (h1 : (g a b).2 = 0) (h2 : (g a b).1.tail = a ∧ (g a b).1.head = b) (h3 : (g a b).1.mid ≠ 4294967295) (hS : Stays W I) (ih : ∀ (L : List Edg) (a b : Nat) (d : Int) (w : World) (v : Value), a < 4294967296 → b < 4294967296 → 0 ≤ d → d + k = 65536 → I w → At mkOp 71 W w v L → Calls Try.prog 28 #[.pointer (some ⟨W, 0, none⟩), p, .int .u32 (a : Int), .int .u32 (b : Int), .int .i64 d] w (OpensR W w v (openV g k L a b))) (hd0 : 0 ≤ d) (hd : d + (k + 1 : Nat) = 65536) (one two : Nat) (L1 L2 : List Edg) (h4 : openV g k L a (g a b).1.mid = .good one L1) (h5 : openV g k L1 (g a b).1.mid b = .good two L2)
    (h6 : fitsB one two = true ∧ one + two ≠ (g a b).1.weight) : Calls Try.prog 28 #[.pointer (some ⟨W, 0, none⟩), p, .int .u32 (a : Int), .int .u32 (b : Int), .int .i64 d] w (OpensR W w v (openV g (k + 1) L a b)) := by
  rw [openV_rot h1 h2 h3 h4 h5 (fun e => h6.2 e.2)]
  have g5 : (((g a b).1.tail : Int) != (a : Int)) = false := by rw [h2.1]; simp
  have g6 : (((g a b).1.head : Int) != (b : Int)) = false := by rw [h2.2]; simp
  have g7 : (((g a b).1.mid : Int) == 4294967295) = false := by rw [beq_eq_false_iff_ne]; omega
  have h9 : ¬ (65536 : Int) ≤ d := by omega
  have IH := Lib.hid (fun W2 v2 hI2 hA2 => ih L a (g a b).1.mid (d + 1) W2 v2 ha (g a b).1.hmid (by omega) (by omega) hI2 hA2)
  have IH2 := Lib.hid (fun W2 v2 hI2 hA2 => ih L1 (g a b).1.mid b (d + 1) W2 v2 (g a b).1.hmid hb (by omega) (by omega) hI2 hA2)
  rw [h4] at IH
  rw [h5] at IH2
  have HS := Lib.hid (fun W => refAdd_any one two W)
  have h10 : (((one + two : Nat) : Int) != ((g a b).1.weight : Int)) = true := by rw [bne_iff_ne]; have := h6.2; omega
  rw [h6.1, sumV_yes h6.1] at HS
  clear h6
  generalize one + two = s at *
  clear h2 h3 ih hd h4 h5
  have HT := Lib.hid hT.call
  have HA := Lib.hid hA
  clear hT hA
  go_enter Try.func28, Try.ntmps28
  go_wp2_with fail
  refine (HT.out a b w ha hb hI).mono ?_
  rintro e w1 ⟨rfl, hb1⟩
  have HB1 := Lib.hid hb1
  clear HT hb1
  generalize (g a b).2 = er at *
  generalize (g a b).1 = x at *
  dsimp only [Edg.agg]
  subst h1
  obtain ⟨W1, hW1, hX, hsz, hb1⟩ := boxed w1 x
  have HA1 := Lib.hid ((HA.out.below HB1.out).below hb1)
  have HI1 := Lib.hid (hS _ _ hI fun b hb => ((HB1.out.trans (hb1.mono HB1.out.size)).block b (Nat.lt_trans hb HA.out.lt)))
  obtain ⟨x0, x1, x2, x3⟩ := cells_of hX
  dsimp only [Edg.cells] at hW1
  have HX := Lib.hid hX
  have HB2 := Lib.hid (HB1.out.trans (hb1.mono HB1.out.size))
  have hxs : w1.heap.size < W1.heap.size := by omega
  have hsz1 := HB1.out.size
  clear hX hb1 hsz
  go_wp2_with fail
  refine (IH.out W1 v HI1.out HA1.out).mono ?_
  rintro e w2 ⟨he, hk, v', hA2, hv⟩
  unfold okR at he
  subst he
  have n0 : w1.heap.size ≠ W := by have := HA.out.lt; omega
  have n1 : some w1.heap.size ≠ v.ownBlock := fun e => by have := (HA.out.own.lt _ e.symm).2; omega
  have HX2 := Lib.hid (opens_box HX.out hk n0 n1)
  have n2 : some w1.heap.size ≠ v'.ownBlock := fun e => by
    rcases hv _ e.symm with h | h
    · exact n1 h.symm
    · omega
  have HI2 := Lib.hid (hS _ _ HI1.out (opens_low HA1.out hk))
  have HK := Lib.hid (((Keeps.refl W v w).below HB2.out).trans hk (fun j hj => .inl hj))
  have HV := Lib.hid hv
  have HA2 := Lib.hid hA2
  obtain ⟨x0, x1, x2, x3⟩ := cells_of HX2.out
  have hsz2 := HK.out.size
  have hszk := hk.size
  have N0 := Lib.hid n0
  have N2 := Lib.hid n2
  clear hk hv hA2 n0 n1 n2
  go_wp2_with fail
  refine (IH2.out w2 v' HI2.out HA2.out).mono ?_
  rintro e w3 ⟨he, hk, v'', hA3, hv⟩
  unfold okR at he
  subst he
  have HX3 := Lib.hid (opens_box HX2.out hk N0.out N2.out)
  have HK3 := Lib.hid (HK.out.trans hk (fun j hj => by
    rcases HV.out j hj with h | h
    · exact .inl h
    · exact .inr (Nat.le_trans HB2.out.size h)))
  have HV3 : Hid (∀ j, v''.ownBlock = some j → v.ownBlock = some j ∨ w.heap.size ≤ j) := Lib.hid (fun j hj => by
    rcases hv j hj with h | h
    · rcases HV.out j h with h' | h'
      · exact .inl h'
      · exact .inr (Nat.le_trans HB2.out.size h')
    · exact .inr (Nat.le_trans hsz2 h))
  have HA3 := Lib.hid hA3
  obtain ⟨x0, x1, x2, x3⟩ := cells_of HX3.out
  clear hk hv hA3
  go_wp2_with (go_at_call 23; with_reducible refine (HS.out w3).mono ?_; rintro e w4 ⟨rfl, rfl⟩)
  (go_ret2;exact ⟨rfl, HK3.out⟩)
end Go.Proofs.Ytongpcfjfolfbaa
