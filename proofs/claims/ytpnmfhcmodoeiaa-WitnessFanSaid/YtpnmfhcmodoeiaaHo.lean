/- The contract of Pop of a heap with items. -/
import Derived.Test.YtpnmfhcmodoeiaaHd
import Derived.Test.YtpnmfhcmodoeiaaHp
import Derived.Test.YtpnmfhcmodoeiaaHn
import Derived.Laws.ResultCell
namespace Go.Proofs.Ytpnmfhcmodoeiaa
open Go.RowKit
theorem dnF_more : ∀ (f : Nat) (l : List Itm) (i : Nat), l.length ≤ f + i → dnF (f + 1) l i = dnF f l i
  | 0, l, i, h => by rw [dn_end (by omega)]; rfl
  | f + 1, l, i, h => by
    by_cases h1 : l.length ≤ 2 * i + 1
    · rw [dn_end h1, dn_end h1]
    · rw [dn_go h1 rfl, dn_go h1 rfl]
      have hb : i < below l (2 * i + 1) := by unfold below; split <;> omega
      rw [dnF_more f (swq l i (below l (2 * i + 1))) _ (by rw [swq_length]; omega)]
theorem dnF_length : ∀ (f : Nat) (l : List Itm) (i : Nat), (dnF f l i).length = l.length
  | 0, l, i => rfl
  | f + 1, l, i => by
    unfold dnF
    split
    · rfl
    · split
      · rw [dnF_length, swq_length]
      · rfl
/-- the list without its last item, which has come first -/
def cutF (l : List Itm) : List Itm := (l.set 0 (gt l (l.length - 1))).take (l.length - 1)
theorem cutF_length {l : List Itm} (_ : 0 < l.length) : (cutF l).length = l.length - 1 := by unfold cutF; simp <;> omega
theorem popF_cut {l : List Itm} (h : 0 < l.length) : popF l = dnF (cutF l).length (cutF l) 0 := by
  have e : l.length = (cutF l).length + 1 := by rw [cutF_length h]; omega
  have : popF l = dnF l.length (cutF l) 0 := rfl
  rw [this, e, dnF_more _ _ _ (by omega)]
theorem popF_length {l : List Itm} (h : 0 < l.length) : (popF l).length = l.length - 1 := by rw [popF_cut h, dnF_length, cutF_length h]
/-- what lies in memory when the last item has come first -/
theorem cut_hat {H g c k : Nat} {l : List Itm} {w : World} (h : HAt H g c w l) (h0 : 0 < l.length) (hk : k = l.length - 1) (o : Obj) :
    HAt H g c ((((w.setCell ⟨g, 0, none⟩ (.int .u64 ((gt l k).key : Int))).setCell ⟨g, 0 + 1, none⟩ (.int .u32 ((gt l k).id : Int))).setCell ⟨H, 0, none⟩ (.slice (some ⟨g, 0, none⟩) k c)).alloc o) (cutF l) := by
  subst hk
  have hlt := h.lt
  have h1 := its_set rfl h.own 0 h0 (gt l (l.length - 1))
  rw [Nat.zero_mul] at h1
  have h2 := its_take (k := l.length - 1) (by rw [List.length_set]) h1 (by rw [List.length_set]; omega)
  have hH : H ≠ g := by omega
  have hr : ((w.setCell ⟨g, 0, none⟩ (.int .u64 ((gt l (l.length - 1)).key : Int))).setCell ⟨g, 0 + 1, none⟩ (.int .u32 ((gt l (l.length - 1)).id : Int))).heap[H]? = _ := (heap_setCell_other _ _ _ _ hH).trans ((heap_setCell_other _ _ _ _ hH).trans h.row)
  have h3 := heap_setCell_same _ H 0 _ _ (.slice (some ⟨g, 0, none⟩) (l.length - 1) c) hr
  have hA : HAt H g c (((w.setCell ⟨g, 0, none⟩ (.int .u64 ((gt l (l.length - 1)).key : Int))).setCell ⟨g, 0 + 1, none⟩ (.int .u32 ((gt l (l.length - 1)).id : Int))).setCell ⟨H, 0, none⟩ (.slice (some ⟨g, 0, none⟩) (l.length - 1) c)) (cutF l) := by
    refine ⟨?_, ?_⟩
    · rw [cutF_length h0]; exact h3
    · rw [cutF_length h0]
      exact OwnS.same h2 fun j hj => by
        have : j = g := by simpa [Value.ownBlock] using hj.symm
        subst this
        exact heap_setCell_other _ _ _ _ (Ne.symm hH)
  exact hA.below ((Below.refl _ _).alloc (Nat.le_refl _) _)
theorem Keeps.set {W R : Nat} {v : Value} {w w1 : World} (h : Keeps W v w w1) (hR : w.heap.size ≤ R) (i : Nat) (u : Value) : Keeps W v w (w1.setCell ⟨R, i, none⟩ u) :=
  ⟨h.os, h.tape, h.output, by rw [World.size_setCell]; exact h.size, fun b h1 h2 h3 => (heap_setCell_other _ _ _ _ (by show b ≠ R; omega)).trans (h.block b h1 h2 h3)⟩
theorem HAt.set {H g c R : Nat} {w : World} {l : List Itm} (h : HAt H g c w l) (h1 : R ≠ H) (h2 : R ≠ g) (i : Nat) (u : Value) : HAt H g c (w.setCell ⟨R, i, none⟩ u) l :=
  ⟨(heap_setCell_other _ _ _ _ (Ne.symm h1)).trans h.row, h.own.same fun k hk => by
    have : k = g := by simpa [Value.ownBlock] using hk.symm
    subst this
    exact heap_setCell_other _ _ _ _ (Ne.symm h2)⟩
theorem down_root (H g c : Nat) (l : List Itm) (w : World) (h : HAt H g c w l) (hl : l.length ≤ 65536) :
    Calls Try.prog 48 #[.pointer (some ⟨H, 0, none⟩), .int .i64 0] w fun e w' => e = .returned (.tuple #[]) ∧ Turn g w w' ∧ HAt H g c w' (dnF l.length l 0) := by
  by_cases h0 : l.length = 0
  · have hn : l = [] := List.eq_nil_of_length_eq_zero h0
    subst hn
    refine (down_empty H c (some ⟨g, 0, none⟩) w (cell_of_row _ _ 0 _ _ _ h.row)).mono ?_
    rintro e w' ⟨he, rfl⟩
    exact ⟨he, Turn.refl _ _, h⟩
  · exact down_any H g c l 0 w h (by omega) hl
set_option maxRecDepth 100000 in
set_option maxHeartbeats 4000000 in
theorem pop_some (H g c : Nat) (l : List Itm) (w : World) (h : HAt H g c w l) (h0 : 0 < l.length) (hl : l.length ≤ 65536) (hc : l.length ≤ c) :
    Calls Try.prog 42 #[.pointer (some ⟨H, 0, none⟩)] w fun e w' => e = .returned (.tuple #[(gt l 0).agg, .bool true]) ∧ Keeps H (.slice (some ⟨g, 0, none⟩) l.length c) w w' ∧ HAt H g c w' (popF l) := by
  obtain ⟨W1, hW1⟩ : ∃ W1, w.alloc (.cells #[.int .u64 0, .int .u32 0] 88) = W1 := ⟨_, rfl⟩
  have hb1 : Below w.heap.size w W1 := by rw [← hW1]; exact (Below.refl _ _).alloc (Nat.le_refl _) _
  have hR : W1.heap[w.heap.size]? = some (.cells #[.int .u64 0, .int .u32 0] 88 (0, 0)) := by rw [← hW1]; exact heap_alloc_new w _
  have h1 := h.below hb1
  obtain ⟨o, ho⟩ : ∃ o : Nat, o = 0 := ⟨_, rfl⟩
  obtain ⟨k, hk⟩ : ∃ k : Nat, k = l.length - 1 := ⟨_, rfl⟩
  have a0 : W1.cell? ⟨H, 0, none⟩ = some (.slice (some ⟨g, o, none⟩) l.length c) := by rw [ho]; exact cell_of_row _ _ 0 _ _ _ h1.row
  have a2 : W1.frozen? ⟨H, 0, none⟩ = false := frozen_of_row _ _ _ _ _ h1.row
  obtain ⟨f0, f1, z0, z1⟩ := its_at ho h1.own 0 h0
  obtain ⟨d0, d1, y0, y1⟩ := its_at ho h1.own k (by omega)
  have HLn := Lib.hid (len_any H l.length c (some ⟨g, o, none⟩) W1 a0)
  have e1 : (l.length : Int) - 1 = (k : Int) := by omega
  have n1 : (0 : Int) ≤ (k : Int) := by omega
  have n2 : (k : Int) < (l.length : Int) := by omega
  have n3 : (k : Int) ≤ (c : Int) := by omega
  have n4 : (0 : Int) < (l.length : Int) := by omega
  have g1 : ((l.length : Int) == 0) = false := by rw [beq_eq_false_iff_ne]; omega
  have hlb : l.length ≤ 65536 := hl
  have hlt := h1.lt
  have ln : H ≠ g := by omega
  have lh : H < W1.heap.size := hlt.1
  have lg : g < W1.heap.size := hlt.2.1
  have lr : w.heap.size < W1.heap.size := (Array.getElem?_eq_some_iff.1 hR).1
  simp only [Nat.zero_mul, Nat.add_zero] at f0 f1 z0 z1
  have HO' := Lib.hid ho
  have HLL := Lib.hid h0
  have HLM := Lib.hid hl
  have HK := Lib.hid hk
  have HR := Lib.hid hR
  have HA := Lib.hid h1
  have HB := Lib.hid hb1
  have H0 := Lib.hid h
  clear ho hk hR h1 hb1 h hlt h0 hl hc
  go_enter Try.func42, Try.ntmps42
  go_wp2_with fail
  try rw [hW1]
  clear hW1
  refine HLn.out.mono ?_
  rintro e w1 ⟨rfl, rfl⟩
  clear HLn
  go_wp2_with fail
  obtain ⟨W2, hW2⟩ : ∃ W2, ((((W1.setCell ⟨g, o, none⟩ (.int .u64 ((gt l k).key : Int))).setCell ⟨g, o + 1, none⟩ (.int .u32 ((gt l k).id : Int))).setCell ⟨H, 0, none⟩ (.slice (some ⟨g, o, none⟩) k c)).alloc (.cells #[.int .u64 ((gt l 0).key : Int), .int .u32 ((gt l 0).id : Int)] 88)) = W2 := ⟨_, rfl⟩
  rw [hW2]
  have HX : Hid (W2.heap[W1.heap.size]? = some (.cells (gt l 0).cells 88 (0, 0))) := Lib.hid (by
    have := heap_alloc_new (((W1.setCell ⟨g, o, none⟩ (.int .u64 ((gt l k).key : Int))).setCell ⟨g, o + 1, none⟩ (.int .u32 ((gt l k).id : Int))).setCell ⟨H, 0, none⟩ (.slice (some ⟨g, o, none⟩) k c)) (.cells #[.int .u64 ((gt l 0).key : Int), .int .u32 ((gt l 0).id : Int)] 88)
    rw [hW2, World.size_setCell, World.size_setCell, World.size_setCell] at this
    exact this)
  have HA2 : Hid (HAt H g c W2 (cutF l)) := Lib.hid (by
    rw [← hW2, HO'.out]
    exact cut_hat HA.out HLL.out HK.out _)
  have HK2 : Hid (Keeps H (.slice (some ⟨g, 0, none⟩) l.length c) W1 W2) := Lib.hid (by
    rw [← hW2]
    have hk3 : Keeps H (.slice (some ⟨g, 0, none⟩) l.length c) W1 (((W1.setCell ⟨g, o, none⟩ (.int .u64 ((gt l k).key : Int))).setCell ⟨g, o + 1, none⟩ (.int .u32 ((gt l k).id : Int))).setCell ⟨H, 0, none⟩ (.slice (some ⟨g, o, none⟩) k c)) := by
      refine ⟨rfl, rfl, rfl, by simp, fun b h1 h2 h3 => ?_⟩
      have hg : b ≠ g := fun e => h3 (by rw [e]; rfl)
      rw [heap_setCell_other _ _ _ _ h2, heap_setCell_other _ _ _ _ hg, heap_setCell_other _ _ _ _ hg]
    exact hk3.below ((Below.refl _ _).alloc (Nat.le_refl _) _))
  have hrg : some w.heap.size ≠ (Value.slice (some ⟨g, 0, none⟩) l.length c).ownBlock := by
    intro e
    have h2 := H0.out.lt
    have e' : w.heap.size = g := by simpa [Value.ownBlock] using e
    omega
  have HR2 : Hid (W2.heap[w.heap.size]? = some (.cells #[.int .u64 0, .int .u32 0] 88 (0, 0))) := Lib.hid ((HK2.out.block _ lr (by have := H0.out.lt; omega) hrg).trans HR.out)
  clear hrg
  clear hW2 a0 a2 f0 f1 z0 z1 d0 d1 y0 y1
  generalize hx : gt l 0 = x at *
  have HX0 := Lib.hid hx
  clear hx
  generalize hXe : W1.heap.size = X at *
  have HE := Lib.hid hXe
  clear hXe
  refine (down_root H g c (cutF l) W2 HA2.out (by rw [cutF_length HLL.out]; have := HLM.out; omega)).mono ?_
  rintro e w5 ⟨rfl, ht, hA5⟩
  have hX5 : w5.heap[X]? = some (.cells x.cells 88 (0, 0)) := (ht.block X (Array.getElem?_eq_some_iff.1 HX.out).1 (by omega)).trans HX.out
  have hR5 : w5.heap[w.heap.size]? = some (.cells #[.int .u64 0, .int .u32 0] 88 (0, 0)) := (ht.block _ (Array.getElem?_eq_some_iff.1 HR2.out).1 (by have := H0.out.lt; omega)).trans HR2.out
  have x0 : w5.cell? ⟨X, 0, none⟩ = some (.int .u64 (x.key : Int)) := cell_of_row _ _ 0 _ _ _ hX5
  have x1 : w5.cell? ⟨X, 1, none⟩ = some (.int .u32 (x.id : Int)) := cell_of_row _ _ 1 _ _ _ hX5
  have r0 : w5.cell? ⟨w.heap.size, 0, none⟩ = some (.int .u64 0) := cell_of_row _ _ 0 _ _ _ hR5
  have r1 : w5.cell? ⟨w.heap.size, 1, none⟩ = some (.int .u32 0) := cell_of_row _ _ 1 _ _ _ hR5
  have s0 : w5.frozen? ⟨w.heap.size, 0, none⟩ = false := frozen_of_row _ _ _ _ _ hR5
  have s1 : w5.frozen? ⟨w.heap.size, 1, none⟩ = false := frozen_of_row _ _ _ _ _ hR5
  have HT := Lib.hid ht
  have HA5 := Lib.hid hA5
  have HR5 := Lib.hid hR5
  have HX5 := Lib.hid hX5
  have lr5 : w.heap.size < w5.heap.size := (Array.getElem?_eq_some_iff.1 hR5).1
  clear ht hA5 hR5 hX5
  generalize hRe : w.heap.size = R at *
  have HRE := Lib.hid hRe
  clear hRe
  go_wp2_with fail
  refine bodyPost_ret (v := .tuple #[x.agg, .bool true]) ?_ rfl ?_
  · rw [results_cell_tmp rfl]
    go_simp
    rfl
  · refine ⟨by rw [HX0.out], ?_, ?_⟩
    · have k1 : Keeps H (.slice (some ⟨g, 0, none⟩) l.length c) w W1 := (Keeps.refl _ _ _).below (by rw [HRE.out]; exact HB.out)
      have k2 := Turn.keeps (k1.trans HK2.out fun j hj => .inl hj) HT.out (.inl rfl)
      exact (k2.set (Nat.le_of_eq HRE.out) 0 _).set (Nat.le_of_eq HRE.out) 1 _
    · rw [popF_cut HLL.out]
      have hl2 := H0.out.lt
      rw [HRE.out] at hl2
      exact (HA5.out.set (by omega) (by omega) 0 _).set (by omega) (by omega) 1 _
/-- Push and Pop of a heap in its order -/
structure HP (H : Nat) (w : World) (v : Value) (l : List Itm) : Prop where
  oi : HO H w v l
  heap : IsHeap l
theorem push_hp (H : Nat) (v : Value) (l : List Itm) (x : Itm) (w : World) (h : HP H w v l) (hl : l.length < 65536) :
    Calls Try.prog 40 #[.pointer (some ⟨H, 0, none⟩), x.agg] w fun e w' => e = .returned (.int .i64 0) ∧ ∃ v' l', HP H w' v' l' ∧ l'.Perm (l ++ [x]) ∧ Step H v v' w w' :=
  (push_any H v l x w h.oi hl).mono fun e w' ⟨he, v', h1, h2⟩ => by
    have h3 := up_heap l.length (l ++ [x]) l.length (Nat.le_refl _) (by simp) (push_up h.heap x)
    exact ⟨he, v', _, ⟨h1, h3.1⟩, h3.2, h2⟩
theorem pop_hp (H : Nat) (v : Value) (l : List Itm) (w : World) (h : HP H w v l) (h0 : 0 < l.length) (hl : l.length ≤ 65536) :
    Calls Try.prog 42 #[.pointer (some ⟨H, 0, none⟩)] w fun e w' => ∃ v' l' x, e = .returned (.tuple #[x.agg, .bool true]) ∧ HP H w' v' l' ∧ (l' ++ [x]).Perm l ∧ Least l x ∧ Step H v v' w w' := by
  obtain ⟨g, c, rfl, _, _, hc⟩ := h.oi.at h0
  refine (pop_some H g c l w h.oi.hat h0 hl hc).mono ?_
  rintro e w' ⟨rfl, hk, ha⟩
  obtain ⟨h1, h2⟩ := pop_heap h.heap h0
  exact ⟨_, _, _, rfl, ⟨ha.oi, h1⟩, h2, heap_least h.heap h0, hk, fun j hj => .inl hj⟩
end Go.Proofs.Ytpnmfhcmodoeiaa
