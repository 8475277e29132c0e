/- The contract of unpack's open at an edge without a middle. -/
import Derived.Test.YtongpcfjfolfbaaUp
namespace Go.Proofs.Ytongpcfjfolfbaa
open Go.RowKit
set_option maxHeartbeats 2000000 in
theorem open_leaf (f : FuncId) (p : Value) (g : Nat → Nat → Edg × Int) (I : World → Prop) (hT : Tells f p g I) (W k : Nat) (L : List Edg) (a b : Nat) (d : Int) (ha : a < 4294967296) (hb : b < 4294967296) (w : World) (hI : I w) (v : Value) (hA : At (mkWay (meth f p)) 65 W w v L) (h1 : (g a b).2 = 0) (h2 : (g a b).1.tail = a ∧ (g a b).1.head = b) (h3 : (g a b).1.mid = 4294967295) (h4 : L.length < 65536) : Calls Try.prog 27 #[.pointer (some ⟨W, 0, none⟩), .int .u32 (a : Int), .int .u32 (b : Int), .int .i64 d] w (OpensP (meth f p) W w v (openV g k L a b)) := by
  rw [openV_leaf h1 h2 h3 h4]
  have h5 : (((g a b).1.tail : Int) == (a : Int)) = true := by rw [h2.1]; exact beq_self_eq_true _
  have h6 : (((g a b).1.head : Int) == (b : Int)) = true := by rw [h2.2]; exact beq_self_eq_true _
  have h7 : (((g a b).1.mid : Int) == 4294967295) = true := by rw [h3]; rfl
  have h8 : decide ((L.length : Int) < 65536) = true := by rw [decide_eq_true_iff]; omega
  obtain ⟨A, c, rfl, hc⟩ := hA.own.form
  clear h2 h3
  have HT := Lib.hid hT.call
  have HA := Lib.hid hA
  have hE := fun args W => hT.enter args W
  have c0 : w.cell? ⟨W, 0, none⟩ = some (.func (.func f) #[p] #[]) := cell_of_row _ _ 0 _ _ _ hA.row
  clear hT hA
  go_enter Try.func27, Try.ntmps27
  go_wp2_with (simp only [hE])
  refine (HT.out a b w ha hb hI).mono ?_
  rintro e w1 ⟨rfl, hb1⟩
  have HB1 := Lib.hid hb1
  clear HT hE c0 hb1
  generalize (g a b).2 = er at *
  generalize (g a b).1 = x at *
  dsimp only [Edg.agg]
  subst h1
  obtain ⟨W1, hW1, hX, hsz, hb1⟩ := boxed w1 x
  have hA1 := (HA.out.below HB1.out).below hb1
  have c1 : W1.cell? ⟨W, 1, none⟩ = some (.slice A L.length c) := cell_of_row _ _ 1 _ _ _ hA1.row
  obtain ⟨x0, x1, x2, x3⟩ := cells_of hX
  dsimp only [Edg.cells] at hW1
  have HA1 := Lib.hid hA1
  clear hA1
  have c2 : ∀ o, o = Obj.cells #[.int .u32 (x.tail : Int), .int .u32 (x.head : Int), .int .u64 (x.weight : Int), .int .u32 (x.mid : Int)] 42 → (w1.alloc o).cell? ⟨W, 1, none⟩ = some (.slice A L.length c) := fun o ho => by rw [ho, hW1]; exact c1
  go_wp2_with
    (go_at_call 31; first | (with_reducible refine (must_no _ _).mono ?_; rintro e w2 ⟨rfl, rfl⟩) | (with_reducible refine (must_ok _ _).mono ?_; rintro e w2 ⟨rfl, rfl⟩))
  clear c2 hW1 h5 h6 h7 h8
  have lw : W < W1.heap.size := HA1.out.lt
  have HX := Lib.hid hX
  have hxs : w1.heap.size < W1.heap.size := by omega
  have HB2 := Lib.hid hb1
  have hsz1 := HB1.out.size
  clear hX hb1
  generalize hXe : w1.heap.size = X at *
  obtain ⟨i0, hi0, hz0, hz1, hz2⟩ := info_parts edge_info
  have HI := Lib.hid hi0
  have HZ := Lib.hid hz0
  have HZ1 := Lib.hid hz1
  have HZ2 := Lib.hid hz2
  clear hi0 hz0 hz1 hz2 hsz
  have c3 : ∀ o, (W1.alloc o).cell? ⟨W, 1, none⟩ = some (.slice A L.length c) := fun o => by rw [World.cell?_alloc_past _ _ _ lw]; exact c1
  go_region_law
    ((refine step_append_lies _ (by rfl) _ _ _ (by rfl) (W + 1) 42 i0 _ 4 24 Try.underlying27 HI.out HZ.out HZ1.out HZ2.out rfl (by omega) (.slice A L.length c) L.length (L.flatMap Edg.enc) (by rfl) ((HA1.out.own.alloc _).drewN 1)
          ⟨W1.heap.size, 0, none⟩ 1 1 (Edg.enc x) (by rfl) (by rfl) (World.news_of_block (cs := x.cells) (t := 42) (fr := (0, 0)) (heap_alloc_new W1 _)) (by simp [Edg.enc, Value.oneCell']) (by omega) (by simp only [maxLen]; omega) (by omega) (by simp; omega) (W1.heap.size + 1) (by simp) ?_; intro gg cap w3 hown hgrow hat hlt; obtain ⟨hz, hy⟩ := app_stay 1 HA1.out hgrow ⟨_, rfl⟩; change _ = some (Value.slice A L.length c) at hy))
  all_goals
    have hown' : OwnS w3 (W + 1) 42 4 Edg.enc (.slice (some ⟨gg, 0, none⟩) (L.length + 1) cap) (L ++ [x]) := by
      unfold OwnS; rw [List.length_append, List.flatMap_append]; simpa using hown
    obtain ⟨q1, q2, q3, q4⟩ := opens_app (j := 1) HA.out (HB1.out.trans (HB2.out.mono hsz1)) hsz1 HX.out (below_drewN ((Below.refl _ _).alloc (Nat.le_refl _) _) 1) hown' hgrow (by simpa using hat) (fun _ => rfl)
    have c5 := (cells_of q3).2.2.1
    clear hown hown' hgrow hat hz hy c1 c3 x0 x1 x2 x3 hlt
    generalize (w3.setCell ⟨W, 1, none⟩ (.slice (some ⟨gg, 0, none⟩) (L.length + 1) cap)) = W4 at *
    have Q1 := Lib.hid q1
    have Q2 := Lib.hid q2
    have Q4 := Lib.hid q4
    clear q1 q2 q3 q4
    have HE := Lib.hid hXe
    clear hXe
    go_wp2_with fail
    go_ret
    exact ⟨rfl, Q2.out, _, Q1.out, fun j hj => by
      have : j = gg := by simpa [Value.ownBlock] using hj.symm
      subst this
      exact Q4.out⟩
end Go.Proofs.Ytongpcfjfolfbaa
