/- The contract of unpack's open: it opens an edge as openV says. -/
import Derived.Test.YtongpcfjfolfbaaUo
import Derived.Test.YtongpcfjfolfbaaMu
namespace Go.Proofs.Ytongpcfjfolfbaa
open Go.RowKit

def mkWay (F : Value) (v : Value) : Array Value := #[F, v]
def okP (wt : Nat) : Ending := .returned (.int .u64 (wt : Int))
def noP (e : Int) : Ending := .panicked (wrongV e)
abbrev OpensP (F : Value) (W : Nat) := Opens (mkWay F) 65 W okP noP

theorem open_err (f : FuncId) (p : Value) (g : Nat → Nat → Edg × Int) (I : World → Prop) (hT : Tells f p g I) (W k : Nat) (L : List Edg) (a b : Nat) (d : Int) (ha : a < 4294967296) (hb : b < 4294967296) (w : World) (hI : I w) (v : Value) (hA : At (mkWay (meth f p)) 65 W w v L) (h1 : (g a b).2 ≠ 0) : Calls Try.prog 27 #[.pointer (some ⟨W, 0, none⟩), .int .u32 (a : Int), .int .u32 (b : Int), .int .i64 d] w (OpensP (meth f p) W w v (openV g k L a b)) := by
  rw [openV_err h1]
  have h2 : ((g a b).2 == 0) = false := by simpa using h1
  clear h1
  have HT := Lib.hid hT.call
  have HA := Lib.hid hA
  have hE := fun args W => hT.enter args W
  have c0 : w.cell? ⟨W, 0, none⟩ = some (.func (.func f) #[p] #[]) := cell_of_row _ _ 0 _ _ _ hA.row
  clear hT hA
  go_enter Try.func27, Try.ntmps27
  go_wp2_with (simp only [hE])
  refine (HT.out a b w ha hb hI).mono ?_
  rintro e w1 ⟨rfl, hb1⟩
  have HB1 := Lib.hid hb1
  clear HT hE c0 hb1
  generalize (g a b).2 = er at *
  generalize (g a b).1 = x at *
  dsimp only [Edg.agg]
  go_wp2_with
    (go_at_call 31; first | (with_reducible refine (must_no _ _).mono ?_; rintro e w2 ⟨rfl, rfl⟩) | (with_reducible refine (must_ok _ _).mono ?_; rintro e w2 ⟨rfl, rfl⟩))
  exact ⟨rfl, rfl, ((Keeps.refl _ _ _).below HB1.out).below ((Below.refl _ _).alloc (Nat.le_refl _) _)⟩

theorem open_ends (f : FuncId) (p : Value) (g : Nat → Nat → Edg × Int) (I : World → Prop) (hT : Tells f p g I) (W k : Nat) (L : List Edg) (a b : Nat) (d : Int) (ha : a < 4294967296) (hb : b < 4294967296) (w : World) (hI : I w) (v : Value) (hA : At (mkWay (meth f p)) 65 W w v L) (h1 : (g a b).2 = 0) (h2 : (g a b).1.tail ≠ a ∨ (g a b).1.head ≠ b) : Calls Try.prog 27 #[.pointer (some ⟨W, 0, none⟩), .int .u32 (a : Int), .int .u32 (b : Int), .int .i64 d] w (OpensP (meth f p) W w v (openV g k L a b)) := by
  rw [openV_ends h1 h2]
  by_cases h3 : (g a b).1.tail = a
  · have h4 : (((g a b).1.tail : Int) == (a : Int)) = true := by rw [h3]; exact beq_self_eq_true _
    have h5 : (((g a b).1.head : Int) == (b : Int)) = false := by
      rcases h2 with h2 | h2
      · exact absurd h3 h2
      · rw [beq_eq_false_iff_ne]; omega
    clear h2 h3
    have HT := Lib.hid hT.call
    have HA := Lib.hid hA
    have hE := fun args W => hT.enter args W
    have c0 : w.cell? ⟨W, 0, none⟩ = some (.func (.func f) #[p] #[]) := cell_of_row _ _ 0 _ _ _ hA.row
    clear hT hA
    go_enter Try.func27, Try.ntmps27
    go_wp2_with (simp only [hE])
    refine (HT.out a b w ha hb hI).mono ?_
    rintro e w1 ⟨rfl, hb1⟩
    have HB1 := Lib.hid hb1
    clear HT hE c0 hb1
    generalize (g a b).2 = er at *
    generalize (g a b).1 = x at *
    dsimp only [Edg.agg]
    subst h1
    go_wp2_with
      (go_at_call 31; first | (with_reducible refine (must_no _ _).mono ?_; rintro e w2 ⟨rfl, rfl⟩) | (with_reducible refine (must_ok _ _).mono ?_; rintro e w2 ⟨rfl, rfl⟩))
    exact ⟨rfl, rfl, ((Keeps.refl _ _ _).below HB1.out).below ((Below.refl _ _).alloc (Nat.le_refl _) _)⟩
  · have h4 : (((g a b).1.tail : Int) == (a : Int)) = false := by rw [beq_eq_false_iff_ne]; omega
    clear h2 h3
    have HT := Lib.hid hT.call
    have HA := Lib.hid hA
    have hE := fun args W => hT.enter args W
    have c0 : w.cell? ⟨W, 0, none⟩ = some (.func (.func f) #[p] #[]) := cell_of_row _ _ 0 _ _ _ hA.row
    clear hT hA
    go_enter Try.func27, Try.ntmps27
    go_wp2_with (simp only [hE])
    refine (HT.out a b w ha hb hI).mono ?_
    rintro e w1 ⟨rfl, hb1⟩
    have HB1 := Lib.hid hb1
    clear HT hE c0 hb1
    generalize (g a b).2 = er at *
    generalize (g a b).1 = x at *
    dsimp only [Edg.agg]
    subst h1
    go_wp2_with
      (go_at_call 31; first | (with_reducible refine (must_no _ _).mono ?_; rintro e w2 ⟨rfl, rfl⟩) | (with_reducible refine (must_ok _ _).mono ?_; rintro e w2 ⟨rfl, rfl⟩))
    exact ⟨rfl, rfl, ((Keeps.refl _ _ _).below HB1.out).below ((Below.refl _ _).alloc (Nat.le_refl _) _)⟩

theorem open_full (f : FuncId) (p : Value) (g : Nat → Nat → Edg × Int) (I : World → Prop) (hT : Tells f p g I) (W k : Nat) (L : List Edg) (a b : Nat) (d : Int) (ha : a < 4294967296) (hb : b < 4294967296) (w : World) (hI : I w) (v : Value) (hA : At (mkWay (meth f p)) 65 W w v L) (h1 : (g a b).2 = 0) (h2 : (g a b).1.tail = a ∧ (g a b).1.head = b) (h3 : (g a b).1.mid = 4294967295) (h4 : ¬ L.length < 65536) : Calls Try.prog 27 #[.pointer (some ⟨W, 0, none⟩), .int .u32 (a : Int), .int .u32 (b : Int), .int .i64 d] w (OpensP (meth f p) W w v (openV g k L a b)) := by
  rw [openV_full h1 h2 h3 h4]
  have h5 : (((g a b).1.tail : Int) == (a : Int)) = true := by rw [h2.1]; exact beq_self_eq_true _
  have h6 : (((g a b).1.head : Int) == (b : Int)) = true := by rw [h2.2]; exact beq_self_eq_true _
  have h7 : (((g a b).1.mid : Int) == 4294967295) = true := by rw [h3]; rfl
  have h8 : decide ((L.length : Int) < 65536) = false := by rw [decide_eq_false_iff_not]; omega
  obtain ⟨A, c, rfl, hc⟩ := hA.own.form
  clear h2 h3
  have HT := Lib.hid hT.call
  have HA := Lib.hid hA
  have hE := fun args W => hT.enter args W
  have c0 : w.cell? ⟨W, 0, none⟩ = some (.func (.func f) #[p] #[]) := cell_of_row _ _ 0 _ _ _ hA.row
  clear hT hA
  go_enter Try.func27, Try.ntmps27
  go_wp2_with (simp only [hE])
  refine (HT.out a b w ha hb hI).mono ?_
  rintro e w1 ⟨rfl, hb1⟩
  have HB1 := Lib.hid hb1
  clear HT hE c0 hb1
  generalize (g a b).2 = er at *
  generalize (g a b).1 = x at *
  dsimp only [Edg.agg]
  subst h1
  have c1 : w1.cell? ⟨W, 1, none⟩ = some (.slice A L.length c) := cell_of_row _ _ 1 _ _ _ (HA.out.below HB1.out).row
  have hlt : W < w1.heap.size := (HA.out.below HB1.out).lt
  have c2 : ∀ o, (w1.alloc o).cell? ⟨W, 1, none⟩ = some (.slice A L.length c) := fun o => by rw [World.cell?_alloc_past _ _ _ hlt]; exact c1
  go_wp2_with
    (go_at_call 31; first | (with_reducible refine (must_no _ _).mono ?_; rintro e w2 ⟨rfl, rfl⟩) | (with_reducible refine (must_ok _ _).mono ?_; rintro e w2 ⟨rfl, rfl⟩))
  exact ⟨rfl, rfl, ((Keeps.refl _ _ _).below HB1.out).below ((Below.refl _ _).alloc (Nat.le_refl _) _)⟩

end Go.Proofs.Ytongpcfjfolfbaa
