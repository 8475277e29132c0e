/- The contract of the document's open: it opens an edge as openV says. -/
import Derived.Test.YtongpcfjfolfbaaUo
namespace Go.Proofs.Ytongpcfjfolfbaa
open Go.RowKit

def mkOp (v : Value) : Array Value := #[v]
def okR (wt : Nat) : Ending := .returned (.tuple #[.int .u64 (wt : Int), .int .i64 0])
def noR (e : Int) : Ending := .returned (.tuple #[.int .u64 0, .int .i64 e])
abbrev OpensR (W : Nat) := Opens mkOp 71 W okR noR
abbrev fFirst : FuncId := 14

theorem ropen_err (p : Value) (g : Nat → Nat → Edg × Int) (I : World → Prop) (hT : Tells fFirst p g I) (W k : Nat) (L : List Edg) (a b : Nat) (d : Int) (ha : a < 4294967296) (hb : b < 4294967296) (w : World) (hI : I w) (v : Value) (hA : At mkOp 71 W w v L) (h1 : (g a b).2 ≠ 0) : Calls Try.prog 28 #[.pointer (some ⟨W, 0, none⟩), p, .int .u32 (a : Int), .int .u32 (b : Int), .int .i64 d] w (OpensR W w v (openV g k L a b)) := by
  rw [openV_err h1]
  have h2 : ((g a b).2 != 0) = true := by simpa using h1
  have h3 : ((g a b).2 == 0) = false := by simpa using h1
  clear h1
  have HT := Lib.hid hT.call
  have HA := Lib.hid hA
  clear hT hA
  go_enter Try.func28, Try.ntmps28
  go_wp2_with fail
  refine (HT.out a b w ha hb hI).mono ?_
  rintro e w1 ⟨rfl, hb1⟩
  have HB1 := Lib.hid hb1
  clear HT hb1
  generalize (g a b).2 = er at *
  generalize (g a b).1 = x at *
  dsimp only [Edg.agg]
  go_wp2_with fail
  go_ret2
  exact ⟨rfl, ((Keeps.refl _ _ _).below HB1.out).below ((Below.refl _ _).alloc (Nat.le_refl _) _)⟩

theorem ropen_ends (p : Value) (g : Nat → Nat → Edg × Int) (I : World → Prop) (hT : Tells fFirst p g I) (W k : Nat) (L : List Edg) (a b : Nat) (d : Int) (ha : a < 4294967296) (hb : b < 4294967296) (w : World) (hI : I w) (v : Value) (hA : At mkOp 71 W w v L) (h1 : (g a b).2 = 0) (h2 : (g a b).1.tail ≠ a ∨ (g a b).1.head ≠ b) : Calls Try.prog 28 #[.pointer (some ⟨W, 0, none⟩), p, .int .u32 (a : Int), .int .u32 (b : Int), .int .i64 d] w (OpensR W w v (openV g k L a b)) := by
  rw [openV_ends h1 h2]
  by_cases h3 : (g a b).1.tail = a
  · have h4 : (((g a b).1.tail : Int) != (a : Int)) = false := by rw [h3]; simp
    have h5 : (((g a b).1.head : Int) != (b : Int)) = true := by
      rcases h2 with h2 | h2
      · exact absurd h3 h2
      · rw [bne_iff_ne]; omega
    clear h2 h3
    have HT := Lib.hid hT.call
    have HA := Lib.hid hA
    clear hT hA
    go_enter Try.func28, Try.ntmps28
    go_wp2_with fail
    refine (HT.out a b w ha hb hI).mono ?_
    rintro e w1 ⟨rfl, hb1⟩
    have HB1 := Lib.hid hb1
    clear HT hb1
    generalize (g a b).2 = er at *
    generalize (g a b).1 = x at *
    dsimp only [Edg.agg]
    subst h1
    go_wp2_with fail
    go_ret2
    exact ⟨rfl, ((Keeps.refl _ _ _).below HB1.out).below ((Below.refl _ _).alloc (Nat.le_refl _) _)⟩
  · have h4 : (((g a b).1.tail : Int) != (a : Int)) = true := by rw [bne_iff_ne]; omega
    clear h2 h3
    have HT := Lib.hid hT.call
    have HA := Lib.hid hA
    clear hT hA
    go_enter Try.func28, Try.ntmps28
    go_wp2_with fail
    refine (HT.out a b w ha hb hI).mono ?_
    rintro e w1 ⟨rfl, hb1⟩
    have HB1 := Lib.hid hb1
    clear HT hb1
    generalize (g a b).2 = er at *
    generalize (g a b).1 = x at *
    dsimp only [Edg.agg]
    subst h1
    go_wp2_with fail
    go_ret2
    exact ⟨rfl, ((Keeps.refl _ _ _).below HB1.out).below ((Below.refl _ _).alloc (Nat.le_refl _) _)⟩

theorem ropen_full (p : Value) (g : Nat → Nat → Edg × Int) (I : World → Prop) (hT : Tells fFirst p g I) (W k : Nat) (L : List Edg) (a b : Nat) (d : Int) (ha : a < 4294967296) (hb : b < 4294967296) (w : World) (hI : I w) (v : Value) (hA : At mkOp 71 W w v L) (h1 : (g a b).2 = 0) (h2 : (g a b).1.tail = a ∧ (g a b).1.head = b) (h3 : (g a b).1.mid = 4294967295) (h4 : ¬ L.length < 65536) : Calls Try.prog 28 #[.pointer (some ⟨W, 0, none⟩), p, .int .u32 (a : Int), .int .u32 (b : Int), .int .i64 d] w (OpensR W w v (openV g k L a b)) := by
  rw [openV_full h1 h2 h3 h4]
  have h5 : (((g a b).1.tail : Int) != (a : Int)) = false := by rw [h2.1]; simp
  have h6 : (((g a b).1.head : Int) != (b : Int)) = false := by rw [h2.2]; simp
  have h7 : (((g a b).1.mid : Int) == 4294967295) = true := by rw [h3]; rfl
  have h8 : decide ((65536 : Int) ≤ (L.length : Int)) = true := by rw [decide_eq_true_iff]; omega
  obtain ⟨A, c, rfl, hc⟩ := hA.own.form
  clear h2 h3
  have HT := Lib.hid hT.call
  have HA := Lib.hid hA
  clear hT hA
  go_enter Try.func28, Try.ntmps28
  go_wp2_with fail
  refine (HT.out a b w ha hb hI).mono ?_
  rintro e w1 ⟨rfl, hb1⟩
  have HB1 := Lib.hid hb1
  clear HT hb1
  generalize (g a b).2 = er at *
  generalize (g a b).1 = x at *
  dsimp only [Edg.agg]
  subst h1
  have c1 : w1.cell? ⟨W, 0, none⟩ = some (.slice A L.length c) := cell_of_row _ _ 0 _ _ _ (HA.out.below HB1.out).row
  have hlt : W < w1.heap.size := (HA.out.below HB1.out).lt
  have c2 : ∀ o, (w1.alloc o).cell? ⟨W, 0, none⟩ = some (.slice A L.length c) := fun o => by rw [World.cell?_alloc_past _ _ _ hlt]; exact c1
  go_wp2_with fail
  go_ret2
  exact ⟨rfl, ((Keeps.refl _ _ _).below HB1.out).below ((Below.refl _ _).alloc (Nat.le_refl _) _)⟩
end Go.Proofs.Ytongpcfjfolfbaa
