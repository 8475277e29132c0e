/- The contracts of the document's open and Way, whole. -/
import Derived.Test.YtongpcfjfolfbaaRx
import Derived.Test.YtongpcfjfolfbaaUz
namespace Go.Proofs.Ytongpcfjfolfbaa
open Go.RowKit

theorem ropen_any (p : Value) (g : Nat → Nat → Edg × Int) (I : World → Prop) (hT : Tells fFirst p g I) (W : Nat) (hS : Stays W I) : ∀ (k : Nat) (L : List Edg) (a b : Nat) (d : Int) (w : World) (v : Value),
    a < 4294967296 → b < 4294967296 → 0 ≤ d → d + k = 65536 → I w → At mkOp 71 W w v L →
    Calls Try.prog 28 #[.pointer (some ⟨W, 0, none⟩), p, .int .u32 (a : Int), .int .u32 (b : Int), .int .i64 d] w (OpensR W w v (openV g k L a b)) := by
  intro k
  induction k with
  | zero =>
    intro L a b d w v ha hb hd0 hd hI hA
    by_cases h1 : (g a b).2 = 0
    · by_cases h2 : (g a b).1.tail = a ∧ (g a b).1.head = b
      · by_cases h3 : (g a b).1.mid = 4294967295
        · by_cases h4 : L.length < 65536
          · exact ropen_leaf p g I hT W 0 L a b d ha hb w hI v hA h1 h2 h3 h4
          · exact ropen_full p g I hT W 0 L a b d ha hb w hI v hA h1 h2 h3 h4
        · exact ropen_deep p g I hT W L a b d ha hb w hI v hA h1 h2 h3 (by omega)
      · exact ropen_ends p g I hT W 0 L a b d ha hb w hI v hA h1 (by omega)
    · exact ropen_err p g I hT W 0 L a b d ha hb w hI v hA h1
  | succ k ih =>
    intro L a b d w v ha hb hd0 hd hI hA
    by_cases h1 : (g a b).2 = 0
    · by_cases h2 : (g a b).1.tail = a ∧ (g a b).1.head = b
      · by_cases h3 : (g a b).1.mid = 4294967295
        · by_cases h4 : L.length < 65536
          · exact ropen_leaf p g I hT W (k + 1) L a b d ha hb w hI v hA h1 h2 h3 h4
          · exact ropen_full p g I hT W (k + 1) L a b d ha hb w hI v hA h1 h2 h3 h4
        · cases h4 : openV g k L a (g a b).1.mid with
          | bad er => exact ropen_bad1 p g I hT W k L a b d ha hb w hI v hA h1 h2 h3 hS ih hd0 hd er h4
          | good one L1 =>
            cases h5 : openV g k L1 (g a b).1.mid b with
            | bad er => exact ropen_bad2 p g I hT W k L a b d ha hb w hI v hA h1 h2 h3 hS ih hd0 hd er one L1 h4 h5
            | good two L2 =>
              cases h6 : fitsB one two with
              | false => exact ropen_rot1 p g I hT W k L a b d ha hb w hI v hA h1 h2 h3 hS ih hd0 hd one two L1 L2 h4 h5 h6
              | true =>
                by_cases h7 : one + two = (g a b).1.weight
                · exact ropen_sum p g I hT W k L a b d ha hb w hI v hA h1 h2 h3 hS ih hd0 hd one two L1 L2 h4 h5 ⟨h6, h7⟩
                · exact ropen_rot2 p g I hT W k L a b d ha hb w hI v hA h1 h2 h3 hS ih hd0 hd one two L1 L2 h4 h5 ⟨h6, h7⟩
      · exact ropen_ends p g I hT W (k + 1) L a b d ha hb w hI v hA h1 (by omega)
    · exact ropen_err p g I hT W (k + 1) L a b d ha hb w hI v hA h1

theorem refWay_any (p : Value) (g : Nat → Nat → Edg × Int) (I : World → Prop) (hT : Tells fFirst p g I) (a b : Nat) (ha : a < 4294967296) (hb : b < 4294967296) (w : World) (hI : I w) (hS : Stays w.heap.size I) :
    Calls Try.prog 15 #[p, .int .u32 (a : Int), .int .u32 (b : Int)] w (WayTold w (openV g 65536 [] a b)) := by
  have hA : At mkOp 71 w.heap.size (w.alloc (.cells #[.slice none 0 0] 71)) (.slice none 0 0) [] := ⟨heap_alloc_new w _, OwnS.nil _ _ _ _ _⟩
  have hbw : Below w.heap.size w (w.alloc (.cells #[.slice none 0 0] 71)) := (Below.refl _ _).alloc (Nat.le_refl _) _
  have HO := Lib.hid (ropen_any p g I hT w.heap.size hS 65536 [] a b 0 _ _ ha hb (by omega) (by omega) (hS _ _ hI fun b hb => hbw.block b hb) hA)
  have HA := Lib.hid hA
  have HB := Lib.hid hbw
  clear hA hbw
  cases h : openV g 65536 [] a b with
  | bad er =>
    rw [h] at HO
    have hz : (er != 0) = true := by simpa using openV_bad_ne h
    clear h
    go_enter Try.func15, Try.ntmps15
    go_wp2_with fail
    refine HO.out.mono ?_
    rintro e w2 ⟨he, hk⟩
    unfold noR at he
    subst he
    have HK := Lib.hid hk
    clear hk
    go_wp2_with fail
    go_ret2
    exact ⟨none, 0, rfl, SR.nil _ _ _ _ _, HB.out.trans (keeps_below HA.out HK.out (Nat.le_refl _))⟩
  | good wt M =>
    have hM := (openV_right g 65536 [] a b wt M (by simp) h).1
    rw [h] at HO
    clear h
    go_enter Try.func15, Try.ntmps15
    go_wp2_with fail
    refine HO.out.mono ?_
    rintro e w2 ⟨he, hk, v', hA2, hv⟩
    unfold okR at he
    subst he
    obtain ⟨A, c, rfl, hc⟩ := hA2.own.form
    have c0 : w2.cell? ⟨w.heap.size, 0, none⟩ = some (.slice A M.length c) := cell_of_row _ _ 0 _ _ _ hA2.row
    have HK := Lib.hid hk
    have HA2 := Lib.hid hA2
    clear hk hA2 hv
    go_wp2_with fail
    go_ret2
    exact ⟨A, c, rfl, own_els HA2.out.own (Nat.le_trans hM (by omega)), HB.out.trans (keeps_below HA.out HK.out (Nat.le_refl _))⟩
end Go.Proofs.Ytongpcfjfolfbaa
