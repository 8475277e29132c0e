/- The contract of unpack's open, whole. -/
import Derived.Test.YtongpcfjfolfbaaUx
namespace Go.Proofs.Ytongpcfjfolfbaa
open Go.RowKit

theorem open_any (f : FuncId) (p : Value) (g : Nat → Nat → Edg × Int) (I : World → Prop) (hT : Tells f p g I) (W : Nat) (hS : Stays W I) : ∀ (k : Nat) (L : List Edg) (a b : Nat) (d : Int) (w : World) (v : Value),
    a < 4294967296 → b < 4294967296 → 0 ≤ d → d + k = 65536 → I w → At (mkWay (meth f p)) 65 W w v L →
    Calls Try.prog 27 #[.pointer (some ⟨W, 0, none⟩), .int .u32 (a : Int), .int .u32 (b : Int), .int .i64 d] w (OpensP (meth f p) W w v (openV g k L a b)) := by
  intro k
  induction k with
  | zero =>
    intro L a b d w v ha hb hd0 hd hI hA
    by_cases h1 : (g a b).2 = 0
    · by_cases h2 : (g a b).1.tail = a ∧ (g a b).1.head = b
      · by_cases h3 : (g a b).1.mid = 4294967295
        · by_cases h4 : L.length < 65536
          · exact open_leaf f p g I hT W 0 L a b d ha hb w hI v hA h1 h2 h3 h4
          · exact open_full f p g I hT W 0 L a b d ha hb w hI v hA h1 h2 h3 h4
        · exact open_deep f p g I hT W L a b d ha hb w hI v hA h1 h2 h3 (by omega)
      · exact open_ends f p g I hT W 0 L a b d ha hb w hI v hA h1 (by omega)
    · exact open_err f p g I hT W 0 L a b d ha hb w hI v hA h1
  | succ k ih =>
    intro L a b d w v ha hb hd0 hd hI hA
    by_cases h1 : (g a b).2 = 0
    · by_cases h2 : (g a b).1.tail = a ∧ (g a b).1.head = b
      · by_cases h3 : (g a b).1.mid = 4294967295
        · by_cases h4 : L.length < 65536
          · exact open_leaf f p g I hT W (k + 1) L a b d ha hb w hI v hA h1 h2 h3 h4
          · exact open_full f p g I hT W (k + 1) L a b d ha hb w hI v hA h1 h2 h3 h4
        · cases h4 : openV g k L a (g a b).1.mid with
          | bad er => exact open_bad1 f p g I hT W k L a b d ha hb w hI v hA h1 h2 h3 hS ih hd0 hd er h4
          | good one L1 =>
            have e1 : one < 18446744073709551616 := by rw [openV_weight h4]; exact (g a (g a b).1.mid).1.hweight
            cases h5 : openV g k L1 (g a b).1.mid b with
            | bad er => exact open_bad2 f p g I hT W k L a b d ha hb w hI v hA h1 h2 h3 hS ih hd0 hd er one L1 h4 h5
            | good two L2 =>
              have e2 : two < 18446744073709551616 := by rw [openV_weight h5]; exact (g (g a b).1.mid b).1.hweight
              cases h6 : fitsB one two with
              | false => exact open_rot1 f p g I hT W k L a b d ha hb w hI v hA h1 h2 h3 hS ih hd0 hd one two L1 L2 h4 h5 e1 e2 h6
              | true =>
                by_cases h7 : one + two = (g a b).1.weight
                · exact open_sum f p g I hT W k L a b d ha hb w hI v hA h1 h2 h3 hS ih hd0 hd one two L1 L2 h4 h5 e1 e2 ⟨h6, h7⟩
                · exact open_rot2 f p g I hT W k L a b d ha hb w hI v hA h1 h2 h3 hS ih hd0 hd one two L1 L2 h4 h5 e1 e2 ⟨h6, h7⟩
      · exact open_ends f p g I hT W (k + 1) L a b d ha hb w hI v hA h1 (by omega)
    · exact open_err f p g I hT W (k + 1) L a b d ha hb w hI v hA h1
end Go.Proofs.Ytongpcfjfolfbaa
