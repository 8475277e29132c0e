/- ShortcutEdges, in plain words: the shortcuts of a star with one edge in, one out, and one between. -/
import Derived.Test.YtiiaeddbeohplaaSb
namespace Go.Proofs.Ytiiaeddbeohplaa
theorem zero_lt : 0 < 4294967296 := by omega
section
variable {out : Nat → List Edg × Int} {av : Nat → Bool} {to most n i : Nat} {l : List Rch}
theorem runL_none (h : nextTo l l.length = none) : runL out av to most (n + 1) l = ([], false, 0) := by unfold runL; rw [h]
theorem runL_far (h : nextTo l l.length = some i) (h2 : most < (rg l i).dist) : runL out av to most (n + 1) l = ([], false, 0) := by unfold runL; rw [h]; exact if_pos h2
theorem runL_ask (h : nextTo l l.length = some i) (h2 : ¬ most < (rg l i).dist) (h3 : (rg l i).v ≠ to) (h4 : (out (rg l i).v).2 = 0) : (runL out av to most (n + 1) l).2 = (runL out av to most n (relaxL av (rg l i).dist (out (rg l i).v).1 (mark l i))).2 := by
  conv => lhs; unfold runL
  rw [h]
  dsimp only
  rw [if_neg h2, if_neg h3, if_neg (fun e => e h4)]
end
theorem edge_out (a b w : W64) : starOut [a] [b] true w 1 = ([inE [a] 0, thE w], 0) := rfl
theorem edge_find (a b w : W64) (sum : Nat) (h : sum < w.1) : (findR (starOut [a] [b] true w) (shunB 0 (fun v => v == 4294967295)) 1 101 sum).2 = (false, 0) := by
  unfold findR
  rw [runL_ask (n := 15) (i := 0) (by rfl) (by show ¬ sum < 0; omega) (by show (1 : Nat) ≠ 101; omega) (by rfl)]
  have e : (starOut [a] [b] true w (rg [⟨1, 0, false⟩] 0).v).1 = [inE [a] 0, thE w] := rfl
  rw [e]
  have m : mark [⟨1, 0, false⟩] 0 = [⟨1, 0, true⟩] := rfl
  rw [m]
  have d : (rg [⟨1, 0, false⟩] 0).dist = 0 := rfl
  rw [d]
  have r1 : relaxL1 (shunB 0 (fun v => v == 4294967295)) 0 [⟨1, 0, true⟩] (inE [a] 0) = [⟨1, 0, true⟩] := by
    unfold relaxL1
    have : (shunB 0 (fun v => v == 4294967295)) (inE [a] 0).head = true := rfl
    rw [this, Bool.not_true, Bool.and_false]
    rfl
  have r2 : relaxL (shunB 0 (fun v => v == 4294967295)) 0 [inE [a] 0, thE w] [⟨1, 0, true⟩] = relaxL1 (shunB 0 (fun v => v == 4294967295)) 0 [⟨1, 0, true⟩] (thE w) := by
    show relaxL1 _ 0 (relaxL1 _ 0 [⟨1, 0, true⟩] (inE [a] 0)) (thE w) = _
    rw [r1]
  rw [r2]
  unfold relaxL1
  have s : (shunB 0 (fun v => v == 4294967295)) (thE w).head = false := rfl
  rw [s, Bool.not_false, Bool.and_true]
  cases hf : fitsB 0 (thE w).weight with
  | false =>
    rw [if_neg (by decide), runL_none (n := 14) (by rfl)]
  | true =>
    rw [if_pos rfl]
    have c : comeL [⟨1, 0, true⟩] (thE w).head (0 + (thE w).weight) = [⟨1, 0, true⟩, ⟨101, 0 + w.1, false⟩] := rfl
    rw [c, runL_far (n := 14) (i := 1) (by rfl) (by show sum < 0 + w.1; omega)]
theorem edges_pairs (a b w : W64) : pairsOf (starIn [a] [b] true w 0).1 (starOut [a] [b] true w 0).1 0 = [(inE [a] 0, outE [b] 0)] := rfl
theorem edges_make (a b w : W64) : makeR (starOut [a] [b] true w) (starIn [a] [b] true w) (fun v => v == 4294967295) 0 zero_lt = goR (pairR (starOut [a] [b] true w) (fun v => v == 4294967295) 0 zero_lt) [(inE [a] 0, outE [b] 0)] [] := by
  unfold makeR
  rw [if_neg (fun h => h rfl), if_neg (fun h => h rfl), edges_pairs]
theorem edges_shun (a b : W64) : ¬ ((inE [a] 0).tail = (outE [b] 0).head ∨ shunB 0 (fun v => v == 4294967295) (inE [a] 0).tail = true ∨ shunB 0 (fun v => v == 4294967295) (outE [b] 0).head = true) := by
  rintro (h | h | h)
  · have h' : (1 : Nat) = 101 := h
    omega
  · have h' : false = true := h
    cases h'
  · have h' : false = true := h
    cases h'
theorem edges_far (a b w : W64) (h : fitsB a.1 b.1 = false) : makeR (starOut [a] [b] true w) (starIn [a] [b] true w) (fun v => v == 4294967295) 0 zero_lt = ([], 0) := by
  rw [edges_make, goR_no (pairR_far (edges_shun a b) h)]
  rfl
theorem edges_any (a b w : W64) (sum : Nat) : anyB (starOut [a] [b] true w (inE [a] 0).tail).1 (outE [b] 0).head sum = decide (w.1 ≤ sum) := by
  show ((inE [a] 0).head == 101 && decide ((inE [a] 0).weight ≤ sum) || ((thE w).head == 101 && decide ((thE w).weight ≤ sum) || false)) = _
  have h1 : ((inE [a] 0).head == 101) = false := rfl
  have h2 : ((thE w).head == 101) = true := rfl
  rw [h1, h2, Bool.false_and, Bool.false_or, Bool.true_and, Bool.or_false]
  rfl
theorem edges_near (a b w : W64) (h : fitsB a.1 b.1 = true) (h2 : w.1 ≤ sumV a.1 b.1) : makeR (starOut [a] [b] true w) (starIn [a] [b] true w) (fun v => v == 4294967295) 0 zero_lt = ([], 0) := by
  rw [edges_make, goR_no (pairR_edge (edges_shun a b) h rfl ((edges_any a b w _).trans (decide_eq_true h2)))]
  rfl
theorem edges_one (a b w : W64) (h : fitsB a.1 b.1 = true) (h2 : sumV a.1 b.1 < w.1) : makeR (starOut [a] [b] true w) (starIn [a] [b] true w) (fun v => v == 4294967295) 0 zero_lt = ([cutE (inE [a] 0) (outE [b] 0) 0 zero_lt], 0) := by
  have hf := edge_find a b w (sumV a.1 b.1) h2
  have hp : pairR (starOut [a] [b] true w) (fun v => v == 4294967295) 0 zero_lt (inE [a] 0) (outE [b] 0) = .yes (cutE (inE [a] 0) (outE [b] 0) 0 zero_lt) := by
    rw [pairR_find (edges_shun a b) h rfl ((edges_any a b w _).trans (decide_eq_false (by show ¬ w.1 ≤ sumV a.1 b.1; omega)))]
    have h1 : (findR (starOut [a] [b] true w) (shunB 0 (fun v => v == 4294967295)) (inE [a] 0).tail (outE [b] 0).head (sumV (inE [a] 0).weight (outE [b] 0).weight)).2 = (false, 0) := hf
    rw [h1]
    rfl
  rw [edges_make, goR_yes hp]
  rfl
end Go.Proofs.Ytiiaeddbeohplaa
