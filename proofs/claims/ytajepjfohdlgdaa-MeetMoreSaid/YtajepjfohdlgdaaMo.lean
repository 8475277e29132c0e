/- Slices of labels among the arguments. -/
import Derived.Test.YtajepjfohdlgdaaOp
import Derived.Test.YtajepjfohdlgdaaMr
namespace Go.Proofs.Ytajepjfohdlgdaa
open Go.ChangeShapes Go.WideShapes Go.ChangeAt Go.RowKit Go.Deep

theorem u32_bounds {n : Int} (h : (Lit.int .u32 n).wf = true) : ∃ m : Nat, n = m ∧ m < 4294967296 := by
  have := bounds_u32 h
  exact ⟨n.toNat, by omega, by omega⟩
theorem u64_bounds {n : Int} (h : (Lit.int .u64 n).wf = true) : ∃ m : Nat, n = m ∧ m < 18446744073709551616 := by
  have := bounds_u64 h
  exact ⟨n.toNat, by omega, by omega⟩

theorem label_cells : Try.prog.cellsOf 35 = 3 := by kernel_rfl
theorem label_dec {H : Type} {encT : TypeId × Value → H} {W : World} {b : Nat} {sp : Nat → Bool} {hd : Bool} (fuel : Nat) (cs' : List Value) (y : DataW H × List MemPlace)
    (h : DataW.trod encT Try.prog W b sp hd fuel 35 cs' = some y) : ∃ x : Lbl, x.enc = cs' := by
  obtain ⟨xs, n, _, _, hlen, hxl, hf⟩ := DataW.trod_struct Try.underlying35 h
  rw [label_cells] at hlen
  match cs', hlen with
  | [c0, c1, c2], _ =>
    match xs, hxl with
    | [y0, y1, y2], _ =>
      have g0 := hf 0 _ rfl
      have g1 := hf 1 _ rfl
      have g2 := hf 2 _ rfl
      obtain ⟨a0, e0, _, w0⟩ := DataW.trod_int Try.underlying26 g0
      obtain ⟨a1, e1, _, w1⟩ := DataW.trod_int Try.underlying26 g1
      obtain ⟨a2, e2, _, w2⟩ := DataW.trod_int Try.underlying25 g2
      obtain ⟨m0, rfl, b0⟩ := u32_bounds w0
      obtain ⟨m1, rfl, b1⟩ := u32_bounds w1
      obtain ⟨m2, rfl, b2⟩ := u64_bounds w2
      have k1 : Try.prog.cellsOf 26 = 1 := by kernel_rfl
      have k2 : Try.prog.cellsOf 25 = 1 := by kernel_rfl
      refine ⟨⟨m0, m1, m2, b0, b1, b2⟩, ?_⟩
      simp [k1, k2] at e0 e1 e2
      subst e0 e1 e2
      rfl

theorem open_labels {H : Type} {encT : TypeId × Value → H} {W : World} {v : Value} {d : DataW H} {p : List MemPlace} (hv : ∃ a len cap, v = .slice a len cap)
    (h : DataW.Trod encT Try.prog W 0 (fun _ => true) true 22 v d p) (hlt : ∀ x ∈ p, x.block < W.heap.size) :
    ∃ A len c, v = .slice A len c ∧ len ≤ maxLen ∧ (len ≤ 4611686018427387904 → ∃ l : List Lbl, l.length = len ∧ SL W.heap.size W A l) :=
  open_list Try.underlying22 label_cells (by omega) (fun _ => rfl) (fun fuel cs' y h => label_dec fuel cs' y h) hv h hlt
end Go.Proofs.Ytajepjfohdlgdaa
