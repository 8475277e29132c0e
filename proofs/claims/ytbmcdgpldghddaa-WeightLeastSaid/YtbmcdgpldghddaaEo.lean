/- Edges among the arguments. -/
import Derived.Test.YtbmcdgpldghddaaBd
import Derived.Test.YtbmcdgpldghddaaBt
namespace Go.Proofs.Ytbmcdgpldghddaa
open Go.ChangeShapes Go.WideShapes Go.ChangeAt Go.RowKit Go.Deep

theorem edge_cells : Try.prog.cellsOf 30 = 4 := by kernel_rfl
theorem edge_dec {H : Type} {encT : TypeId × Value → H} {W : World} {b : Nat} {sp : Nat → Bool} {hd : Bool} (fuel : Nat) (cs' : List Value) (y : DataW H × List MemPlace)
    (h : DataW.trod encT Try.prog W b sp hd fuel 30 cs' = some y) : ∃ x : Edg, x.enc = cs' := by
  obtain ⟨xs, n, _, _, hlen, hxl, hf⟩ := DataW.trod_struct Try.underlying30 h
  rw [edge_cells] at hlen
  match cs', hlen with
  | [c0, c1, c2, c3], _ =>
    match xs, hxl with
    | [y0, y1, y2, y3], _ =>
      have g0 := hf 0 _ rfl
      have g1 := hf 1 _ rfl
      have g2 := hf 2 _ rfl
      have g3 := hf 3 _ rfl
      obtain ⟨a0, e0, _, w0⟩ := DataW.trod_int Try.underlying23 g0
      obtain ⟨a1, e1, _, w1⟩ := DataW.trod_int Try.underlying23 g1
      obtain ⟨a2, e2, _, w2⟩ := DataW.trod_int Try.underlying22 g2
      obtain ⟨a3, e3, _, w3⟩ := DataW.trod_int Try.underlying23 g3
      obtain ⟨m0, rfl, b0⟩ := u32_bounds w0
      obtain ⟨m1, rfl, b1⟩ := u32_bounds w1
      obtain ⟨m2, rfl, b2⟩ := u64_bounds w2
      obtain ⟨m3, rfl, b3⟩ := u32_bounds w3
      have k1 : Try.prog.cellsOf 23 = 1 := by kernel_rfl
      have k2 : Try.prog.cellsOf 22 = 1 := by kernel_rfl
      refine ⟨⟨m0, m1, m2, m3, b0, b1, b2, b3⟩, ?_⟩
      simp [k1, k2] at e0 e1 e2 e3
      subst e0 e1 e2 e3
      rfl
theorem open_edge {H : Type} {encT : TypeId × Value → H} {W : World} {r : Reach} {b0 : Nat} {v : Value} {d : DataW H} {p : List MemPlace} (hv : Value.okWide Try.prog W r b0 30 v)
    (h : DataW.Trod encT Try.prog W 0 (fun _ => true) true 30 v d p) : ∃ x : Edg, v = x.agg := by
  obtain ⟨cs, rfl, hsz⟩ := okWide_struct Try.underlying30 hv
  obtain ⟨fuel, hf⟩ := h
  obtain ⟨x, hx⟩ := edge_dec fuel _ _ hf
  refine ⟨x, ?_⟩
  simp [Value.cells] at hx
  rw [Edg.agg]
  congr 1
  exact Array.toList_inj.1 hx.symm
end Go.Proofs.Ytbmcdgpldghddaa
