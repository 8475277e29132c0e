/- Edges, lists of edges and shelves among the arguments. -/
import Derived.Test.YtongpcfjfolfbaaBd
import Derived.Test.YtongpcfjfolfbaaSf
namespace Go.Proofs.Ytongpcfjfolfbaa
open Go.ChangeShapes Go.WideShapes Go.ChangeAt Go.RowKit Go.Deep

theorem edge_cells : Try.prog.cellsOf 42 = 4 := by kernel_rfl
theorem edge_dec {H : Type} {encT : TypeId × Value → H} {W : World} {b : Nat} {sp : Nat → Bool} {hd : Bool} (fuel : Nat) (cs' : List Value) (y : DataW H × List MemPlace)
    (h : DataW.trod encT Try.prog W b sp hd fuel 42 cs' = some y) : ∃ x : Edg, x.enc = cs' := by
  obtain ⟨xs, n, _, _, hlen, hxl, hf⟩ := DataW.trod_struct Try.underlying42 h
  rw [edge_cells] at hlen
  match cs', hlen with
  | [c0, c1, c2, c3], _ =>
    match xs, hxl with
    | [y0, y1, y2, y3], _ =>
      have g0 := hf 0 _ rfl
      have g1 := hf 1 _ rfl
      have g2 := hf 2 _ rfl
      have g3 := hf 3 _ rfl
      obtain ⟨a0, e0, _, w0⟩ := DataW.trod_int Try.underlying25 g0
      obtain ⟨a1, e1, _, w1⟩ := DataW.trod_int Try.underlying25 g1
      obtain ⟨a2, e2, _, w2⟩ := DataW.trod_int Try.underlying37 g2
      obtain ⟨a3, e3, _, w3⟩ := DataW.trod_int Try.underlying25 g3
      obtain ⟨m0, rfl, b0⟩ := u32_bounds w0
      obtain ⟨m1, rfl, b1⟩ := u32_bounds w1
      obtain ⟨m2, rfl, b2⟩ := u64_bounds w2
      obtain ⟨m3, rfl, b3⟩ := u32_bounds w3
      have k1 : Try.prog.cellsOf 25 = 1 := by kernel_rfl
      have k2 : Try.prog.cellsOf 37 = 1 := by kernel_rfl
      refine ⟨⟨m0, m1, m2, m3, b0, b1, b2, b3⟩, ?_⟩
      simp [k1, k2] at e0 e1 e2 e3
      subst e0 e1 e2 e3
      rfl
theorem open_edge {H : Type} {encT : TypeId × Value → H} {W : World} {r : Reach} {b0 : Nat} {v : Value} {d : DataW H} {p : List MemPlace} (hv : Value.okWide Try.prog W r b0 42 v)
    (h : DataW.Trod encT Try.prog W 0 (fun _ => true) true 42 v d p) : ∃ x : Edg, v = x.agg := by
  obtain ⟨cs, rfl, hsz⟩ := okWide_struct Try.underlying42 hv
  obtain ⟨fuel, hf⟩ := h
  obtain ⟨x, hx⟩ := edge_dec fuel _ _ hf
  refine ⟨x, ?_⟩
  simp [Value.cells] at hx
  rw [Edg.agg]
  congr 1
  exact Array.toList_inj.1 hx.symm
theorem open_edges {H : Type} {encT : TypeId × Value → H} {W : World} {v : Value} {d : DataW H} {p : List MemPlace} (hv : ∃ a len cap, v = .slice a len cap) (h : DataW.Trod encT Try.prog W 0 (fun _ => true) true 27 v d p) (hlt : ∀ x ∈ p, x.block < W.heap.size) :
    ∃ A len c, v = .slice A len c ∧ len ≤ maxLen ∧ (len ≤ 4611686018427387904 → ∃ l : List Edg, l.length = len ∧ ELs W.heap.size W A l) :=
  open_list Try.underlying27 edge_cells (by omega) (fun _ => rfl) (fun f cs y h => edge_dec f cs y h) hv h hlt
theorem ent_cells : Try.prog.cellsOf 68 = 6 := by kernel_rfl
theorem ent_dec {H : Type} {encT : TypeId × Value → H} {W : World} {b : Nat} {sp : Nat → Bool} {hd : Bool} (fuel : Nat) (cs' : List Value) (y : DataW H × List MemPlace)
    (h : DataW.trod encT Try.prog W b sp hd fuel 68 cs' = some y) : ∃ x : Ent, x.enc = cs' := by
  obtain ⟨xs, n, _, _, hlen, hxl, hf⟩ := DataW.trod_struct Try.underlying68 h
  rw [ent_cells] at hlen
  match cs', hlen with
  | [c0, c1, c2, c3, c4, c5], _ =>
    match xs, hxl with
    | [y0, y1, y2], _ =>
      have g0 := hf 0 _ rfl
      have g1 := hf 1 _ rfl
      have g2 := hf 2 _ rfl
      obtain ⟨a0, e0, _, w0⟩ := DataW.trod_int Try.underlying25 g0
      obtain ⟨a1, e1, _, w1⟩ := DataW.trod_int Try.underlying25 g1
      obtain ⟨x, hx⟩ := edge_dec _ _ _ g2
      obtain ⟨m0, rfl, b0⟩ := u32_bounds w0
      obtain ⟨m1, rfl, b1⟩ := u32_bounds w1
      have k1 : Try.prog.cellsOf 25 = 1 := by kernel_rfl
      refine ⟨⟨m0, m1, x, b0, b1⟩, ?_⟩
      simp [k1] at e0 e1
      have k2 : Try.prog.cellsOf 42 = 4 := edge_cells
      simp [Edg.enc, k2] at hx
      obtain ⟨rfl, rfl, rfl, rfl⟩ := hx
      subst e0 e1
      rfl
theorem open_ents {H : Type} {encT : TypeId × Value → H} {W : World} {v : Value} {d : DataW H} {p : List MemPlace} (hv : ∃ a len cap, v = .slice a len cap) (h : DataW.Trod encT Try.prog W 0 (fun _ => true) true 22 v d p) (hlt : ∀ x ∈ p, x.block < W.heap.size) :
    ∃ A len c, v = .slice A len c ∧ len ≤ maxLen ∧ (len ≤ 4611686018427387904 → ∃ l : List Ent, l.length = len ∧ EnLs W.heap.size W A l) :=
  open_list Try.underlying22 ent_cells (by omega) (fun _ => rfl) (fun f cs y h => ent_dec f cs y h) hv h hlt
theorem open_shelf {H : Type} {encT : TypeId × Value → H} {W : World} {r : Reach} {b0 : Nat} {v : Value} {d : DataW H} {p : List MemPlace} (hv : Value.okWide Try.prog W r b0 24 v)
    (h : DataW.Trod encT Try.prog W 0 (fun _ => true) true 24 v d p) (hlt : ∀ x ∈ p, x.block < W.heap.size) :
    ∃ (A : Option Addr) (n c : Nat), v = .agg #[.slice A n c] ∧ n ≤ maxLen ∧ (n ≤ 4611686018427387904 → ∃ l : List Ent, l.length = n ∧ EnLs W.heap.size W A l) := by
  obtain ⟨cs, rfl, hsz⟩ := okWide_struct Try.underlying24 hv
  obtain ⟨fuel, hf⟩ := h
  obtain ⟨y0, n, hx, hlen, h0⟩ := trod_struct1 Try.underlying24 hf
  have hC : Try.prog.cellsOf 24 = 1 := by kernel_rfl
  have hC2 : Try.prog.cellsOf 22 = 1 := by kernel_rfl
  rw [hC] at hsz
  obtain ⟨v0, hcs⟩ : ∃ v0, cs = #[v0] := by
    match cs, hsz with
    | ⟨[c0]⟩, _ => exact ⟨c0, rfl⟩
  subst hcs
  simp [Value.cells, hC2] at h0
  have hp : p = y0.2 := by simp only [Prod.mk.injEq] at hx; exact hx.2
  have hv0 : ∃ a len cap, v0 = .slice a len cap := by
    rcases open_slice Try.underlying22 h0 with ⟨hcs, _⟩ | ⟨a, len, cap, m, n', D, Pl, hcs, _⟩
    · exact ⟨none, 0, 0, by simpa using hcs⟩
    · exact ⟨some a, len, cap, by simpa using hcs⟩
  obtain ⟨a, len, cap, rfl⟩ := hv0
  obtain ⟨A, n2, c2, e, h1, h2⟩ := open_ents (d := y0.1) (p := y0.2) ⟨_, _, _, rfl⟩ ⟨n, by simpa [Value.cells] using h0⟩ (fun x hx => hlt x (by rw [hp]; exact hx))
  injection e with e1 e2 e3
  subst e1 e2 e3
  exact ⟨a, len, cap, rfl, h1, h2⟩
end Go.Proofs.Ytongpcfjfolfbaa
