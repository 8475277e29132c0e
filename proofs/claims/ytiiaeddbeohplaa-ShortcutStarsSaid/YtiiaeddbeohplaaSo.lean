/- Stars among the arguments. -/
import Derived.Test.YtiiaeddbeohplaaSb
import Derived.Test.YtiiaeddbeohplaaW7
import Derived.Test.YtiiaeddbeohplaaNo
namespace Go.Proofs.Ytiiaeddbeohplaa
open Go.ChangeShapes Go.WideShapes Go.ChangeAt Go.RowKit Go.Deep
set_option maxRecDepth 100000 in
theorem x_dec {H : Type} {encT : TypeId × Value → H} {W : World} {b : Nat} {sp : Nat → Bool} {hd : Bool} (fuel : Nat) (cs' : List Value) (y : DataW H × List MemPlace)
    (h : DataW.trod encT Try.prog W b sp hd fuel 41 cs' = some y) : ∃ x : W64, [Value.int .u64 (x.1 : Int)] = cs' := by
  obtain ⟨a, e, _, w⟩ := DataW.trod_int Try.underlying41 h
  obtain ⟨m, rfl, hm⟩ := u64_bounds w
  exact ⟨⟨m, hm⟩, e.symm⟩
set_option maxRecDepth 100000 in
theorem open_ws {H : Type} {encT : TypeId × Value → H} {W : World} {v : Value} {d : DataW H} {p : List MemPlace} (hv : ∃ a len cap, v = .slice a len cap) (h : DataW.Trod encT Try.prog W 0 (fun _ => true) true 49 v d p) (hlt : ∀ x ∈ p, x.block < W.heap.size) :
    ∃ A len c, v = .slice A len c ∧ len ≤ maxLen ∧ (len ≤ 4611686018427387904 → ∃ l : List W64, l.length = len ∧ XLs W.heap.size W A l) :=
  open_list (sz := 1) Try.underlying49 (by kernel_rfl) (by omega) (fun _ => rfl) (fun f cs y h => x_dec f cs y h) hv h hlt
/-- the weights of a star stand in memory -/
structure StarIn (W : World) (A A' : Option Addr) (n n' : Nat) : Prop where
  n0 : n ≤ maxLen
  n1 : n' ≤ maxLen
  l0 : n ≤ 4611686018427387904 → ∃ l : List W64, l.length = n ∧ XLs W.heap.size W A l
  l1 : n' ≤ 4611686018427387904 → ∃ l : List W64, l.length = n' ∧ XLs W.heap.size W A' l
set_option maxRecDepth 100000 in
theorem open_star {H : Type} {encT : TypeId × Value → H} {W : World} {r : Reach} {b0 : Nat} {v : Value} {d : DataW H} {p : List MemPlace} (hv : Value.okWide Try.prog W r b0 52 v)
    (h : DataW.Trod encT Try.prog W 0 (fun _ => true) true 52 v d p) (hlt : ∀ x ∈ p, x.block < W.heap.size) :
    ∃ (A A' : Option Addr) (n c n' c' : Nat) (th : Bool) (x away : Nat), v = .agg #[.slice A n c, .slice A' n' c', .bool th, .int .u64 (x : Int), .int .u32 (away : Int)] ∧ StarIn W A A' n n' ∧ x < 18446744073709551616 ∧ away < 4294967296 := by
  obtain ⟨cs, rfl, hsz⟩ := okWide_struct Try.underlying52 hv
  obtain ⟨fuel, hf⟩ := h
  obtain ⟨xs, n, _, hx, hlen, hxl, hf⟩ := DataW.trod_struct Try.underlying52 hf
  have hC : Try.prog.cellsOf 52 = 5 := by kernel_rfl
  have k0 : Try.prog.cellsOf 49 = 1 := by kernel_rfl
  have k1 : Try.prog.cellsOf 26 = 1 := by kernel_rfl
  have k2 : Try.prog.cellsOf 41 = 1 := by kernel_rfl
  have k3 : Try.prog.cellsOf 4 = 1 := by kernel_rfl
  rw [hC] at hsz
  obtain ⟨v0, v1, v2, v3, v4, rfl⟩ : ∃ v0 v1 v2 v3 v4, cs = #[v0, v1, v2, v3, v4] := by
    match cs, hsz with
    | ⟨[c0, c1, c2, c3, c4]⟩, _ => exact ⟨c0, c1, c2, c3, c4, rfl⟩
  match xs, hxl with
  | [y0, y1, y2, y3, y4], _ =>
    have h0 := hf 0 _ rfl
    have h1 := hf 1 _ rfl
    have h2 := hf 2 _ rfl
    have h3 := hf 3 _ rfl
    have h4 := hf 4 _ rfl
    simp [Value.cells, k0, k1, k2, k3] at h0 h1 h2 h3 h4
    have hp : p = y0.2 ++ (y1.2 ++ (y2.2 ++ (y3.2 ++ y4.2))) := by simp only [Prod.mk.injEq] at hx; simpa using hx.2
    obtain ⟨e0, t0⟩ := slice_is Try.underlying49 h0
    obtain ⟨A, m, c, rfl, a1, a2⟩ := open_ws e0 t0 (fun x hx => hlt x (by rw [hp]; simp [hx]))
    obtain ⟨e1, t1⟩ := slice_is Try.underlying49 h1
    obtain ⟨A', m', c', rfl, b1, b2⟩ := open_ws e1 t1 (fun x hx => hlt x (by rw [hp]; simp [hx]))
    obtain ⟨a2', e2, _⟩ := DataW.trod_bool Try.underlying4 h2
    obtain ⟨a3', e3, _, w3⟩ := DataW.trod_int Try.underlying41 h3
    obtain ⟨a4', e4, _, w4⟩ := DataW.trod_int Try.underlying26 h4
    obtain ⟨m3, rfl, b3⟩ := u64_bounds w3
    obtain ⟨m4, rfl, b4⟩ := u32_bounds w4
    simp at e2 e3 e4
    refine ⟨A, A', m, c, m', c', a2', m3, m4, by rw [e2, e3, e4], ⟨a1, b1, a2, b2⟩, b3, b4⟩
end Go.Proofs.Ytiiaeddbeohplaa
