/- Nets and questions among the arguments. -/
import Derived.Test.YtpnmfhcmodoeiaaBd
import Derived.Test.YtpnmfhcmodoeiaaOc
import Derived.Test.YtpnmfhcmodoeiaaNt
import Derived.Deep.Strs
namespace Go.Proofs.Ytpnmfhcmodoeiaa
open Go.ChangeShapes Go.WideShapes Go.ChangeAt Go.RowKit Go.Deep

theorem edge_cells : Try.prog.cellsOf 67 = 4 := by kernel_rfl
set_option maxRecDepth 100000 in
theorem edge_dec {H : Type} {encT : TypeId × Value → H} {W : World} {b : Nat} {sp : Nat → Bool} {hd : Bool} (fuel : Nat) (cs' : List Value) (y : DataW H × List MemPlace)
    (h : DataW.trod encT Try.prog W b sp hd fuel 67 cs' = some y) : ∃ x : Edg, x.enc = cs' := by
  obtain ⟨xs, n, _, _, hlen, hxl, hf⟩ := DataW.trod_struct Try.underlying67 h
  rw [edge_cells] at hlen
  match cs', hlen with
  | [c0, c1, c2, c3], _ =>
    match xs, hxl with
    | [y0, y1, y2, y3], _ =>
      have g0 := hf 0 _ rfl
      have g1 := hf 1 _ rfl
      have g2 := hf 2 _ rfl
      have g3 := hf 3 _ rfl
      obtain ⟨a0, e0, _, w0⟩ := DataW.trod_int Try.underlying26 g0
      obtain ⟨a1, e1, _, w1⟩ := DataW.trod_int Try.underlying26 g1
      obtain ⟨a2, e2, _, w2⟩ := DataW.trod_int Try.underlying27 g2
      obtain ⟨a3, e3, _, w3⟩ := DataW.trod_int Try.underlying26 g3
      obtain ⟨m0, rfl, b0⟩ := u32_bounds w0
      obtain ⟨m1, rfl, b1⟩ := u32_bounds w1
      obtain ⟨m2, rfl, b2⟩ := u64_bounds w2
      obtain ⟨m3, rfl, b3⟩ := u32_bounds w3
      have k1 : Try.prog.cellsOf 26 = 1 := by kernel_rfl
      have k2 : Try.prog.cellsOf 27 = 1 := by kernel_rfl
      refine ⟨⟨m0, m1, m2, m3, b0, b1, b2, b3⟩, ?_⟩
      simp [k1, k2] at e0 e1 e2 e3
      subst e0 e1 e2 e3
      rfl
set_option maxRecDepth 100000 in
theorem open_edges {H : Type} {encT : TypeId × Value → H} {W : World} {v : Value} {d : DataW H} {p : List MemPlace} (hv : ∃ a len cap, v = .slice a len cap) (h : DataW.Trod encT Try.prog W 0 (fun _ => true) true 22 v d p) (hlt : ∀ x ∈ p, x.block < W.heap.size) :
    ∃ A len c, v = .slice A len c ∧ len ≤ maxLen ∧ (len ≤ 4611686018427387904 → ∃ l : List Edg, l.length = len ∧ ELs W.heap.size W A l) :=
  open_list Try.underlying22 edge_cells (by omega) (fun _ => rfl) (fun f cs y h => edge_dec f cs y h) hv h hlt
set_option maxRecDepth 100000 in
theorem v_dec {H : Type} {encT : TypeId × Value → H} {W : World} {b : Nat} {sp : Nat → Bool} {hd : Bool} (fuel : Nat) (cs' : List Value) (y : DataW H × List MemPlace)
    (h : DataW.trod encT Try.prog W b sp hd fuel 26 cs' = some y) : ∃ x : Nat, [Value.int .u32 (x : Int)] = cs' := by
  obtain ⟨a, e, _, w⟩ := DataW.trod_int Try.underlying26 h
  obtain ⟨m, rfl, _⟩ := u32_bounds w
  exact ⟨m, e.symm⟩
set_option maxRecDepth 100000 in
theorem open_verts {H : Type} {encT : TypeId × Value → H} {W : World} {v : Value} {d : DataW H} {p : List MemPlace} (hv : ∃ a len cap, v = .slice a len cap) (h : DataW.Trod encT Try.prog W 0 (fun _ => true) true 23 v d p) (hlt : ∀ x ∈ p, x.block < W.heap.size) :
    ∃ A len c, v = .slice A len c ∧ len ≤ maxLen ∧ (len ≤ 4611686018427387904 → ∃ l : List Nat, l.length = len ∧ VLs W.heap.size W A l) :=
  open_list (sz := 1) Try.underlying23 (by kernel_rfl) (by omega) (fun _ => rfl) (fun f cs y h => v_dec f cs y h) hv h hlt
set_option maxRecDepth 100000 in
theorem slice_is {H : Type} {encT : TypeId × Value → H} {W : World} {t e : TypeId} (ht : Try.prog.underlying t = some (.slice e)) {n : Nat} {v : Value} {y : DataW H × List MemPlace}
    (h : DataW.trod encT Try.prog W 0 (fun _ => true) true n t [v] = some y) : (∃ a len cap, v = .slice a len cap) ∧ DataW.Trod encT Try.prog W 0 (fun _ => true) true t v y.1 y.2 := by
  have hv : ∃ a len cap, v = .slice a len cap := by
    rcases open_slice ht h with ⟨hcs, _⟩ | ⟨a, len, cap, m, n', D, Pl, hcs, _⟩
    · exact ⟨none, 0, 0, by simpa using hcs⟩
    · exact ⟨some a, len, cap, by simpa using hcs⟩
  obtain ⟨a, len, cap, rfl⟩ := hv
  exact ⟨⟨a, len, cap, rfl⟩, n, by simpa [Value.cells] using h⟩
/-- three lists stand in memory as a net tells them -/
structure NetIn (W : World) (A A' A'' : Option Addr) (n n' n'' : Nat) : Prop where
  n0 : n ≤ maxLen
  n1 : n' ≤ maxLen
  n2 : n'' ≤ maxLen
  l0 : n ≤ 4611686018427387904 → ∃ l : List Edg, l.length = n ∧ ELs W.heap.size W A l
  l1 : n' ≤ 4611686018427387904 → ∃ l : List Nat, l.length = n' ∧ VLs W.heap.size W A' l
  l2 : n'' ≤ 4611686018427387904 → ∃ l : List Nat, l.length = n'' ∧ VLs W.heap.size W A'' l
set_option maxRecDepth 100000 in
theorem open_net {H : Type} {encT : TypeId × Value → H} {W : World} {r : Reach} {b0 : Nat} {v : Value} {d : DataW H} {p : List MemPlace} (hv : Value.okWide Try.prog W r b0 25 v)
    (h : DataW.Trod encT Try.prog W 0 (fun _ => true) true 25 v d p) (hlt : ∀ x ∈ p, x.block < W.heap.size) :
    ∃ (A A' A'' : Option Addr) (n c n' c' n'' c'' : Nat), v = .agg #[.slice A n c, .slice A' n' c', .slice A'' n'' c''] ∧ NetIn W A A' A'' n n' n'' := by
  obtain ⟨cs, rfl, hsz⟩ := okWide_struct Try.underlying25 hv
  obtain ⟨fuel, hf⟩ := h
  obtain ⟨y0, y1, y2, n, hx, hlen, h0, h1, h2⟩ := trod_struct3 Try.underlying25 hf
  have hC : Try.prog.cellsOf 25 = 3 := by kernel_rfl
  have k0 : Try.prog.cellsOf 22 = 1 := by kernel_rfl
  have k1 : Try.prog.cellsOf 23 = 1 := by kernel_rfl
  rw [hC] at hsz
  obtain ⟨v0, v1, v2, rfl⟩ : ∃ v0 v1 v2, cs = #[v0, v1, v2] := by
    match cs, hsz with
    | ⟨[c0, c1, c2]⟩, _ => exact ⟨c0, c1, c2, rfl⟩
  simp [Value.cells, k0, k1] at h0 h1 h2
  have hp : p = y0.2 ++ (y1.2 ++ y2.2) := by simp only [Prod.mk.injEq] at hx; simpa using hx.2
  obtain ⟨e0, t0⟩ := slice_is Try.underlying22 h0
  obtain ⟨e1, t1⟩ := slice_is Try.underlying23 h1
  obtain ⟨e2, t2⟩ := slice_is Try.underlying23 h2
  obtain ⟨A, m, c, rfl, a1, a2⟩ := open_edges e0 t0 (fun x hx => hlt x (by rw [hp]; simp [hx]))
  obtain ⟨A', m', c', rfl, b1, b2⟩ := open_verts e1 t1 (fun x hx => hlt x (by rw [hp]; simp [hx]))
  obtain ⟨A'', m'', c'', rfl, d1, d2⟩ := open_verts e2 t2 (fun x hx => hlt x (by rw [hp]; simp [hx]))
  exact ⟨A, A', A'', m, c, m', c', m'', c'', rfl, a1, b1, d1, a2, b2, d2⟩
set_option maxRecDepth 100000 in
theorem open_ask {H : Type} {encT : TypeId × Value → H} {W : World} {r : Reach} {b0 : Nat} {v : Value} {d : DataW H} {p : List MemPlace} (hv : Value.okWide Try.prog W r b0 29 v)
    (h : DataW.Trod encT Try.prog W 0 (fun _ => true) true 29 v d p) (_ : ∀ x ∈ p, x.block < W.heap.size) :
    ∃ src to most : Nat, v = .agg #[.int .u32 (src : Int), .int .u32 (to : Int), .int .u64 (most : Int)] ∧ src < 4294967296 ∧ to < 4294967296 ∧ most < 18446744073709551616 := by
  obtain ⟨cs, rfl, hsz⟩ := okWide_struct Try.underlying29 hv
  obtain ⟨fuel, hf⟩ := h
  obtain ⟨y0, y1, y2, n, hx, hlen, h0, h1, h2⟩ := trod_struct3 Try.underlying29 hf
  have hC : Try.prog.cellsOf 29 = 3 := by kernel_rfl
  have k0 : Try.prog.cellsOf 26 = 1 := by kernel_rfl
  have k1 : Try.prog.cellsOf 27 = 1 := by kernel_rfl
  rw [hC] at hsz
  obtain ⟨v0, v1, v2, rfl⟩ : ∃ v0 v1 v2, cs = #[v0, v1, v2] := by
    match cs, hsz with
    | ⟨[c0, c1, c2]⟩, _ => exact ⟨c0, c1, c2, rfl⟩
  simp [Value.cells, k0, k1] at h0 h1 h2
  obtain ⟨a0, e0, _, w0⟩ := DataW.trod_int Try.underlying26 h0
  obtain ⟨a1, e1, _, w1⟩ := DataW.trod_int Try.underlying26 h1
  obtain ⟨a2, e2, _, w2⟩ := DataW.trod_int Try.underlying27 h2
  obtain ⟨m0, rfl, b0⟩ := u32_bounds w0
  obtain ⟨m1, rfl, b1⟩ := u32_bounds w1
  obtain ⟨m2, rfl, b2⟩ := u64_bounds w2
  refine ⟨m0, m1, m2, ?_, b0, b1, b2⟩
  simp at e0 e1 e2
  rw [e0, e1, e2]
end Go.Proofs.Ytpnmfhcmodoeiaa
