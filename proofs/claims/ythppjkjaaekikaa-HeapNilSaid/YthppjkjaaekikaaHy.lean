/- Items, lists of items and steps among the arguments. -/
import Derived.Test.YthppjkjaaekikaaBd
import Derived.Test.YthppjkjaaekikaaOc
import Derived.Test.YthppjkjaaekikaaHc
namespace Go.Proofs.Ythppjkjaaekikaa
open Go.ChangeShapes Go.WideShapes Go.ChangeAt Go.RowKit Go.Deep

abbrev ILs := SR 2 Itm.enc
theorem item_cells : Try.prog.cellsOf 32 = 2 := by kernel_rfl
theorem item_dec {H : Type} {encT : TypeId × Value → H} {W : World} {b : Nat} {sp : Nat → Bool} {hd : Bool} (fuel : Nat) (cs' : List Value) (y : DataW H × List MemPlace)
    (h : DataW.trod encT Try.prog W b sp hd fuel 32 cs' = some y) : ∃ x : Itm, x.enc = cs' := by
  obtain ⟨xs, n, _, _, hlen, hxl, hf⟩ := DataW.trod_struct Try.underlying32 h
  rw [item_cells] at hlen
  match cs', hlen with
  | [c0, c1], _ =>
    match xs, hxl with
    | [y0, y1], _ =>
      have g0 := hf 0 _ rfl
      have g1 := hf 1 _ rfl
      obtain ⟨a0, e0, _, w0⟩ := DataW.trod_int Try.underlying29 g0
      obtain ⟨a1, e1, _, w1⟩ := DataW.trod_int Try.underlying30 g1
      obtain ⟨m0, rfl, b0⟩ := u64_bounds w0
      obtain ⟨m1, rfl, b1⟩ := u32_bounds w1
      have k1 : Try.prog.cellsOf 29 = 1 := by kernel_rfl
      have k2 : Try.prog.cellsOf 30 = 1 := by kernel_rfl
      refine ⟨⟨m0, m1, b0, b1⟩, ?_⟩
      simp [k1, k2] at e0 e1
      subst e0 e1
      rfl
theorem open_item {H : Type} {encT : TypeId × Value → H} {W : World} {r : Reach} {b0 : Nat} {v : Value} {d : DataW H} {p : List MemPlace} (hv : Value.okWide Try.prog W r b0 32 v)
    (h : DataW.Trod encT Try.prog W 0 (fun _ => true) true 32 v d p) (_ : ∀ x ∈ p, x.block < W.heap.size) : ∃ x : Itm, v = x.agg := by
  obtain ⟨cs, rfl, hsz⟩ := okWide_struct Try.underlying32 hv
  obtain ⟨fuel, hf⟩ := h
  obtain ⟨x, hx⟩ := item_dec fuel _ _ hf
  refine ⟨x, ?_⟩
  simp [Value.cells] at hx
  rw [Itm.agg]
  congr 1
  exact Array.toList_inj.1 hx.symm
theorem open_items {H : Type} {encT : TypeId × Value → H} {W : World} {v : Value} {d : DataW H} {p : List MemPlace} (hv : ∃ a len cap, v = .slice a len cap) (h : DataW.Trod encT Try.prog W 0 (fun _ => true) true 26 v d p) (hlt : ∀ x ∈ p, x.block < W.heap.size) :
    ∃ A len c, v = .slice A len c ∧ len ≤ maxLen ∧ (len ≤ 4611686018427387904 → ∃ l : List Itm, l.length = len ∧ ILs W.heap.size W A l) :=
  open_list Try.underlying26 item_cells (by omega) (fun _ => rfl) (fun f cs y h => item_dec f cs y h) hv h hlt

/-- a step: an item is pushed, or the least one popped -/
structure Stp where
  pop : Bool
  item : Itm
def Stp.enc (s : Stp) : List Value := [.bool s.pop, .int .u64 (s.item.key : Int), .int .u32 (s.item.id : Int)]
abbrev SLs := SR 3 Stp.enc
theorem step_cells : Try.prog.cellsOf 34 = 3 := by kernel_rfl
theorem step_dec {H : Type} {encT : TypeId × Value → H} {W : World} {b : Nat} {sp : Nat → Bool} {hd : Bool} (fuel : Nat) (cs' : List Value) (y : DataW H × List MemPlace)
    (h : DataW.trod encT Try.prog W b sp hd fuel 34 cs' = some y) : ∃ x : Stp, x.enc = cs' := by
  obtain ⟨xs, n, _, _, hlen, hxl, hf⟩ := DataW.trod_struct Try.underlying34 h
  rw [step_cells] at hlen
  match cs', hlen with
  | [c0, c1, c2], _ =>
    match xs, hxl with
    | [y0, y1], _ =>
      have g0 := hf 0 _ rfl
      have g1 := hf 1 _ rfl
      have k0 : Try.prog.cellsOf 4 = 1 := by kernel_rfl
      obtain ⟨a0, e0, _⟩ := DataW.trod_bool Try.underlying4 g0
      obtain ⟨x, hx⟩ := item_dec _ _ _ g1
      refine ⟨⟨a0, x⟩, ?_⟩
      simp [k0] at e0
      simp [Itm.enc, item_cells] at hx
      obtain ⟨rfl, rfl⟩ := hx
      subst e0
      rfl
theorem open_steps {H : Type} {encT : TypeId × Value → H} {W : World} {v : Value} {d : DataW H} {p : List MemPlace} (hv : ∃ a len cap, v = .slice a len cap) (h : DataW.Trod encT Try.prog W 0 (fun _ => true) true 22 v d p) (hlt : ∀ x ∈ p, x.block < W.heap.size) :
    ∃ A len c, v = .slice A len c ∧ len ≤ maxLen ∧ (len ≤ 4611686018427387904 → ∃ l : List Stp, l.length = len ∧ SLs W.heap.size W A l) :=
  open_list Try.underlying22 step_cells (by omega) (fun _ => rfl) (fun f cs y h => step_dec f cs y h) hv h hlt
/-- an item of a list in memory -/
theorem ILs.at' {B : Nat} {w : World} {A : Option Addr} {l : List Itm} (h : ILs B w A l) (i : Nat) (hi : i < l.length) :
    ∃ b o : Nat, A = some ⟨b, o, none⟩ ∧ b < B ∧ w.cell? ⟨b, o + i * 2, none⟩ = some (.int .u64 (l[i].key : Int)) ∧ w.cell? ⟨b, o + i * 2 + 1, none⟩ = some (.int .u32 (l[i].id : Int)) := by
  obtain ⟨b, o, hA, hb, hc⟩ := h.at_ i hi
  exact ⟨b, o, hA, hb, by simpa using hc 0 _ rfl, hc 1 _ rfl⟩
theorem SLs.at' {B : Nat} {w : World} {A : Option Addr} {l : List Stp} (h : SLs B w A l) (i : Nat) (hi : i < l.length) :
    ∃ b o : Nat, A = some ⟨b, o, none⟩ ∧ b < B ∧ w.cell? ⟨b, o + i * 3, none⟩ = some (.bool l[i].pop) ∧ w.cell? ⟨b, o + i * 3 + 1, none⟩ = some (.int .u64 (l[i].item.key : Int)) ∧ w.cell? ⟨b, o + i * 3 + 1 + 1, none⟩ = some (.int .u32 (l[i].item.id : Int)) := by
  obtain ⟨b, o, hA, hb, hc⟩ := h.at_ i hi
  exact ⟨b, o, hA, hb, by simpa using hc 0 _ rfl, hc 1 _ rfl, hc 2 _ rfl⟩
end Go.Proofs.Ythppjkjaaekikaa
