/- Items, lists of items and steps among the arguments. -/
import Derived.Test.YthppjkjaaekikaaBd
import Derived.Test.YthppjkjaaekikaaOc
import Derived.Test.YthppjkjaaekikaaHc
namespace Go.Proofs.Ythppjkjaaekikaa
open Go.ChangeShapes Go.WideShapes Go.ChangeAt Go.RowKit Go.Deep

abbrev ILs := SR 2 Itm.enc
theorem item_cells : Try.prog.cellsOf 32 = 2 := by kernel_rfl
theorem item_dec {H : Type} {encT : TypeId × Value → H} {W : World} {b : Nat} {sp : Nat → Bool} {hd : Bool} (fuel : Nat) (cs' : List Value) (y : DataW H × List MemPlace)
    (h : DataW.trod encT Try.prog W b sp hd fuel 32 cs' = some y) : ∃ x : Itm, x.enc = cs' := by
  obtain ⟨xs, n, _, _, hlen, hxl, hf⟩ := DataW.trod_struct Try.underlying32 h
  rw [item_cells] at hlen
  match cs', hlen with
  | [c0, c1], _ =>
    match xs, hxl with
    | [y0, y1], _ =>
      have g0 := hf 0 _ rfl
      have g1 := hf 1 _ rfl
      obtain ⟨a0, e0, _, w0⟩ := DataW.trod_int Try.underlying29 g0
      obtain ⟨a1, e1, _, w1⟩ := DataW.trod_int Try.underlying30 g1
      obtain ⟨m0, rfl, b0⟩ := u64_bounds w0
      obtain ⟨m1, rfl, b1⟩ := u32_bounds w1
      have k1 : Try.prog.cellsOf 29 = 1 := by kernel_rfl
      have k2 : Try.prog.cellsOf 30 = 1 := by kernel_rfl
      refine ⟨⟨m0, m1, b0, b1⟩, ?_⟩
      simp [k1, k2] at e0 e1
      subst e0 e1
      rfl
theorem open_item {H : Type} {encT : TypeId × Value → H} {W : World} {r : Reach} {b0 : Nat} {v : Value} {d : DataW H} {p : List MemPlace} (hv : Value.okWide Try.prog W r b0 32 v)
    (h : DataW.Trod encT Try.prog W 0 (fun _ => true) true 32 v d p) (_ : ∀ x ∈ p, x.block < W.heap.size) : ∃ x : Itm, v = x.agg := by
  obtain ⟨cs, rfl, hsz⟩ := okWide_struct Try.underlying32 hv
  obtain ⟨fuel, hf⟩ := h
  obtain ⟨x, hx⟩ := item_dec fuel _ _ hf
  refine ⟨x, ?_⟩
  simp [Value.cells] at hx
  rw [Itm.agg]
  congr 1
  exact Array.toList_inj.1 hx.symm
theorem open_items {H : Type} {encT : TypeId × Value → H} {W : World} {v : Value} {d : DataW H} {p : List MemPlace} (hv : ∃ a len cap, v = .slice a len cap) (h : DataW.Trod encT Try.prog W 0 (fun _ => true) true 26 v d p) (hlt : ∀ x ∈ p, x.block < W.heap.size) :
    ∃ A len c, v = .slice A len c ∧ len ≤ maxLen ∧ (len ≤ 4611686018427387904 → ∃ l : List Itm, l.length = len ∧ ILs W.heap.size W A l) :=
  open_list Try.underlying26 item_cells (by omega) (fun _ => rfl) (fun f cs y h => item_dec f cs y h) hv h hlt

/-- the first elements of a slice among the arguments, however long it is -/
theorem open_prefix {H : Type} {encT : TypeId × Value → H} {P : Program} {W : World} {α : Type} {sz : Nat} {enc : α → List Value} {t e : TypeId} (ht : P.underlying t = some (.slice e)) (hC : P.cellsOf e = sz) (hsz : 0 < sz) (hlen : ∀ x, (enc x).length = sz)
    (hdec : ∀ (fuel : Nat) (cs' : List Value) (y : DataW H × List MemPlace), DataW.trod encT P W 0 (fun _ => true) true fuel e cs' = some y → ∃ x : α, enc x = cs')
    {v : Value} {d : DataW H} {p : List MemPlace} (hv : ∃ a len cap, v = .slice a len cap) (h : DataW.Trod encT P W 0 (fun _ => true) true t v d p) (hlt : ∀ x ∈ p, x.block < W.heap.size) :
    ∃ A len c, v = .slice A len c ∧ len ≤ maxLen ∧ (∀ k, k ≤ len → k ≤ 4611686018427387904 → ∃ l : List α, l.length = k ∧ SR sz enc W.heap.size W A l) := by
  obtain ⟨a0, len0, cap0, rfl⟩ := hv
  obtain ⟨fuel, hf⟩ := h
  rcases open_slice ht hf with ⟨hcs, _⟩ | ⟨a, len, cap, m, n, D, Pl, hcs, _, hl, hm, hmm, hx, hi⟩
  · simp [Value.cells] at hcs
    obtain ⟨rfl, rfl, rfl⟩ := hcs
    exact ⟨none, 0, 0, rfl, Nat.zero_le _, fun k hk _ => ⟨[], by simp; omega, SR.nil _ _ _ _ _⟩⟩
  · simp [Value.cells] at hcs
    obtain ⟨rfl, rfl, rfl⟩ := hcs
    simp only [if_true] at hmm
    subst hmm
    refine ⟨_, _, _, rfl, Nat.le_trans hl hm, fun k hk hbig => ?_⟩
    rw [hC] at hi hx
    have hex : ∀ i, i < k → ∃ x : α, ∀ j u, (enc x)[j]? = some u → W.cell? (a.add (i * sz + j)) = some u := by
      intro i hil
      obtain ⟨cs', h1, h2⟩ := hi i (by omega)
      obtain ⟨x, hx⟩ := hdec _ _ _ h2
      obtain ⟨_, hcl, hat⟩ := World.cells?_some h1
      refine ⟨x, fun j u hu => ?_⟩
      have hj : j < sz := by rw [← hlen x]; exact (List.getElem?_eq_some_iff.1 hu).1
      have := hat j hj
      rw [Go.Deep.add_add] at this
      rw [this, ← hx]; exact hu
    obtain ⟨f, hf2⟩ := Classical.axiomOfChoice (fun i : {i // i < k} => hex i.1 i.2)
    refine ⟨(List.finRange k).map fun i => f ⟨i.1, i.2⟩, by simp, by simpa using hbig, fun i hi' => ?_⟩
    have hil : i < k := by simpa using hi'
    have hget : ((List.finRange k).map fun i => f ⟨i.1, i.2⟩)[i] = f ⟨i, hil⟩ := by simp
    obtain ⟨b, o, s⟩ := a
    have h0 := hf2 ⟨0, by omega⟩ 0 _ (List.getElem?_eq_getElem (by rw [hlen]; exact hsz))
    have hs : s = none := by
      have := World.cell?_spot h0
      simpa [Addr.add] using this
    subst hs
    have hadd : ∀ k, (⟨b, o, none⟩ : Addr).add k = ⟨b, o + k, none⟩ := fun k => by unfold Addr.add; split <;> simp_all
    have hbW : b < W.heap.size := hlt (.cell b o) (by
      simp only [Prod.mk.injEq] at hx
      rw [hx.2]
      exact List.mem_append_left _ (MemPlace.mem_row.2 ⟨0, Nat.mul_pos (by omega) hsz, by simp⟩))
    refine ⟨b, o, rfl, hbW, fun j u hu => ?_⟩
    rw [hget] at hu
    have := hf2 ⟨i, hil⟩ j u hu
    rwa [hadd, ← Nat.add_assoc] at this
/-- a step: an item is pushed, or the least one popped -/
structure Stp where
  pop : Bool
  item : Itm
def Stp.enc (s : Stp) : List Value := [.bool s.pop, .int .u64 (s.item.key : Int), .int .u32 (s.item.id : Int)]
abbrev SLs := SR 3 Stp.enc
theorem step_cells : Try.prog.cellsOf 34 = 3 := by kernel_rfl
theorem step_dec {H : Type} {encT : TypeId × Value → H} {W : World} {b : Nat} {sp : Nat → Bool} {hd : Bool} (fuel : Nat) (cs' : List Value) (y : DataW H × List MemPlace)
    (h : DataW.trod encT Try.prog W b sp hd fuel 34 cs' = some y) : ∃ x : Stp, x.enc = cs' := by
  obtain ⟨xs, n, _, _, hlen, hxl, hf⟩ := DataW.trod_struct Try.underlying34 h
  rw [step_cells] at hlen
  match cs', hlen with
  | [c0, c1, c2], _ =>
    match xs, hxl with
    | [y0, y1], _ =>
      have g0 := hf 0 _ rfl
      have g1 := hf 1 _ rfl
      have k0 : Try.prog.cellsOf 4 = 1 := by kernel_rfl
      obtain ⟨a0, e0, _⟩ := DataW.trod_bool Try.underlying4 g0
      obtain ⟨x, hx⟩ := item_dec _ _ _ g1
      refine ⟨⟨a0, x⟩, ?_⟩
      simp [k0] at e0
      simp [Itm.enc, item_cells] at hx
      obtain ⟨rfl, rfl⟩ := hx
      subst e0
      rfl
theorem open_steps {H : Type} {encT : TypeId × Value → H} {W : World} {v : Value} {d : DataW H} {p : List MemPlace} (hv : ∃ a len cap, v = .slice a len cap) (h : DataW.Trod encT Try.prog W 0 (fun _ => true) true 22 v d p) (hlt : ∀ x ∈ p, x.block < W.heap.size) :
    ∃ A len c, v = .slice A len c ∧ len ≤ maxLen ∧ (∀ k, k ≤ len → k ≤ 4611686018427387904 → ∃ l : List Stp, l.length = k ∧ SLs W.heap.size W A l) :=
  open_prefix Try.underlying22 step_cells (by omega) (fun _ => rfl) (fun f cs y h => step_dec f cs y h) hv h hlt
/-- an item of a list in memory -/
theorem ILs.at' {B : Nat} {w : World} {A : Option Addr} {l : List Itm} (h : ILs B w A l) (i : Nat) (hi : i < l.length) :
    ∃ b o : Nat, A = some ⟨b, o, none⟩ ∧ b < B ∧ w.cell? ⟨b, o + i * 2, none⟩ = some (.int .u64 (l[i].key : Int)) ∧ w.cell? ⟨b, o + i * 2 + 1, none⟩ = some (.int .u32 (l[i].id : Int)) := by
  obtain ⟨b, o, hA, hb, hc⟩ := h.at_ i hi
  exact ⟨b, o, hA, hb, by simpa using hc 0 _ rfl, hc 1 _ rfl⟩
theorem SLs.at' {B : Nat} {w : World} {A : Option Addr} {l : List Stp} (h : SLs B w A l) (i : Nat) (hi : i < l.length) :
    ∃ b o : Nat, A = some ⟨b, o, none⟩ ∧ b < B ∧ w.cell? ⟨b, o + i * 3, none⟩ = some (.bool l[i].pop) ∧ w.cell? ⟨b, o + i * 3 + 1, none⟩ = some (.int .u64 (l[i].item.key : Int)) ∧ w.cell? ⟨b, o + i * 3 + 1 + 1, none⟩ = some (.int .u32 (l[i].item.id : Int)) := by
  obtain ⟨b, o, hA, hb, hc⟩ := h.at_ i hi
  exact ⟨b, o, hA, hb, by simpa using hc 0 _ rfl, hc 1 _ rfl, hc 2 _ rfl⟩
end Go.Proofs.Ythppjkjaaekikaa
