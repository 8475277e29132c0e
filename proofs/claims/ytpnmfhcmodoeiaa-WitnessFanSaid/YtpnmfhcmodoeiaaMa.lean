/- Maps of the call's own, from vertices to distances, and sets of vertices: as functions. -/
import Derived.Test.YtpnmfhcmodoeiaaRows
import Derived.Test.YtpnmfhcmodoeiaaG
import Derived.Maps.OwnSet
import Derived.Maps.OwnOps
import Derived.Maps.Own
import Derived.WalkArith
namespace Go.Proofs.Ytpnmfhcmodoeiaa
open Go.RowKit Go.Maps

theorem vkey_law : Keyed Try.prog 26 := int_keyed Try.underlying26
/-- a vertex as a key -/
def vk (v : Nat) : Lit := .int .u32 (v : Int)
theorem vk_wf {v : Nat} (h : v < 4294967296) : (Lit.int .u32 (v : Int)).wf = true := WalkArith.wf_u32 (by omega)
theorem vk_key {v : Nat} (h : v < 4294967296) : keyOf Try.prog 26 (.int .u32 (v : Int)) = some (vk v) := keyOf_int_mk Try.underlying26 (vk_wf h)
theorem vk_ne {v u : Nat} (h : v ≠ u) : vk v ≠ vk u := by unfold vk; intro e; injection e with _ e; omega
theorem vk_lit (v : Nat) : WideAt.IsKeyLit (vk v) := trivial
def upd (f : Nat → Option Nat) (v d : Nat) : Nat → Option Nat := fun u => if u = v then some d else f u
def off (f : Nat → Option Nat) (v : Nat) : Nat → Option Nat := fun u => if u = v then none else f u
theorem upd_same (f : Nat → Option Nat) (v d : Nat) : upd f v d v = some d := if_pos rfl
theorem upd_other (f : Nat → Option Nat) {v u : Nat} (d : Nat) (h : u ≠ v) : upd f v d u = f u := if_neg h
theorem off_same (f : Nat → Option Nat) (v : Nat) : off f v v = none := if_pos rfl
theorem off_other (f : Nat → Option Nat) {v u : Nat} (h : u ≠ v) : off f v u = f u := if_neg h

/-- block b is a map from vertices to distances, of at most n entries, that reads as f -/
def FMap (w : World) (b n : Nat) (f : Nat → Option Nat) : Prop :=
  ∃ D : DataW Unit, w.ownsMap Try.prog 26 (plainElem Try.prog 27) b n D ∧
    (∀ v d, f v = some d → has D (vk v) = true ∧ (∀ z, D.atKey (vk v) z = .lit (.int .u64 (d : Int))) ∧ d < 18446744073709551616) ∧ ∀ v, f v = none → has D (vk v) = false
/-- block b is a set of vertices, of just n of them -/
def FSet (w : World) (b n : Nat) (s : Nat → Bool) : Prop :=
  ∃ D : DataW Unit, w.ownsMap Try.prog 26 unitElem b n D ∧ (∀ v, has D (vk v) = s v) ∧ size D = n
section
variable {w w' : World} {b n : Nat} {f : Nat → Option Nat} {s : Nat → Bool}
theorem FMap.lt (h : FMap w b n f) : b < w.heap.size := by obtain ⟨D, h, _⟩ := h; exact h.lt
theorem FSet.lt (h : FSet w b n s) : b < w.heap.size := by obtain ⟨D, h, _⟩ := h; exact h.lt
theorem FMap.made (w : World) : FMap (w.alloc (.map #[] 0)) w.heap.size 0 fun _ => none :=
  ⟨_, World.ownsMap_made _ _ _ _, (fun _ _ h => by simp at h), fun _ _ => rfl⟩
theorem FSet.made (w : World) : FSet (w.alloc (.map #[] 0)) w.heap.size 0 fun _ => false :=
  ⟨_, World.ownsMap_made _ _ _ _, fun _ => rfl, rfl⟩
theorem ownsMap_same {H : Type} {P : Program} {k : TypeId} {R : Value → Option (DataW H × List MemPlace)} {D : DataW H} (h : w.ownsMap P k R b n D) (hb : w'.heap[b]? = w.heap[b]?) : w'.ownsMap P k R b n D := by
  obtain ⟨es, clock, h1, r⟩ := h
  exact ⟨es, clock, hb.trans h1, r⟩
theorem FMap.same (h : FMap w b n f) (hb : w'.heap[b]? = w.heap[b]?) : FMap w' b n f := by obtain ⟨D, h, r⟩ := h; exact ⟨D, ownsMap_same h hb, r⟩
theorem FSet.same (h : FSet w b n s) (hb : w'.heap[b]? = w.heap[b]?) : FSet w' b n s := by obtain ⟨D, h, r⟩ := h; exact ⟨D, ownsMap_same h hb, r⟩
theorem FMap.below (h : FMap w b n f) (hb : Below w.heap.size w w') : FMap w' b n f := h.same (hb.block b h.lt)
theorem FSet.below (h : FSet w b n s) (hb : Below w.heap.size w w') : FSet w' b n s := h.same (hb.block b h.lt)
theorem FMap.no_cells (h : FMap w b n f) {cs : Array Value} {t : TypeId} {fr : Nat × Nat} (e : w.heap[b]? = some (.cells cs t fr)) : False := by
  obtain ⟨D, ⟨es, clock, h1, _⟩, _⟩ := h
  rw [h1] at e; cases e
theorem FSet.no_cells (h : FSet w b n s) {cs : Array Value} {t : TypeId} {fr : Nat × Nat} (e : w.heap[b]? = some (.cells cs t fr)) : False := by
  obtain ⟨D, ⟨es, clock, h1, _⟩, _⟩ := h
  rw [h1] at e; cases e
theorem zero64 (w : World) : (zeroValue 27).run Try.prog w = .ok (.int .u64 0) w := by kernel_rfl
theorem zeroUnit (w : World) : (zeroValue 79).run Try.prog w = .ok (.agg #[]) w := by kernel_rfl
/-- d, ok := m[v] -/
theorem FMap.look (h : FMap w b n f) {v : Nat} (hv : v < 4294967296) :
    (Instr.lookup 71 (.map (some b)) (.int .u32 (v : Int)) true).run Try.prog w = .ok (.tuple #[.int .u64 (((f v).getD 0 : Nat) : Int), .bool (f v).isSome]) w := by
  obtain ⟨D, h, hs, hn⟩ := h
  obtain ⟨x, ps, hrun, hR⟩ := h.look_ok vkey_law Try.underlying71 (zero64 w) (plainElem_int Try.underlying27 (by decide)) (vk_key hv)
  obtain ⟨c, rfl, hc, _⟩ := plainElem_int_inv Try.underlying27 hR
  rw [hrun]
  cases hf : f v with
  | none =>
    have h1 := hn v hf
    rw [atKey_of_not_has h1] at hc
    have e : c = 0 := by have := congrArg Prod.fst hc; simpa using this.symm
    rw [h1, e]
    rfl
  | some d =>
    obtain ⟨h1, h2, _⟩ := hs v d hf
    rw [h2] at hc
    have e : c = (d : Int) := by have := congrArg Prod.fst hc; simpa using this.symm
    rw [h1, e]
    rfl
/-- _, ok := s[v] -/
theorem FSet.look (h : FSet w b n s) {v : Nat} (hv : v < 4294967296) :
    (Instr.lookup 75 (.map (some b)) (.int .u32 (v : Int)) true).run Try.prog w = .ok (.tuple #[.agg #[], .bool (s v)]) w := by
  obtain ⟨D, h, hs, _⟩ := h
  obtain ⟨x, ps, hrun, hR⟩ := h.look_ok vkey_law Try.underlying75 (zeroUnit w) unitElem_mk (vk_key hv)
  obtain ⟨rfl, _⟩ := unitElem_inv hR
  rw [hrun, hs]
/-- m[v] = d -/
theorem FMap.store (h : FMap w b n f) (hn : n < 4611686018427387904) {v d : Nat} (hv : v < 4294967296) (hd : d < 18446744073709551616) :
    ∃ w', (Instr.mapUpdate 71 (.map (some b)) (.int .u32 (v : Int)) (.int .u64 (d : Int))).run Try.prog w = .ok () w' ∧ FMap w' b (n + 1) (upd f v d) ∧ w.grownBy w' (some b) := by
  obtain ⟨D, h, hs, ho⟩ := h
  obtain ⟨w', hrun, h1, h2⟩ := h.store vkey_law Try.underlying71 (by unfold maxLen; omega) (vk_key hv) (plainElem_int Try.underlying27 (a := (d : Int)) (WalkArith.wf_u64 (by omega)))
  refine ⟨w', hrun, ⟨_, h1, fun u e hu => ?_, fun u hu => ?_⟩, h2.grown⟩
  · by_cases huv : u = v
    · subst huv
      rw [upd_same] at hu
      injection hu with hu
      subst hu
      exact ⟨has_put_same h.isMap (vk_lit u) _, fun z => atKey_put_same h.isMap (vk_lit u) _ z, hd⟩
    · rw [upd_other f d huv] at hu
      obtain ⟨g1, g2, g3⟩ := hs u e hu
      exact ⟨by rw [has_put_other (vk_ne huv)]; exact g1, fun z => by rw [atKey_put_other (vk_ne huv)]; exact g2 z, g3⟩
  · by_cases huv : u = v
    · subst huv; rw [upd_same] at hu; cases hu
    · rw [upd_other f d huv] at hu
      rw [has_put_other (vk_ne huv)]
      exact ho u hu
/-- delete(m, v) -/
theorem FMap.drop (h : FMap w b n f) {v : Nat} (hv : v < 4294967296) (ty : TypeId) :
    ∃ w', (Builtin.delete_ #[71, 26] ty #[.map (some b), .int .u32 (v : Int)]).run Try.prog w = .ok (.tuple #[]) w' ∧ FMap w' b n (off f v) ∧ w.grownBy w' (some b) := by
  obtain ⟨D, h, hs, ho⟩ := h
  obtain ⟨w', hrun, h1, h2⟩ := h.drop vkey_law Try.underlying71 (vk_key hv) ty
  refine ⟨w', hrun, ⟨_, h1, fun u e hu => ?_, fun u hu => ?_⟩, h2.grown⟩
  · by_cases huv : u = v
    · subst huv; rw [off_same] at hu; cases hu
    · rw [off_other f huv] at hu
      obtain ⟨g1, g2, g3⟩ := hs u e hu
      exact ⟨by rw [has_del_other (vk_ne huv)]; exact g1, fun z => by rw [atKey_del_other (vk_ne huv)]; exact g2 z, g3⟩
  · by_cases huv : u = v
    · subst huv; exact has_del_same
    · rw [off_other f huv] at hu
      rw [has_del_other (vk_ne huv)]
      exact ho u hu
/-- s[v] = struct{}{} -/
theorem FSet.store (h : FSet w b n s) (hn : n < 4611686018427387904) {v : Nat} (hv : v < 4294967296) (hs : s v = false) :
    ∃ w', (Instr.mapUpdate 75 (.map (some b)) (.int .u32 (v : Int)) (.agg #[])).run Try.prog w = .ok () w' ∧ FSet w' b (n + 1) (fun u => if u = v then true else s u) ∧ w.grownBy w' (some b) := by
  obtain ⟨D, h, ho, hz⟩ := h
  obtain ⟨w', hrun, h1, h2⟩ := h.store vkey_law Try.underlying75 (by unfold maxLen; omega) (vk_key hv) unitElem_mk
  refine ⟨w', hrun, ⟨_, h1, fun u => ?_, ?_⟩, h2.grown⟩
  · by_cases huv : u = v
    · subst huv; show _ = (if u = u then true else s u); rw [if_pos rfl]; exact has_put_same h.isMap (vk_lit u) _
    · show _ = (if u = v then true else s u); rw [if_neg huv, has_put_other (vk_ne huv)]
      exact ho u
  · rw [size_put (h.tidy vkey_law), ho v, hs, hz]; rfl
/-- len(s) -/
theorem FSet.len (h : FSet w b n s) (ty : TypeId) : (Builtin.len_ #[75] ty #[.map (some b)]).run Try.prog w = .ok (.int .i64 (n : Int)) w := by
  obtain ⟨D, h, _, hz⟩ := h
  rw [h.len Try.underlying75 ty, hz]
end
end Go.Proofs.Ytpnmfhcmodoeiaa
