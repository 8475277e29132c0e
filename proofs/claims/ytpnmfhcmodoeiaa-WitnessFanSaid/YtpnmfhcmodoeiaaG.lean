/- Words used by all walks: worlds after draws, slices that read as lists, endings. -/
import Derived.WalkKit
import Derived.Lib.Hide
import Derived.Deep.Draws
import Derived.Below
namespace Go.Proofs.Ytpnmfhcmodoeiaa
open Go.RowKit

/-- w' is w after some draws -/
def Drew (w w' : World) : Prop := ∃ n, w' = w.drewN n
theorem Drew.refl (w : World) : Drew w w := ⟨0, rfl⟩
theorem Drew.drewN {w w' : World} (h : Drew w w') (n : Nat) : Drew w (w'.drewN n) := by
  obtain ⟨m, rfl⟩ := h
  exact ⟨m + n, World.drewN_drewN _ _ _⟩
theorem Drew.drew {w w' : World} (h : Drew w w') : Drew w w'.drew := h.drewN 1
theorem Drew.trans {a b c : World} (h : Drew a b) (k : Drew b c) : Drew a c := by
  obtain ⟨m, rfl⟩ := k
  exact h.drewN m
theorem Drew.below {w w' : World} (h : Drew w w') (B : Nat) : Below B w w' := by
  obtain ⟨n, rfl⟩ := h
  exact ⟨rfl, rfl, rfl, Nat.le_refl _, fun _ _ => rfl⟩
theorem below_drewN {B : Nat} {a w : World} (h : Below B a w) (n : Nat) : Below B a (w.drewN n) := ⟨h.os, h.tape, h.output, h.size, h.block⟩
theorem Drew.cell {w w' : World} (h : Drew w w') (p : Addr) : w'.cell? p = w.cell? p := by
  obtain ⟨n, rfl⟩ := h
  rfl

theorem ret_bool {a b : Bool} (h : a = b) : Ending.returned (.bool a) = .returned (.bool b) := by rw [h]
theorem ret_int {k : IntKind} {a b : Int} (h : a = b) : Ending.returned (.int k a) = .returned (.int k b) := by rw [h]
theorem hide {p : Prop} (h : p) : Hid p := h
theorem unhide {p : Prop} (h : Hid p) : p := h

/-- a slice's address reads as a list of elements of sz cells each, below block B -/
structure SR {α : Type} (sz : Nat) (enc : α → List Value) (B : Nat) (w : World) (A : Option Addr) (l : List α) : Prop where
  len : l.length ≤ 4611686018427387904
  at_ : ∀ i (h : i < l.length), ∃ b o : Nat, A = some ⟨b, o, none⟩ ∧ b < B ∧ ∀ j v, (enc l[i])[j]? = some v → w.cell? ⟨b, o + i * sz + j, none⟩ = some v

section
variable {α : Type} {sz B B' : Nat} {enc : α → List Value} {w w' : World} {A : Option Addr} {l : List α}
theorem SR.keep (h : SR sz enc B w A l) (hk : ∀ p : Addr, p.block < B → w'.cell? p = w.cell? p) : SR sz enc B w' A l :=
  ⟨h.len, fun i hi => by
    obtain ⟨b, o, hA, hb, hc⟩ := h.at_ i hi
    exact ⟨b, o, hA, hb, fun j v hv => (hk _ hb).trans (hc j v hv)⟩⟩
theorem SR.below (h : SR sz enc B w A l) (hb : Below B w w') : SR sz enc B w' A l := h.keep fun _ hp => hb.cell hp
theorem SR.drew (h : SR sz enc B w A l) (hd : Drew w w') : SR sz enc B w' A l := h.keep fun p _ => hd.cell p
theorem SR.more (h : SR sz enc B w A l) (hB : B ≤ B') : SR sz enc B' w A l :=
  ⟨h.len, fun i hi => by obtain ⟨b, o, hA, hb, hr⟩ := h.at_ i hi; exact ⟨b, o, hA, by omega, hr⟩⟩
theorem SR.nil (sz : Nat) (enc : α → List Value) (B : Nat) (w : World) (A : Option Addr) : SR sz enc B w A [] := ⟨by simp, fun i h => by simp at h⟩
end
end Go.Proofs.Ytpnmfhcmodoeiaa
