/- Where the reference's search stands in memory. -/
import Derived.Test.YtiiaeddbeohplaaRk
namespace Go.Proofs.Ytiiaeddbeohplaa
open Go.RowKit
/-- rows of two types are two -/
theorem OwnS.apart {α β : Type} {sz sz' : Nat} {enc : α → List Value} {enc' : β → List Value} {w : World} {base base' : Nat} {e e' : TypeId} {v v' : Value} {l : List α} {l' : List β} (h : OwnS w base e sz enc v l) (k : OwnS w base' e' sz' enc' v' l') (he : e ≠ e') : v.ownBlock = none ∨ v.ownBlock ≠ v'.ownBlock := by
  rcases h.2 with ⟨rfl, _⟩ | ⟨g, cap, cur, rfl, _, hh, _⟩
  · exact .inl rfl
  · right
    intro hb
    rcases k.2 with ⟨rfl, _⟩ | ⟨g', cap', cur', rfl, _, hh', _⟩
    · cases hb
    · have : g = g' := by simpa [Value.ownBlock] using hb
      subst this
      rw [hh] at hh'
      injection hh' with h1
      injection h1 with _ h2 _
      exact he h2
def vEnc : Nat → List Value := fun v => [Value.int .u32 (v : Int)]
abbrev OwnV (w : World) (base : Nat) (v : Value) (l : List Nat) : Prop := OwnS w base 26 1 vEnc v l
abbrev OwnR (w : World) (base : Nat) (v : Value) (l : List Rch) : Prop := OwnS w base 99 3 Rch.enc v l
abbrev OwnE (w : World) (base : Nat) (v : Value) (l : List Edg) : Prop := OwnS w base 43 4 Edg.enc v l
theorem v_info : (Try.prog.info? 26).map (fun i => (i.zero, i.size, i.bytes)) = some (some (.int .u32 0), 1, 4) := by kernel_rfl
theorem v_ety : Ety Try.prog 23 26 1 4 vEnc := by
  obtain ⟨i, hi, hz, hs, hb⟩ := info_parts v_info
  exact ⟨Try.underlying23, ⟨i, _, hi, hz, hs, hb, rfl⟩, by omega, fun _ => rfl, fun x u hu => by simp [vEnc] at hu; subst hu; rfl⟩
structure RSt (w0 w : World) (q : Value) (asked : List Nat) (a : Value) (l : List Rch) : Prop where
  ask : OwnV w w0.heap.size q asked
  row : OwnR w w0.heap.size a l
  low : Below w0.heap.size w0 w
section
variable {w0 w w1 : World} {q q' a a' x : Value} {asked asked' : List Nat} {l l' : List Rch} {L : List Edg}
theorem RSt.below (h : RSt w0 w q asked a l) (hb : Below w.heap.size w w1) : RSt w0 w1 q asked a l :=
  ⟨h.ask.below hb fun k hk => (h.ask.lt k hk).2, h.row.below hb fun k hk => (h.row.lt k hk).2, h.low.trans (hb.mono h.low.size)⟩
theorem RSt.come (h : RSt w0 w q asked a l) (hg : w.grownBy w1 a.ownBlock) (k : OwnR w1 w0.heap.size a' l') : RSt w0 w1 q asked a' l' :=
  ⟨h.ask.kept hg (h.ask.apart h.row (by decide)), k, h.low.grown hg h.low.size fun r hr => (h.row.lt r hr).1⟩
theorem RSt.asks (h : RSt w0 w q asked a l) (hg : w.grownBy w1 q.ownBlock) (k : OwnV w1 w0.heap.size q' asked') : RSt w0 w1 q' asked' a l :=
  ⟨k, h.row.kept hg (h.row.apart h.ask (by decide)), h.low.grown hg h.low.size fun r hr => (h.ask.lt r hr).1⟩
theorem own_e_come {base : Nat} (h : OwnE w base x L) (r : RSt w0 w q asked a l) (hg : w.grownBy w1 a.ownBlock) : OwnE w1 base x L := h.kept hg (h.apart r.row (by decide))
theorem own_vls {base : Nat} {A : Option Addr} {n c : Nat} {m : List Nat} (h : OwnV w base (.slice A n c) m) (hm : m.length ≤ 4611686018427387904) : VLs w.heap.size w A m := OwnS.sr (fun _ => rfl) h hm
end
end Go.Proofs.Ytiiaeddbeohplaa
