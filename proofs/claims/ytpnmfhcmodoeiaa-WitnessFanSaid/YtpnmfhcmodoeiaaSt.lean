/- Where a search stands in memory: its front, the vertices that are settled, the net that it asks. -/
import Derived.Test.YtpnmfhcmodoeiaaFr
import Derived.Test.YtpnmfhcmodoeiaaSr
namespace Go.Proofs.Ytpnmfhcmodoeiaa
open Go.RowKit

/-- edges that lie in blocks of N -/
structure ER (N : Nat → Prop) (w : World) (A : Option Addr) (l : List Edg) : Prop where
  len : l.length ≤ 4611686018427387904
  at_ : ∀ i (h : i < l.length), ∃ b o : Nat, A = some ⟨b, o, none⟩ ∧ N b ∧ w.cell? ⟨b, o + i * 4, none⟩ = some (.int .u32 (l[i].tail : Int)) ∧ w.cell? ⟨b, o + i * 4 + 1, none⟩ = some (.int .u32 (l[i].head : Int)) ∧
      w.cell? ⟨b, o + i * 4 + 2, none⟩ = some (.int .u64 (l[i].weight : Int)) ∧ w.cell? ⟨b, o + i * 4 + 3, none⟩ = some (.int .u32 (l[i].mid : Int))
/-- a net: the functions that tell its edges and whom it avoids, what they tell, and what must stand in memory -/
structure NetD where
  B : Nat
  fo : FuncId
  po : Array Value
  co : Array Value
  fa : FuncId
  pa : Array Value
  ca : Array Value
  out : Nat → List Edg × Int
  av : Nat → Bool
  P : List Nat → (Nat → Prop) → World → Prop
structure NetC (N : NetD) : Prop where
  enterO : ∀ (args : Array Value) (w : World), (callFunc N.fo args).run Try.prog w = .ok (.enter N.fo args) w
  enterA : ∀ (args : Array Value) (w : World), (callFunc N.fa args).run Try.prog w = .ok (.enter N.fa args) w
  ask : ∀ (v : Nat) (seen : List Nat) (O : Nat → Prop) (w : World), v < 4294967296 → seen.length < 1000 → N.P seen O w → N.B ≤ w.heap.size →
    Calls Try.prog N.fo (N.po.push (.int .u32 (v : Int)) ++ N.co) w fun e w' => ∃ A c O', e = .returned (.tuple #[.slice A (N.out v).1.length c, .int .i64 (N.out v).2]) ∧
      ER (fun b => w.heap.size ≤ b ∧ b < w'.heap.size ∧ ¬ O' b) w' A (N.out v).1 ∧ N.P (seen ++ [v]) O' w' ∧ Moves O O' w w'
  shun : ∀ (v : Nat) (seen : List Nat) (O : Nat → Prop) (w : World), v < 4294967296 → N.P seen O w → N.B ≤ w.heap.size →
    Calls Try.prog N.fa (N.pa.push (.int .u32 (v : Int)) ++ N.ca) w fun e w' => e = .returned (.bool (N.av v)) ∧ Below w.heap.size w w'
  stay : ∀ (seen : List Nat) (O : Nat → Prop) (w w' : World), N.P seen O w → (∀ b, (b < N.B ∨ O b) → w'.heap[b]? = w.heap[b]?) → N.P seen O w'
  lt : ∀ (seen : List Nat) (O : Nat → Prop) (w : World), N.P seen O w → ∀ b, O b → b < w.heap.size
/-- a front: what must stand in memory while r turns are still to be had, and c were come to -/
structure FrontD where
  lim : Nat
  G : Nat → Nat → Nat → (Nat → Option Nat) → (Nat → Prop) → World → Prop
structure FrontC (D : FrontD) : Prop where
  init : ∀ (F H M : Nat) (w : World), FrAt F H M 0 w (.slice none 0 0) [] (fun _ => none) → D.G F 16 0 (fun _ => none) (frO F H M (.slice none 0 0)) w
  come : ∀ (F r c : Nat) (f : Nat → Option Nat) (O : Nat → Prop) (w : World) (v d : Nat), D.G F r c f O w → c < D.lim → v < 4294967296 → d < 18446744073709551616 →
    Calls Try.prog 30 #[.pointer (some ⟨F, 0, none⟩), .int .u32 (v : Int), .int .u64 (d : Int)] w fun e w' => e = .returned (.tuple #[]) ∧ ∃ O', D.G F r (c + 1) (comeF f v d) O' w' ∧ Moves O O' w w'
  least : ∀ (F r c : Nat) (f : Nat → Option Nat) (O : Nat → Prop) (w : World), D.G F r c f O w →
    Calls Try.prog 31 #[.pointer (some ⟨F, 0, none⟩)] w fun e w' => ∃ v d ok O', e = .returned (.tuple #[.int .u32 ((v : Nat) : Int), .int .u64 ((d : Nat) : Int), .bool ok]) ∧
      Moves O O' w w' ∧ v < 4294967296 ∧ d < 18446744073709551616 ∧ (r ≠ 0 → (ok = true ∧ IsLeast f v d ∧ D.G F (r - 1) c (off f v) O' w') ∨ (ok = false ∧ ∀ u, f u = none))
  stay : ∀ (F r c : Nat) (f : Nat → Option Nat) (O : Nat → Prop) (w w' : World), D.G F r c f O w → (∀ b, O b → w'.heap[b]? = w.heap[b]?) → D.G F r c f O w'
  lt : ∀ (F r c : Nat) (f : Nat → Option Nat) (O : Nat → Prop) (w : World), D.G F r c f O w → ∀ b, O b → b < w.heap.size

section
variable {O O' On On' On0 : Nat → Prop} {W w w1 : World}
theorem Moves.other (h : Moves On0 On W w) (k : Moves O O' w w1) (hO : ∀ b, O b → W.heap.size ≤ b) : Moves On0 On W w1 :=
  ⟨k.os.trans h.os, k.tape.trans h.tape, k.output.trans h.output, Nat.le_trans h.size k.size, fun b h1 h2 => (k.block b (Nat.lt_of_lt_of_le h1 h.size) (fun e => by have := hO b e; omega)).trans (h.block b h1 h2), h.own⟩
/-- where the search stands: r turns still to be had, c come to, k settled -/
structure Fst (N : NetD) (D : FrontD) (F SB : Nat) (On0 : Nat → Prop) (W : World) (r c k : Nat) (S : Nat → Bool) (f : Nat → Option Nat) (seen : List Nat) (O On : Nat → Prop) (w : World) : Prop where
  g : D.G F r c f O w
  p : N.P seen On w
  s : FSet w SB k S
  net : Moves On0 On W w
  base : N.B ≤ W.heap.size
  low : ∀ b, O b → W.heap.size ≤ b
  apart : ∀ b, O b → ¬ On b ∧ b ≠ SB
  lowS : W.heap.size ≤ SB
  outS : ¬ On SB
variable {N : NetD} {D : FrontD} {F SB r r' c c' k k' : Nat} {S S' : Nat → Bool} {f f' : Nat → Option Nat} {seen seen' : List Nat}
theorem Fst.front (hN : NetC N) (_ : FrontC D) (h : Fst N D F SB On0 W r c k S f seen O On w) (m : Moves O O' w w1) (g : D.G F r' c' f' O' w1) : Fst N D F SB On0 W r' c' k S f' seen O' On w1 := by
  have h1 := h.net.size
  have h2 := hN.lt _ _ _ h.p
  have hB := h.base
  refine ⟨g, hN.stay _ _ _ _ h.p fun b hb => m.block b ?_ ?_, h.s.same (m.block SB h.s.lt fun e => (h.apart SB e).2 rfl), h.net.other m h.low, h.base, fun b hb => ?_, fun b hb => ?_, h.lowS, h.outS⟩
  · rcases hb with hb | hb
    · omega
    · exact h2 b hb
  · intro e
    rcases hb with hb | hb
    · have := h.low b e; omega
    · exact (h.apart b e).1 hb
  · rcases m.own b hb with h3 | h3
    · exact h.low b h3
    · omega
  · rcases m.own b hb with h3 | h3
    · exact h.apart b h3
    · exact ⟨fun e => by have := h2 b e; omega, by have := h.s.lt; omega⟩
theorem Fst.done (hN : NetC N) (h : Fst N D F SB On0 W r c k S f seen O On w) (m : Moves O O' w w1) : N.P seen On w1 ∧ Moves On0 On W w1 ∧ FSet w1 SB k S := by
  have h1 := h.net.size
  have h2 := hN.lt _ _ _ h.p
  have hB := h.base
  refine ⟨hN.stay _ _ _ _ h.p fun b hb => m.block b ?_ ?_, h.net.other m h.low, h.s.same (m.block SB h.s.lt fun e => (h.apart SB e).2 rfl)⟩
  · rcases hb with hb | hb
    · omega
    · exact h2 b hb
  · intro e
    rcases hb with hb | hb
    · have := h.low b e; omega
    · exact (h.apart b e).1 hb
/-- where it begins -/
theorem Fst.start (hN : NetC N) (hD : FrontC D) (p : N.P [] On0 W) (hB : N.B ≤ W.heap.size) (hb : Below W.heap.size W w) (g : D.G F r c f O w) (low : ∀ b, O b → W.heap.size ≤ b) :
    Fst N D F w.heap.size On0 W r c 0 (fun _ => false) f [] O On0 (w.alloc (.map #[] 0)) := by
  have h2 := hN.lt _ _ _ p
  have hb' : Below W.heap.size W (w.alloc (.map #[] 0)) := hb.alloc hb.size _
  have hb2 : Below w.heap.size w (w.alloc (.map #[] 0)) := (Below.refl _ _).alloc (Nat.le_refl _) _
  refine ⟨hD.stay _ _ _ _ _ _ _ g fun b hO => hb2.block b (hD.lt _ _ _ _ _ _ g b hO), hN.stay _ _ _ _ p fun b hO => hb'.block b ?_, FSet.made w, Moves.of_below hb', hB, low, fun b hO => ⟨fun e => ?_, ?_⟩, hb.size, fun e => ?_⟩
  · rcases hO with hO | hO
    · omega
    · exact h2 b hO
  · have := h2 b e; have := low b hO; omega
  · have := hD.lt _ _ _ _ _ _ g b hO; omega
  · have := h2 _ e; have := hb.size; omega
theorem Fst.below (hN : NetC N) (hD : FrontC D) (h : Fst N D F SB On0 W r c k S f seen O On w) (hb : Below w.heap.size w w1) : Fst N D F SB On0 W r c k S f seen O On w1 :=
  h.front hN hD (Moves.of_below hb) (hD.stay _ _ _ _ _ _ _ h.g fun b hb2 => hb.block b (hD.lt _ _ _ _ _ _ h.g b hb2))
theorem Fst.ask (_ : NetC N) (hD : FrontC D) (h : Fst N D F SB On0 W r c k S f seen O On w) (m : Moves On On' w w1) (p : N.P seen' On' w1) : Fst N D F SB On0 W r c k S f seen' O On' w1 := by
  have h3 := h.net.size
  have h4 := h.lowS
  refine ⟨hD.stay _ _ _ _ _ _ _ h.g fun b hb => m.block b (hD.lt _ _ _ _ _ _ h.g b hb) (h.apart b hb).1, p, h.s.same (m.block SB h.s.lt h.outS), h.net.trans m, h.base, h.low, fun b hb => ⟨fun e => ?_, (h.apart b hb).2⟩, h.lowS, fun e => ?_⟩
  · have h2 := hD.lt _ _ _ _ _ _ h.g b hb
    rcases m.own b e with h5 | h5
    · exact (h.apart b hb).1 h5
    · omega
  · rcases m.own SB e with h5 | h5
    · exact h.outS h5
    · have := h.s.lt; omega
theorem Fst.settle (hN : NetC N) (hD : FrontC D) (h : Fst N D F SB On0 W r c k S f seen O On w) (m : w.grownBy w1 (some SB)) (s : FSet w1 SB k' S') : Fst N D F SB On0 W r c k' S' f seen O On w1 := by
  have h1 := h.net.size
  have h2 := hN.lt _ _ _ h.p
  have hB := h.base
  have hS := h.lowS
  refine ⟨hD.stay _ _ _ _ _ _ _ h.g fun b hb => m.block b (hD.lt _ _ _ _ _ _ h.g b hb) (fun e => (h.apart b hb).2 (by injection e)), hN.stay _ _ _ _ h.p fun b hb => m.block b ?_ ?_, s, h.net.other (O := fun b => b = SB) (O' := fun b => b = SB) (Moves.of_grown m rfl) (fun b e => e ▸ h.lowS), h.base, h.low, h.apart, h.lowS, h.outS⟩
  · rcases hb with hb | hb
    · omega
    · exact h2 b hb
  · intro e
    injection e with e
    subst e
    rcases hb with hb | hb
    · omega
    · exact h.outS hb
/-- the same, with edges at hand -/
structure Ist (N : NetD) (D : FrontD) (F SB : Nat) (On0 : Nat → Prop) (W : World) (r c k : Nat) (S : Nat → Bool) (f : Nat → Option Nat) (seen : List Nat) (O On : Nat → Prop) (E : Nat → Prop) (A : Option Addr) (L : List Edg) (w : World) : Prop where
  st : Fst N D F SB On0 W r c k S f seen O On w
  e : ER E w A L
  ea : ∀ b, E b → b < w.heap.size ∧ ¬ O b ∧ b ≠ SB
variable {E : Nat → Prop} {A : Option Addr} {L : List Edg}
theorem ER.same (h : ER E w A L) (hb : ∀ b, E b → w1.heap[b]? = w.heap[b]?) : ER E w1 A L :=
  ⟨h.len, fun i hi => by
    obtain ⟨b, o, h1, h2, h3, h4, h5, h6⟩ := h.at_ i hi
    have hc : ∀ j, w1.cell? ⟨b, j, none⟩ = w.cell? ⟨b, j, none⟩ := fun j => by unfold World.cell?; rw [hb b h2]
    exact ⟨b, o, h1, h2, (hc _).trans h3, (hc _).trans h4, (hc _).trans h5, (hc _).trans h6⟩⟩
theorem ER.mono {E' : Nat → Prop} (h : ER E w A L) (hb : ∀ b, E b → E' b) : ER E' w A L :=
  ⟨h.len, fun i hi => by
    obtain ⟨b, o, h1, h2, h3⟩ := h.at_ i hi
    exact ⟨b, o, h1, hb b h2, h3⟩⟩
theorem Ist.front (hN : NetC N) (hD : FrontC D) (h : Ist N D F SB On0 W r c k S f seen O On E A L w) (m : Moves O O' w w1) (g : D.G F r' c' f' O' w1) : Ist N D F SB On0 W r' c' k S f' seen O' On E A L w1 :=
  ⟨h.st.front hN hD m g, h.e.same fun b hb => m.block b (h.ea b hb).1 (h.ea b hb).2.1, fun b hb => by
    obtain ⟨h1, h2, h3⟩ := h.ea b hb
    refine ⟨Nat.lt_of_lt_of_le h1 m.size, fun e => ?_, h3⟩
    rcases m.own b e with h4 | h4
    · exact h2 h4
    · omega⟩
theorem Ist.below (hN : NetC N) (hD : FrontC D) (h : Ist N D F SB On0 W r c k S f seen O On E A L w) (hb : Below w.heap.size w w1) : Ist N D F SB On0 W r c k S f seen O On E A L w1 :=
  h.front hN hD (Moves.of_below hb) (hD.stay _ _ _ _ _ _ _ h.st.g fun b hb2 => hb.block b (hD.lt _ _ _ _ _ _ h.st.g b hb2))
theorem Ist.settle (hN : NetC N) (hD : FrontC D) (h : Ist N D F SB On0 W r c k S f seen O On E A L w) (m : w.grownBy w1 (some SB)) (s : FSet w1 SB k' S') : Ist N D F SB On0 W r c k' S' f seen O On E A L w1 :=
  ⟨h.st.settle hN hD m s, h.e.same fun b hb => m.block b (h.ea b hb).1 (fun e => (h.ea b hb).2.2 (by injection e)), fun b hb => by
    obtain ⟨h1, h2, h3⟩ := h.ea b hb
    exact ⟨Nat.lt_of_lt_of_le h1 m.size, h2, h3⟩⟩
/-- behind the answer of the net -/
theorem Ist.asked (hN : NetC N) (hD : FrontC D) (h : Fst N D F SB On0 W r c k S f seen O On w) (m : Moves On On' w w1) (p : N.P seen' On' w1) (he : ER (fun b => w.heap.size ≤ b ∧ b < w1.heap.size ∧ ¬ On' b) w1 A L) :
    Ist N D F SB On0 W r c k S f seen' O On' (fun b => w.heap.size ≤ b ∧ b < w1.heap.size ∧ ¬ On' b) A L w1 :=
  ⟨h.ask hN hD m p, he, fun b hb => ⟨hb.2.1, fun e => by have := hD.lt _ _ _ _ _ _ h.g b e; omega, by have := h.s.lt; omega⟩⟩
/-- how many a set has, as its length tells -/
def setLen (P : Program) (SB : Nat) (w : World) : Nat := match (Builtin.len_ #[75] 3 #[.map (some SB)]).run P w with | .ok (.int _ n) _ => n.toNat | _ => 0
theorem FSet.setLen {n : Nat} {s : Nat → Bool} (h : FSet w SB n s) : setLen Try.prog SB w = n := by
  unfold Go.Proofs.Ytpnmfhcmodoeiaa.setLen
  rw [h.len]
  simp
end
/-- what is settled waits no more -/
def Settled (S : Nat → Bool) (f : Nat → Option Nat) : Prop := ∀ u, S u = true → f u = none
theorem Settled.relax1 {S av : Nat → Bool} {f : Nat → Option Nat} (h : Settled S f) (d : Nat) (x : Edg) : Settled S (relax1 S av d f x) := by
  intro u hu
  unfold Go.Proofs.Ytpnmfhcmodoeiaa.relax1
  split
  · rename_i hg
    rcases comeF_cases f x.head (d + x.weight) with ⟨_, _, _, he⟩ | ⟨_, he⟩
    · rw [he]; exact h u hu
    · rw [he]
      have hne : u ≠ x.head := by
        rintro rfl
        simp [goes, hu] at hg
      rw [upd_other _ _ hne]
      exact h u hu
  · exact h u hu
theorem Settled.relax {S av : Nat → Bool} (d : Nat) (L : List Edg) : ∀ {f : Nat → Option Nat}, Settled S f → Settled S (relax S av d L f) := by
  induction L with
  | nil => intro f h; exact h
  | cons x L ih => intro f h; exact ih (h.relax1 d x)
theorem Settled.off {S : Nat → Bool} {f : Nat → Option Nat} (h : Settled S f) (v : Nat) : Settled (with_ S v) (off f v) := by
  intro u hu
  by_cases hv : u = v
  · subst hv; exact off_same _ _
  · rw [off_other _ hv]
    rw [with_other _ hv] at hu
    exact h u hu
end Go.Proofs.Ytpnmfhcmodoeiaa
