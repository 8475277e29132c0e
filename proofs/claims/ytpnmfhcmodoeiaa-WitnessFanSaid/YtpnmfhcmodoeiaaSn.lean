/- Find in a net whose functions only read. -/
import Derived.Test.YtpnmfhcmodoeiaaNc
namespace Go.Proofs.Ytpnmfhcmodoeiaa
open Go.RowKit
/-- a net that reads what I says, which stays where nothing below B turns -/
def stillNet (B : Nat) (fo fa : FuncId) (p : Value) (out : Nat → List Edg × Int) (av : Nat → Bool) (I : World → Prop) : NetD where
  B := B
  fo := fo
  po := #[p]
  co := #[]
  fa := fa
  pa := #[p]
  ca := #[]
  out := out
  av := av
  P := fun _ O w => (∀ b, ¬ O b) ∧ I w
/-- what such functions owe -/
structure StillC (B : Nat) (fo fa : FuncId) (p : Value) (out : Nat → List Edg × Int) (av : Nat → Bool) (I : World → Prop) : Prop where
  enterO : ∀ (args : Array Value) (w : World), (callFunc fo args).run Try.prog w = .ok (.enter fo args) w
  enterA : ∀ (args : Array Value) (w : World), (callFunc fa args).run Try.prog w = .ok (.enter fa args) w
  ask : ∀ (v : Nat) (w : World), v < 4294967296 → I w → B ≤ w.heap.size →
    Calls Try.prog fo #[p, .int .u32 (v : Int)] w fun e w' => ∃ A c, e = .returned (.tuple #[.slice A (out v).1.length c, .int .i64 (out v).2]) ∧ OwnS w' w.heap.size 67 4 Edg.enc (.slice A (out v).1.length c) (out v).1 ∧ Below w.heap.size w w'
  shun : ∀ (v : Nat) (w : World), v < 4294967296 → I w → Calls Try.prog fa #[p, .int .u32 (v : Int)] w fun e w' => e = .returned (.bool (av v)) ∧ w = w'
  stay : ∀ (w w' : World), I w → (∀ b, b < B → w'.heap[b]? = w.heap[b]?) → I w'
section
variable {B : Nat} {fo fa : FuncId} {p : Value} {out : Nat → List Edg × Int} {av : Nat → Bool} {I : World → Prop}
theorem still_net (h : StillC B fo fa p out av I) (hl : ∀ v, (out v).1.length ≤ 4000) : NetC (stillNet B fo fa p out av I) where
  enterO := h.enterO
  enterA := h.enterA
  ask := fun v seen O w hv _ hp hB => by
    obtain ⟨hO, hn⟩ := hp
    have hB' : B ≤ w.heap.size := hB
    refine (h.ask v w hv hn hB).mono fun e w' ⟨A, c, he, ho, hb⟩ => ?_
    refine ⟨A, c, O, he, (own_er ho (by have := hl v; omega)).mono fun b hb => ⟨hb.1, hb.2, hO b⟩, ⟨hO, h.stay _ _ hn fun b hb2 => hb.block b (by omega)⟩, moves_below hb⟩
  shun := fun v seen O w hv hp _ => by
    refine (h.shun v w hv hp.2).mono fun e w' ⟨he, hw⟩ => ?_
    subst hw
    exact ⟨he, Below.refl _ _⟩
  stay := fun seen O w w' hp hb => ⟨hp.1, h.stay _ _ hp.2 fun b hb2 => hb b (.inl hb2)⟩
  lt := fun seen O w hp b hb => absurd hb (hp.1 b)
theorem find_still (h : StillC B fo fa p out av I) (hl : ∀ v, (out v).1.length ≤ 4000) (src to most : Nat) (hs : src < 4294967296) (w : World) (hI : I w) (hB : B ≤ w.heap.size) :
    Calls Try.prog 13 #[.func (.func fo) #[p] #[], .func (.func fa) #[p] #[], .int .u32 (src : Int), .int .u32 (to : Int), .int .u64 (most : Int)] w fun e w' =>
      ∃ a b er, Finds out av src to most a b er ∧ e = .returned (.tuple #[.bool b, .int .i64 er]) ∧ Below w.heap.size w w' :=
  (find_any (stillNet B fo fa p out av I) (still_net h hl) plainFront plain_front src to most 4000 hs hl (by show 1 + 16 * 4000 ≤ 65536; omega)
    (fun _ => False) w ⟨fun _ h => h, hI⟩ hB).mono fun e w' ⟨a, b, er, O', h1, h2, h3, h4⟩ => ⟨a, b, er, h1, h2, h4.low (fun _ h => h.elim) (Nat.le_refl _)⟩
end
/-- a block that is written out owns its list -/
theorem OwnS.many {α : Type} {sz : Nat} {enc : α → List Value} {w : World} {g base : Nat} {cs : Array Value} {e : TypeId} (l : List α) (hlen : ∀ x, (enc x).length = sz) (hb : w.heap[g]? = some (.cells cs e (0, 0))) (hcs : cs.toList = l.flatMap enc) (hg : base ≤ g) (hm : l.length ≤ maxLen) :
    OwnS w base e sz enc (.slice (some ⟨g, 0, none⟩) l.length l.length) l := by
  have hf := flat_length hlen l
  have hc : cs.size = l.length * sz := by rw [← hf, ← hcs]; simp
  refine ⟨hf, .inr ⟨g, l.length, cs, rfl, hg, hb, Nat.le_refl _, hm, hc, ?_⟩⟩
  rw [hcs, ← hf]
  exact List.take_length
end Go.Proofs.Ytpnmfhcmodoeiaa
