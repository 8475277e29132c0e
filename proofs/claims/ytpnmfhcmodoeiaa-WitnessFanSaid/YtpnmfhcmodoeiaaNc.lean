/- Find in a net of lists. -/
import Derived.Test.YtpnmfhcmodoeiaaFi
import Derived.Test.YtpnmfhcmodoeiaaFn
import Derived.Test.YtpnmfhcmodoeiaaNt
namespace Go.Proofs.Ytpnmfhcmodoeiaa
open Go.RowKit
theorem run_enter {P : Program} {f : FuncId} {fn : Func} {c : Code} (hf : P.funcs[f]? = some fn) (hname : (fn.name == "runtime.NumGoroutine") = false) (hb : fn.body = some c) (args : Array Value) (w : World) :
    (callFunc f args).run P w = .ok (.enter f args) w := by
  have h1 : fn.name ≠ "runtime.NumGoroutine" := by simpa using hname
  simp [callFunc, hf, h1, hb]
theorem enter_out (args : Array Value) (w : World) : (callFunc 17 args).run Try.prog w = .ok (.enter 17 args) w := run_enter Try.func17 (by kernel_rfl) (by rfl) args w
theorem enter_avoid (args : Array Value) (w : World) : (callFunc 15 args).run Try.prog w = .ok (.enter 15 args) w := run_enter Try.func15 (by kernel_rfl) (by rfl) args w
theorem NetAt.more {B B' NB : Nat} {E : List Edg} {bad shun : List Nat} {w : World} (h : NetAt B NB E bad shun w) (hB : B ≤ B') : NetAt B' NB E bad shun w := by
  obtain ⟨A, c, A', c', A'', c'', h1, h2, h3, h4⟩ := h.row
  exact ⟨A, c, A', c', A'', c'', h1, h2.more hB, h3.more hB, h4.more hB⟩
/-- edges that a call owns lie in blocks of its own -/
theorem own_er {w : World} {base : Nat} {A : Option Addr} {c : Nat} {l : List Edg} (h : OwnS w base 67 4 Edg.enc (.slice A l.length c) l) (hm : l.length ≤ 4611686018427387904) : ER (fun b => base ≤ b ∧ b < w.heap.size) w A l := by
  refine ⟨hm, fun i hi => ?_⟩
  obtain ⟨b, o, hA, hb, h1⟩ := ELs.at' (own_els h hm) i hi
  subst hA
  exact ⟨b, o, rfl, ⟨(h.lt b rfl).1, hb⟩, h1⟩
theorem netOut_len (E : List Edg) (bad : List Nat) (v : Nat) : (netOut E bad v).1.length ≤ E.length := by
  cases h : inB bad v with
  | true => rw [netOut_bad h]; simp
  | false => rw [netOut_ok h]; exact List.length_filter_le _ _
/-- a net of lists: it writes nothing -/
def plainNet (B NB : Nat) (E : List Edg) (bad shun : List Nat) : NetD where
  B := B
  fo := 17
  po := #[.pointer (some ⟨NB, 0, none⟩)]
  co := #[]
  fa := 15
  pa := #[.pointer (some ⟨NB, 0, none⟩)]
  ca := #[]
  out := netOut E bad
  av := inB shun
  P := fun _ O w => (∀ b, ¬ O b) ∧ NetAt B NB E bad shun w
theorem moves_below {O : Nat → Prop} {w w' : World} (h : Below w.heap.size w w') : Moves O O w w' := Moves.of_below h
theorem plain_net {B NB : Nat} {E : List Edg} {bad shun : List Nat} (hE : E.length ≤ 4000) (hN : NB < B) : NetC (plainNet B NB E bad shun) where
  enterO := enter_out
  enterA := enter_avoid
  ask := fun v seen O w _ _ hp hB => by
    obtain ⟨hO, hn⟩ := hp
    refine (out_any B NB E bad shun v w hn hB (by omega)).mono fun e w' ⟨A, c, he, ho, hb⟩ => ?_
    refine ⟨A, c, O, he, (own_er ho (by have := netOut_len E bad v; omega)).mono fun b hb => ⟨hb.1, hb.2, hO b⟩, ⟨hO, hn.below hB hb⟩, moves_below hb⟩
  shun := fun v seen O w _ hp hB => by
    refine (avoid_any B NB E bad shun v w hp.2).mono fun e w' ⟨he, hw⟩ => ?_
    subst hw
    exact ⟨he, Below.refl _ _⟩
  stay := fun seen O w w' hp hb => ⟨hp.1, hp.2.same fun b hb2 => hb b (by
    rcases hb2 with h | h
    · exact .inl h
    · subst h; exact .inl hN)⟩
  lt := fun seen O w hp b hb => absurd hb (hp.1 b)
/-- Find in a net of lists: what the search answers -/
theorem find_net (NB : Nat) (E : List Edg) (bad shun : List Nat) (src to most : Nat) (hs : src < 4294967296) (w : World) (h : NetAt w.heap.size NB E bad shun w) (hE : E.length ≤ 4000) :
    Calls Try.prog 13 #[.func (.func 17) #[.pointer (some ⟨NB, 0, none⟩)] #[], .func (.func 15) #[.pointer (some ⟨NB, 0, none⟩)] #[], .int .u32 (src : Int), .int .u32 (to : Int), .int .u64 (most : Int)] w fun e w' =>
      ∃ a b er, Finds (netOut E bad) (inB shun) src to most a b er ∧ e = .returned (.tuple #[.bool b, .int .i64 er]) ∧ Below w.heap.size w w' :=
  (find_any (plainNet w.heap.size NB E bad shun) (plain_net hE h.lt) plainFront plain_front src to most 4000 hs (fun v => Nat.le_trans (netOut_len E bad v) hE) (by show 1 + 16 * 4000 ≤ 65536; omega)
    (fun _ => False) w ⟨fun _ h => h, h⟩ (Nat.le_refl _)).mono fun e w' ⟨a, b, er, O', h1, h2, h3, h4⟩ => ⟨a, b, er, h1, h2, h4.low (fun _ h => h.elim) (Nat.le_refl _)⟩
end Go.Proofs.Ytpnmfhcmodoeiaa
