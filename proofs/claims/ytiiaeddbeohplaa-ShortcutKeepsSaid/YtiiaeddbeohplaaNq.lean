/- Make and Count in a net of lists. -/
import Derived.Test.YtiiaeddbeohplaaCt
import Derived.Test.YtiiaeddbeohplaaNi
namespace Go.Proofs.Ytiiaeddbeohplaa
open Go.RowKit
theorem netIn_len (E : List Edg) (bad : List Nat) (v : Nat) : (netIn E bad v).1.length ≤ E.length := by
  cases h : inB bad v with
  | true => rw [netIn_bad h]; simp
  | false => rw [netIn_ok h]; exact List.length_filter_le _ _
def netTrio (B NB : Nat) (E : List Edg) (bad shun : List Nat) : TrioD where
  B := B
  fo := 13
  po := #[.pointer (some ⟨NB, 0, none⟩)]
  co := #[]
  fi := 14
  pi := #[.pointer (some ⟨NB, 0, none⟩)]
  ci := #[]
  fa := 15
  pa := #[.pointer (some ⟨NB, 0, none⟩)]
  ca := #[]
  out := netOut E bad
  inn := netIn E bad
  av := inB shun
  I := NetAt B NB E bad shun
theorem net_trio {B NB : Nat} {E : List Edg} {bad shun : List Nat} (hE : E.length ≤ 1000) (hN : NB < B) : TrioC (netTrio B NB E bad shun) where
  enterO := enter_out
  enterI := fun args w => run_enter Try.func14 (by kernel_rfl) (by rfl) args w
  enterA := enter_avoid
  askO := fun v w _ hI hB => out_any B NB E bad shun v w hI hB (by omega)
  askI := fun v w _ hI hB => in_net B NB E bad shun v w hI hB (by omega)
  shun := fun v w _ hI => avoid_any B NB E bad shun v w hI
  stay := fun w w' hI hb => hI.same fun b hk => hb b (by
    rcases hk with hk | rfl
    · exact hk
    · exact hN)
  lenO := fun v => Nat.le_trans (netOut_len E bad v) hE
  lenI := fun v => Nat.le_trans (netIn_len E bad v) hE
theorem make_net (NB : Nat) (E : List Edg) (bad shun : List Nat) (v : Nat) (hv : v < 4294967296) (w : World) (h : NetAt w.heap.size NB E bad shun w) (hE : E.length ≤ 1000) :
    Calls Try.prog 12 #[.func (.func 13) #[.pointer (some ⟨NB, 0, none⟩)] #[], .func (.func 14) #[.pointer (some ⟨NB, 0, none⟩)] #[], .func (.func 15) #[.pointer (some ⟨NB, 0, none⟩)] #[], .int .u32 (v : Int)] w fun e w' => ∃ A c, e = .returned (.tuple #[.slice A (makeR (netOut E bad) (netIn E bad) (inB shun) v hv).1.length c, .int .i64 (makeR (netOut E bad) (netIn E bad) (inB shun) v hv).2]) ∧ ELs w'.heap.size w' A (makeR (netOut E bad) (netIn E bad) (inB shun) v hv).1 ∧ Below w.heap.size w w' :=
  make_any (netTrio w.heap.size NB E bad shun) (net_trio hE h.lt) v hv w h (Nat.le_refl _)
theorem count_net (NB : Nat) (E : List Edg) (bad shun : List Nat) (v : Nat) (hv : v < 4294967296) (w : World) (h : NetAt w.heap.size NB E bad shun w) (hE : E.length ≤ 1000) :
    Calls Try.prog 17 #[.func (.func 13) #[.pointer (some ⟨NB, 0, none⟩)] #[], .func (.func 14) #[.pointer (some ⟨NB, 0, none⟩)] #[], .int .u32 (v : Int)] w fun e w' => e = .returned (.tuple #[.int .i64 ((countR (netOut E bad) (netIn E bad) v hv).1 : Int), .int .i64 ((countR (netOut E bad) (netIn E bad) v hv).2.1 : Int), .int .i64 ((countR (netOut E bad) (netIn E bad) v hv).2.2.1 : Int), .int .i64 (countR (netOut E bad) (netIn E bad) v hv).2.2.2]) ∧ Below w.heap.size w w' :=
  count_any (netTrio w.heap.size NB E bad shun) (net_trio hE h.lt) v hv w h (Nat.le_refl _)
end Go.Proofs.Ytiiaeddbeohplaa
