/- Stars: a still net, told both ways. -/
import Derived.Test.YtiiaeddbeohplaaSa
namespace Go.Proofs.Ytiiaeddbeohplaa
open Go.RowKit
theorem none_ok {P : Program} {f : FuncId} {args : Array Value} {w : World} (h : Calls P f args w fun e w' => e = .returned (.tuple #[.slice none 0 0, .int .i64 0]) ∧ Below w.heap.size w w') {ty : TypeId} {sz : Nat} {α : Type} {enc : α → List Value} :
    Calls P f args w fun e w' => ∃ A c, e = .returned (.tuple #[.slice A 0 c, .int .i64 0]) ∧ OwnS w' w.heap.size ty sz enc (.slice A 0 c) [] ∧ Below w.heap.size w w' :=
  h.mono fun _ _ ⟨h1, h2⟩ => ⟨none, 0, h1, OwnS.nil _ _ _ _ _, h2⟩
theorem star_out (B SB : Nat) (Is Os : List W64) (th : Bool) (W : W64) (away v : Nat) (w : World) (hI : StarAt B SB Is Os th W away w) (hB : B ≤ w.heap.size) (hv : v < 4294967296) (hL : Is.length ≤ 900) (hO : Os.length ≤ 900) :
    Calls Try.prog 24 #[.pointer (some ⟨SB, 0, none⟩), .int .u32 (v : Int)] w fun e w' => ∃ A c, e = .returned (.tuple #[.slice A (starOut Is Os th W v).1.length c, .int .i64 (starOut Is Os th W v).2]) ∧ OwnS w' w.heap.size 43 4 Edg.enc (.slice A (starOut Is Os th W v).1.length c) (starOut Is Os th W v).1 ∧ Below w.heap.size w w' := by
  by_cases v0 : v = 0
  · subst v0
    have e : starOut Is Os th W 0 = (outsT Os Os.length, 0) := if_pos rfl
    rw [e]
    dsimp only
    rw [outsT_len]
    exact star_out0 B SB Is Os th W away w hI hB hO
  · by_cases vl : v ≤ Is.length
    · by_cases v1 : v = 1 ∧ th = true
      · obtain ⟨rfl, rfl⟩ := v1
        have e : starOut Is Os true W 1 = ([inE Is 0, thE W], 0) := by
          unfold starOut; rw [if_neg v0, if_pos vl, if_pos ⟨rfl, rfl⟩]; rfl
        rw [e]
        exact star_out_both B SB Is Os W away w hI hB hL vl
      · have e : starOut Is Os th W v = ([inE Is (v - 1)], 0) := by
          unfold starOut; rw [if_neg v0, if_pos vl, if_neg v1]; rfl
        rw [e]
        exact star_out_in B SB Is Os th W away v w hI hB hv hL v0 vl v1
    · by_cases v1 : v = 1 ∧ th = true
      · obtain ⟨rfl, rfl⟩ := v1
        have e : starOut Is Os true W 1 = ([thE W], 0) := by
          unfold starOut; rw [if_neg v0, if_neg vl, if_pos ⟨rfl, rfl⟩]; rfl
        rw [e]
        exact star_out_there B SB Is Os W away w hI (by omega)
      · have e : starOut Is Os th W v = ([], 0) := by
          unfold starOut; rw [if_neg v0, if_neg vl, if_neg v1]; rfl
        rw [e]
        refine none_ok (star_out_none B SB Is Os th W away v w hI hv (by omega) ?_)
        by_cases h : v = 1
        · right
          refine ⟨by rw [h]; rfl, ?_⟩
          cases th with
          | false => rfl
          | true => exact absurd ⟨h, rfl⟩ v1
        · left
          rw [beq_eq_false_iff_ne]; omega
theorem star_in (B SB : Nat) (Is Os : List W64) (th : Bool) (W : W64) (away v : Nat) (w : World) (hI : StarAt B SB Is Os th W away w) (hB : B ≤ w.heap.size) (hv : v < 4294967296) (hL : Is.length ≤ 900) (hO : Os.length ≤ 900) :
    Calls Try.prog 25 #[.pointer (some ⟨SB, 0, none⟩), .int .u32 (v : Int)] w fun e w' => ∃ A c, e = .returned (.tuple #[.slice A (starIn Is Os th W v).1.length c, .int .i64 (starIn Is Os th W v).2]) ∧ OwnS w' w.heap.size 43 4 Edg.enc (.slice A (starIn Is Os th W v).1.length c) (starIn Is Os th W v).1 ∧ Below w.heap.size w w' := by
  by_cases v0 : v = 0
  · subst v0
    have e : starIn Is Os th W 0 = (insT Is Is.length, 0) := by
      unfold starIn; rw [if_pos rfl, if_neg (by omega), if_neg (by omega)]; simp
    rw [e]
    dsimp only
    rw [insT_len]
    exact star_in0 B SB Is Os th W away w hI hB hL
  · by_cases vl : 100 < v ∧ v ≤ 100 + Os.length
    · by_cases v1 : v = 101 ∧ th = true
      · obtain ⟨rfl, rfl⟩ := v1
        have e : starIn Is Os true W 101 = ([outE Os 0, thE W], 0) := by
          unfold starIn; rw [if_neg v0, if_pos vl, if_pos ⟨rfl, rfl⟩]; rfl
        rw [e]
        exact star_in_both B SB Is Os W away w hI hB hO (by omega)
      · have e : starIn Is Os th W v = ([outE Os (v - 101)], 0) := by
          unfold starIn; rw [if_neg v0, if_pos vl, if_neg v1]; rfl
        rw [e]
        exact star_in_out B SB Is Os th W away v w hI hB hv hO vl.1 vl.2 v1
    · by_cases v1 : v = 101 ∧ th = true
      · obtain ⟨rfl, rfl⟩ := v1
        have e : starIn Is Os true W 101 = ([thE W], 0) := by
          unfold starIn; rw [if_neg v0, if_neg vl, if_pos ⟨rfl, rfl⟩]; rfl
        rw [e]
        exact star_in_there B SB Is Os W away w hI (by omega)
      · have e : starIn Is Os th W v = ([], 0) := by
          unfold starIn; rw [if_neg v0, if_neg vl, if_neg v1]; rfl
        rw [e]
        refine none_ok (star_in_none B SB Is Os th W away v w hI hv hO v0 vl ?_)
        by_cases h : v = 101
        · right
          refine ⟨by rw [h]; rfl, ?_⟩
          cases th with
          | false => rfl
          | true => exact absurd ⟨h, rfl⟩ v1
        · left
          rw [beq_eq_false_iff_ne]; omega
theorem StarAt.lt {B SB : Nat} {Is Os : List W64} {th : Bool} {W : W64} {away : Nat} {w : World} (h : StarAt B SB Is Os th W away w) : SB < w.heap.size := by
  obtain ⟨_, _, _, _, h, _⟩ := h
  exact (Array.getElem?_eq_some_iff.1 h).1
theorem StarAt.same {B SB : Nat} {Is Os : List W64} {th : Bool} {W : W64} {away : Nat} {w w' : World} (h : StarAt B SB Is Os th W away w) (hb : ∀ b, (b < B ∨ b = SB) → w'.heap[b]? = w.heap[b]?) : StarAt B SB Is Os th W away w' := by
  obtain ⟨A, c, A', c', h1, h2, h3⟩ := h
  have hk : ∀ p : Addr, p.block < B → w'.cell? p = w.cell? p := fun p hp => by unfold World.cell?; rw [hb p.block (.inl hp)]
  exact ⟨A, c, A', c', (hb SB (.inr rfl)).trans h1, h2.keep hk, h3.keep hk⟩
theorem StarAt.more {B B' SB : Nat} {Is Os : List W64} {th : Bool} {W : W64} {away : Nat} {w : World} (h : StarAt B SB Is Os th W away w) (hB : B ≤ B') : StarAt B' SB Is Os th W away w := by
  obtain ⟨A, c, A', c', h1, h2, h3⟩ := h
  exact ⟨A, c, A', c', h1, h2.more hB, h3.more hB⟩
theorem StarAt.below {B SB : Nat} {Is Os : List W64} {th : Bool} {W : W64} {away : Nat} {w w' : World} (h : StarAt B SB Is Os th W away w) (hB : B ≤ w.heap.size) (hb : Below w.heap.size w w') : StarAt B SB Is Os th W away w' :=
  h.same fun b hk => hb.block b (by
    rcases hk with hk | rfl
    · omega
    · exact h.lt)
def starTrio (B SB : Nat) (Is Os : List W64) (th : Bool) (W : W64) (away : Nat) : TrioD where
  B := B
  fo := 24
  po := #[.pointer (some ⟨SB, 0, none⟩)]
  co := #[]
  fi := 25
  pi := #[.pointer (some ⟨SB, 0, none⟩)]
  ci := #[]
  fa := 26
  pa := #[.pointer (some ⟨SB, 0, none⟩)]
  ca := #[]
  out := starOut Is Os th W
  inn := starIn Is Os th W
  av := fun v => v == away
  I := StarAt B SB Is Os th W away
theorem star_trio {B SB : Nat} {Is Os : List W64} {th : Bool} {W : W64} {away : Nat} (hL : Is.length ≤ 900) (hO : Os.length ≤ 900) (hN : SB < B) : TrioC (starTrio B SB Is Os th W away) where
  enterO := fun args w => run_enter Try.func24 (by kernel_rfl) (by rfl) args w
  enterI := fun args w => run_enter Try.func25 (by kernel_rfl) (by rfl) args w
  enterA := fun args w => run_enter Try.func26 (by kernel_rfl) (by rfl) args w
  askO := fun v w hv hI hB => star_out B SB Is Os th W away v w hI hB hv hL hO
  askI := fun v w hv hI hB => star_in B SB Is Os th W away v w hI hB hv hL hO
  shun := fun v w _ hI => star_shun B SB Is Os th W away v w hI
  stay := fun w w' hI hb => hI.same fun b hk => hb b (by
    rcases hk with hk | rfl
    · exact hk
    · exact hN)
  lenO := fun v => starOut_len Is Os th W v hO
  lenI := fun v => starIn_len Is Os th W v hL
theorem make_star (SB : Nat) (Is Os : List W64) (th : Bool) (W : W64) (away : Nat) (v : Nat) (hv : v < 4294967296) (w : World) (h : StarAt w.heap.size SB Is Os th W away w) (hL : Is.length ≤ 900) (hO : Os.length ≤ 900) :
    Calls Try.prog 12 #[.func (.func 24) #[.pointer (some ⟨SB, 0, none⟩)] #[], .func (.func 25) #[.pointer (some ⟨SB, 0, none⟩)] #[], .func (.func 26) #[.pointer (some ⟨SB, 0, none⟩)] #[], .int .u32 (v : Int)] w fun e w' => ∃ A c, e = .returned (.tuple #[.slice A (makeR (starOut Is Os th W) (starIn Is Os th W) (fun v => v == away) v hv).1.length c, .int .i64 (makeR (starOut Is Os th W) (starIn Is Os th W) (fun v => v == away) v hv).2]) ∧ ELs w'.heap.size w' A (makeR (starOut Is Os th W) (starIn Is Os th W) (fun v => v == away) v hv).1 ∧ Below w.heap.size w w' :=
  make_any (starTrio w.heap.size SB Is Os th W away) (star_trio hL hO h.lt) v hv w h (Nat.le_refl _)
theorem count_star (SB : Nat) (Is Os : List W64) (th : Bool) (W : W64) (away : Nat) (v : Nat) (hv : v < 4294967296) (w : World) (h : StarAt w.heap.size SB Is Os th W away w) (hL : Is.length ≤ 900) (hO : Os.length ≤ 900) :
    Calls Try.prog 17 #[.func (.func 24) #[.pointer (some ⟨SB, 0, none⟩)] #[], .func (.func 25) #[.pointer (some ⟨SB, 0, none⟩)] #[], .int .u32 (v : Int)] w fun e w' => e = .returned (.tuple #[.int .i64 ((countR (starOut Is Os th W) (starIn Is Os th W) v hv).1 : Int), .int .i64 ((countR (starOut Is Os th W) (starIn Is Os th W) v hv).2.1 : Int), .int .i64 ((countR (starOut Is Os th W) (starIn Is Os th W) v hv).2.2.1 : Int), .int .i64 (countR (starOut Is Os th W) (starIn Is Os th W) v hv).2.2.2]) ∧ Below w.heap.size w w' :=
  count_any (starTrio w.heap.size SB Is Os th W away) (star_trio hL hO h.lt) v hv w h (Nat.le_refl _)
end Go.Proofs.Ytiiaeddbeohplaa
