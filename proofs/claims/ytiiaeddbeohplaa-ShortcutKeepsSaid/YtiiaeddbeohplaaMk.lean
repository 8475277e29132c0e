/- The contract of shortcut.Make. -/
import Derived.Test.YtiiaeddbeohplaaTr
import Derived.OwnWalk
namespace Go.Proofs.Ytiiaeddbeohplaa
open Go.RowKit
theorem clip_any (A : Option Addr) (n c : Nat) (w : World) (hn : n ≤ c) (hA : A = none → n = 0 ∧ c = 0) (hs : ∀ a, A = some a → a.spot = none) : Calls Try.prog 31 #[.slice A n c] w fun e w' => e = .returned (.slice A n n) ∧ w = w' := by
  cases A with
  | none =>
    obtain ⟨rfl, rfl⟩ := hA rfl
    go_enter Try.func31, Try.ntmps31
    go_wp2_with fail
    go_ret
    exact ⟨rfl, rfl⟩
  | some a =>
    have h1 : (n : Int) ≤ (c : Int) := by omega
    have h2 : (0 : Int) ≤ (n : Int) := by omega
    clear hA
    go_enter Try.func31, Try.ntmps31
    go_wp2_with fail
    go_ret
    exact ⟨rfl, rfl⟩
/-- both lists of a vertex -/
def bothR (T : TrioD) (v : Nat) : List Edg × List Edg × Int := if (T.inn v).2 ≠ 0 then ([], [], (T.inn v).2) else if (T.out v).2 ≠ 0 then ([], [], (T.out v).2) else ((T.inn v).1, (T.out v).1, 0)
theorem both_any (T : TrioD) (hT : TrioC T) (v : Nat) (hv : v < 4294967296) (w : World) (hI : T.I w) (hB : T.B ≤ w.heap.size) :
    Calls Try.prog 27 #[.func (.func T.fo) T.po T.co, .func (.func T.fi) T.pi T.ci, .int .u32 (v : Int)] w fun e w' => ∃ A c A' c', e = .returned (.tuple #[.slice A (bothR T v).1.length c, .slice A' (bothR T v).2.1.length c', .int .i64 (bothR T v).2.2]) ∧
      ELs w'.heap.size w' A (bothR T v).1 ∧ ELs w'.heap.size w' A' (bothR T v).2.1 ∧ Below w.heap.size w w' := by
  have hEi := fun args W => hT.enterI args W
  have hEo := fun args W => hT.enterO args W
  have HIn := Lib.hid (hT.askI v w hv hI hB)
  have HOut := Lib.hid (fun w1 (hb : Below w.heap.size w w1) => hT.askO v w1 hv (hT.below hI hB hb) (Nat.le_trans hB hb.size))
  unfold bothR
  clear hI hB
  by_cases h1 : (T.inn v).2 = 0
  · rw [if_neg (fun e => e h1)]
    by_cases h2 : (T.out v).2 = 0
    · rw [if_neg (fun e => e h2)]
      rw [h1] at HIn
      go_enter Try.func27, Try.ntmps27
      go_wp2_with fail
      refine HIn.out.mono ?_
      rintro e w1 ⟨A, c, rfl, ho, hb⟩
      have HO1 := Lib.hid ho
      have HB1 := Lib.hid hb
      have HOut1 := Lib.hid (HOut.out w1 hb)
      rw [h2] at HOut1
      clear ho hb HIn HOut
      go_wp2_with fail
      refine HOut1.out.mono ?_
      rintro e w2 ⟨A', c', rfl, ho, hb⟩
      have HO2 := Lib.hid ho
      have HB2 := Lib.hid hb
      clear ho hb HOut1
      go_wp2_with fail
      go_ret3
      exact ⟨A, c, A', c', rfl, own_els (HO1.out.below HB2.out fun k hk => (HO1.out.lt k hk).2) (Nat.le_trans (hT.lenI v) (by omega)), own_els HO2.out (Nat.le_trans (hT.lenO v) (by omega)), HB1.out.trans (HB2.out.mono HB1.out.size)⟩
    · rw [if_pos h2]
      have q2 : ((T.out v).2 == 0) = false := by rw [beq_eq_false_iff_ne]; exact h2
      rw [h1] at HIn
      clear h1 h2
      generalize (T.out v).2 = er at *
      go_enter Try.func27, Try.ntmps27
      go_wp2_with fail
      refine HIn.out.mono ?_
      rintro e w1 ⟨A, c, rfl, ho, hb⟩
      have HB1 := Lib.hid hb
      have HOut1 := Lib.hid (HOut.out w1 hb)
      clear ho hb HIn HOut
      go_wp2_with fail
      refine HOut1.out.mono ?_
      rintro e w2 ⟨A', c', rfl, ho, hb⟩
      have HB2 := Lib.hid hb
      clear ho hb HOut1
      go_wp2_with fail
      go_ret3
      exact ⟨none, 0, none, 0, rfl, SR.nil _ _ _ _ _, SR.nil _ _ _ _ _, HB1.out.trans (HB2.out.mono HB1.out.size)⟩
  · rw [if_pos h1]
    have q1 : ((T.inn v).2 == 0) = false := by rw [beq_eq_false_iff_ne]; exact h1
    clear HOut h1
    generalize (T.inn v).2 = er at *
    go_enter Try.func27, Try.ntmps27
    go_wp2_with fail
    refine HIn.out.mono ?_
    rintro e w1 ⟨A, c, rfl, ho, hb⟩
    have HB1 := Lib.hid hb
    clear ho hb HIn
    go_wp2_with fail
    go_ret3
    exact ⟨none, 0, none, 0, rfl, SR.nil _ _ _ _ _, SR.nil _ _ _ _ _, HB1.out⟩
/-- the closure: where it stands, and what it tells -/
structure ShunAt (T : TrioD) (v VB AB : Nat) (w : World) : Prop where
  v_ : w.cell? ⟨VB, 0, none⟩ = some (.int .u32 (v : Int))
  a_ : w.cell? ⟨AB, 0, none⟩ = some (.func (.func T.fa) T.pa T.ca)
theorem shun_any (T : TrioD) (hT : TrioC T) (v VB AB x : Nat) (hx : x < 4294967296) (w : World) (h : ShunAt T v VB AB w) (hI : T.I w) :
    Calls Try.prog 28 #[.int .u32 (x : Int), .pointer (some ⟨VB, 0, none⟩), .pointer (some ⟨AB, 0, none⟩)] w fun e w' => e = .returned (.bool (shunB v T.av x)) ∧ w = w' := by
  have hEa := fun args W => hT.enterA args W
  have HA := Lib.hid (hT.shun x w hx hI)
  have c0 := h.v_
  have c1 := h.a_
  unfold shunB
  clear h hI
  by_cases h1 : x = v
  · have g1 : ((x : Int) == (v : Int)) = true := by rw [h1]; exact beq_self_eq_true _
    have g2 : (x == v) = true := by rw [h1]; exact beq_self_eq_true _
    rw [g2, Bool.true_or]
    clear HA h1 g2
    go_enter Try.func28, Try.ntmps28
    go_wp2_with fail
    go_ret
    exact ⟨rfl, rfl⟩
  · have g1 : ((x : Int) == (v : Int)) = false := by rw [beq_eq_false_iff_ne]; omega
    have g2 : (x == v) = false := by rw [beq_eq_false_iff_ne]; exact h1
    rw [g2, Bool.false_or]
    clear h1 g2
    go_enter Try.func28, Try.ntmps28
    go_wp2_with fail
    refine HA.out.mono ?_
    rintro e w1 ⟨rfl, rfl⟩
    go_wp2_with fail
    go_ret
    exact ⟨rfl, rfl⟩
/-- the net of the search: those that are shunned are avoided -/
def shunNet (T : TrioD) (v VB AB M : Nat) : NetD where
  B := M
  fo := T.fo
  po := T.po
  co := T.co
  fa := 28
  pa := #[]
  ca := #[.pointer (some ⟨VB, 0, none⟩), .pointer (some ⟨AB, 0, none⟩)]
  out := T.out
  av := shunB v T.av
  P := fun _ O w => (∀ b, ¬ O b) ∧ T.I w ∧ ShunAt T v VB AB w
theorem ShunAt.same {T : TrioD} {v VB AB : Nat} {w w' : World} (h : ShunAt T v VB AB w) (h1 : w'.heap[VB]? = w.heap[VB]?) (h2 : w'.heap[AB]? = w.heap[AB]?) : ShunAt T v VB AB w' :=
  ⟨by rw [← h.v_]; unfold World.cell?; rw [h1], by rw [← h.a_]; unfold World.cell?; rw [h2]⟩
theorem ShunAt.below {T : TrioD} {v VB AB : Nat} {w w' : World} (h : ShunAt T v VB AB w) (hb : Below w.heap.size w w') : ShunAt T v VB AB w' :=
  ⟨(hb.cell (p := ⟨VB, 0, none⟩) (World.block_lt_of_cell? w _ h.v_)).trans h.v_, (hb.cell (p := ⟨AB, 0, none⟩) (World.block_lt_of_cell? w _ h.a_)).trans h.a_⟩
theorem shun_net (T : TrioD) (hT : TrioC T) {v VB AB M : Nat} (hV : VB < M) (hA : AB < M) (hB : T.B ≤ M) : NetC (shunNet T v VB AB M) where
  enterO := hT.enterO
  enterA := fun args w => run_enter Try.func28 (by kernel_rfl) (by rfl) args w
  ask := fun x seen O w hx _ hp hM => by
    obtain ⟨hO, hI, hS⟩ := hp
    have hM' : M ≤ w.heap.size := hM
    refine (hT.askO x w hx hI (Nat.le_trans hB hM')).mono fun e w' ⟨A, c, he, ho, hb⟩ => ?_
    refine ⟨A, c, O, he, (own_er ho (Nat.le_trans (hT.lenO x) (by omega))).mono fun b hb => ⟨hb.1, hb.2, hO b⟩, ⟨hO, hT.below hI (Nat.le_trans hB hM') hb, hS.below hb⟩, moves_below hb⟩
  shun := fun x seen O w hx hp _ => by
    refine (shun_any T hT v VB AB x hx w hp.2.2 hp.2.1).mono fun e w' ⟨he, hw⟩ => ?_
    subst hw
    exact ⟨he, Below.refl _ _⟩
  stay := fun seen O w w' hp hb => ⟨hp.1, hT.stay _ _ hp.2.1 fun b hb2 => hb b (.inl (show b < M by omega)), hp.2.2.same (hb VB (.inl hV)) (hb AB (.inl hA))⟩
  lt := fun seen O w hp b hb => absurd hb (hp.1 b)
/-- Find as Make calls it -/
theorem find_shun (T : TrioD) (hT : TrioC T) (v VB AB src to most : Nat) (hs : src < 4294967296) (w : World) (hI : T.I w) (hS : ShunAt T v VB AB w) (hB : T.B ≤ w.heap.size) :
    Calls Try.prog 30 #[.func (.func T.fo) T.po T.co, .func (.func 28) #[] #[.pointer (some ⟨VB, 0, none⟩), .pointer (some ⟨AB, 0, none⟩)], .int .u32 (src : Int), .int .u32 (to : Int), .int .u64 (most : Int)] w fun e w' =>
      e = .returned (.tuple #[.bool (findR T.out (shunB v T.av) src to most).2.1, .int .i64 (findR T.out (shunB v T.av) src to most).2.2]) ∧ Below w.heap.size w w' :=
  (find_any (shunNet T v VB AB w.heap.size) (shun_net T hT (World.block_lt_of_cell? w _ hS.v_) (World.block_lt_of_cell? w _ hS.a_) hB) plainFront plain_front src to most 1000 hs hT.lenO (by show 1 + 16 * 1000 ≤ 65536; omega)
    (fun _ => False) w ⟨fun _ h => h, hI, hS⟩ (Nat.le_refl _)).mono fun e w' ⟨a, b, er, O', h1, h2, h3, h4⟩ => by
      obtain ⟨rfl, rfl⟩ := finds_R h1
      exact ⟨h2, h4.low (fun _ h => h.elim) (Nat.le_refl _)⟩
end Go.Proofs.Ytiiaeddbeohplaa
