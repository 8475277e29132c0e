/- The contract of least: of those that wait the least is taken. -/
import Derived.Test.YtpnmfhcmodoeiaaFr
import Derived.Test.YtpnmfhcmodoeiaaPs
import Derived.StillTailTactics
import Derived.Deep.QuietTactic
import Derived.BigQuiet
namespace Go.Proofs.Ytpnmfhcmodoeiaa
open Go.RowKit
/-- an item that does not wait -/
def Stale (f : Nat → Option Nat) (y : Itm) : Prop := f y.id ≠ some y.key
/-- x is the least that waits -/
structure Taken (f : Nat → Option Nat) (l : List Itm) (x : Itm) (l' : List Itm) : Prop where
  live : f x.id = some x.key
  perm : ∃ gone, l.Perm (gone ++ (x :: l')) ∧ ∀ y ∈ gone, Stale f y
  le : ∀ y ∈ l', x.r ≤ y.r
/-- where the loop stands: x was popped (q: it was one) -/
structure LSt (F H M n : Nat) (O : Nat → Prop) (f : Nat → Option Nat) (l0 : List Itm) (w : World) (X : Nat) (q : Bool) (x : Itm) (v : Value) (l : List Itm) (wr : World) : Prop where
  fr : FrAt F H M n wr v l f
  mv : Moves O (frO F H M v) w wr
  box : wr.heap[X]? = some (.cells x.cells 88 (0, 0))
  new : w.heap.size ≤ X
  out : ¬ frO F H M v X
  len : l.length ≤ 65536
  said : ∃ gone, (∀ y ∈ gone, Stale f y) ∧ ((q = true ∧ l0.Perm (gone ++ (x :: l)) ∧ ∀ y ∈ l, x.r ≤ y.r) ∨ (q = false ∧ l = [] ∧ l0.Perm gone))
section
variable {F H M n X : Nat} {O : Nat → Prop} {f : Nat → Option Nat} {l l0 l' : List Itm} {v v' : Value} {x y : Itm} {w w1 wr : World} {q b : Bool}
theorem FrAt.set (h : FrAt F H M n w v l f) (hX : ¬ frO F H M v X) (i : Nat) (u : Value) : FrAt F H M n (w.setCell ⟨X, i, none⟩ u) v l f := h.stay fun b hb => heap_setCell_other _ _ _ _ (fun e => hX ((show b = X from e) ▸ hb))
theorem popsaid_len (h : PopSaid l l' y b) : l'.length ≤ l.length := by
  rcases h with ⟨_, h1, _⟩ | ⟨_, rfl, rfl, _⟩
  · have := perm_len' h1; omega
  · exact Nat.le_refl _
theorem LSt.first (hl : l.length ≤ 65536) (h1 : FrAt F H M n w1 v' l' f) (hm : Moves O (frO F H M v') w w1) (h : PopSaid l l' y b) : LSt F H M n O f l w w1.heap.size b y v' l' (w1.alloc (.cells y.cells 88)) := by
  have hb : Below w1.heap.size w1 (w1.alloc (.cells y.cells 88)) := (Below.refl _ _).alloc (Nat.le_refl _) _
  refine ⟨h1.below hb, hm.below hb, heap_alloc_new _ _, hm.size, fun e => by have := h1.lt _ e; omega, Nat.le_trans (popsaid_len h) hl, [], by simp, ?_⟩
  rcases h with ⟨rfl, h2, h3⟩ | ⟨rfl, rfl, rfl, rfl⟩
  · refine .inl ⟨rfl, h2.symm.trans List.perm_append_comm, fun z hz => h3.2 z ?_⟩
    exact h2.mem_iff.1 (by simp [hz])
  · exact .inr ⟨rfl, rfl, List.Perm.refl _⟩
theorem LSt.below (h : LSt F H M n O f l0 w X q x v l wr) (hb : Below wr.heap.size wr w1) : LSt F H M n O f l0 w X q x v l w1 :=
  ⟨h.fr.below hb, h.mv.below hb, (hb.block X (Array.getElem?_eq_some_iff.1 h.box).1).trans h.box, h.new, h.out, h.len, h.said⟩
/-- a round that popped one more, behind one that does not wait -/
theorem LSt.next (h : LSt F H M n O f l0 w X true x v l wr) (hs : Stale f x) {w2 : World} (h1 : FrAt F H M n w2 v' l' f) (hm : Moves (frO F H M v) (frO F H M v') (wr.alloc (.cells x.cells 88)) w2) (hp : PopSaid l l' y b) (i0 i1 : Value)
    (e0 : i0 = .int .u64 (y.key : Int)) (e1 : i1 = .int .u32 (y.id : Int)) :
    LSt F H M n O f l0 w wr.heap.size b y v' l' ((w2.setCell ⟨wr.heap.size, 0, none⟩ i0).setCell ⟨wr.heap.size, 1, none⟩ i1) := by
  subst e0 e1
  have hb : Below wr.heap.size wr (wr.alloc (.cells x.cells 88)) := (Below.refl _ _).alloc (Nat.le_refl _) _
  have hout : ¬ frO F H M v wr.heap.size := fun e => by have := h.fr.lt _ e; omega
  have hsz : wr.heap.size < (wr.alloc (.cells x.cells 88)).heap.size := by simp
  have hout' : ¬ frO F H M v' wr.heap.size := fun e => by
    rcases hm.own _ e with h2 | h2
    · exact hout h2
    · omega
  have hbox : w2.heap[wr.heap.size]? = some (.cells x.cells 88 (0, 0)) := (hm.block _ hsz hout).trans (heap_alloc_new _ _)
  have hmv : Moves O (frO F H M v') w w2 := (h.mv.below hb).trans hm
  have hnew : w.heap.size ≤ wr.heap.size := h.mv.size
  refine ⟨(h1.set hout' 0 _).set hout' 1 _, (hmv.set (.inr hnew) 0 _).set (.inr hnew) 1 _, ?_, hnew, hout', Nat.le_trans (popsaid_len hp) h.len, ?_⟩
  · have k0 := heap_setCell_same w2 wr.heap.size 0 _ _ (.int .u64 (y.key : Int)) hbox
    have k1 := heap_setCell_same _ wr.heap.size 1 _ _ (.int .u32 (y.id : Int)) k0
    exact k1
  · obtain ⟨gone, hg, hsd⟩ := h.said
    have hsd : l0.Perm (gone ++ (x :: l)) := by
      rcases hsd with ⟨_, h2, _⟩ | ⟨h2, _⟩
      · exact h2
      · cases h2
    refine ⟨gone ++ [x], fun z hz => ?_, ?_⟩
    · rw [List.mem_append] at hz
      rcases hz with hz | hz
      · exact hg z hz
      · have : z = x := by simpa using hz
        subst this; exact hs
    · rcases hp with ⟨rfl, h2, h3⟩ | ⟨rfl, rfl, rfl, rfl⟩
      · refine .inl ⟨rfl, ?_, fun z hz => h3.2 z (h2.mem_iff.1 (by simp [hz]))⟩
        rw [List.append_assoc]
        refine hsd.trans (List.Perm.append_left gone ?_)
        exact (h2.symm.trans List.perm_append_comm).cons x
      · exact .inr ⟨rfl, rfl, hsd⟩
end
set_option maxRecDepth 100000 in
set_option maxHeartbeats 8000000 in
theorem least_any (F H M n : Nat) (v0 : Value) (l0 : List Itm) (f : Nat → Option Nat) (w : World) (h : FrAt F H M n w v0 l0 f) (hl : l0.length ≤ 65536) :
    Calls Try.prog 31 #[.pointer (some ⟨F, 0, none⟩)] w fun e w' => ∃ v' l', Moves (frO F H M v0) (frO F H M v') w w' ∧
      ((∃ x, e = .returned (.tuple #[.int .u32 (x.id : Int), .int .u64 (x.key : Int), .bool true]) ∧ FrAt F H M n w' v' l' (off f x.id) ∧ Taken f l0 x l') ∨
       (e = .returned (.tuple #[.int .u32 0, .int .u64 0, .bool false]) ∧ FrAt F H M n w' v' l' f ∧ l' = [] ∧ ∀ y ∈ l0, Stale f y)) := by
  have c0 : w.cell? ⟨F, 0, none⟩ = some (.pointer (some ⟨H, 0, none⟩)) := cell_of_row _ _ 0 _ _ _ h.row
  have HF := Lib.hid h
  have HL := Lib.hid hl
  clear h hl
  go_enter Try.func31, Try.ntmps31
  go_wp2_with fail
  refine (pop_said H v0 l0 w HF.out.hp HL.out).mono ?_
  rintro e w1 ⟨v1, l1, y, b, rfl, k1, s1, p1⟩
  obtain ⟨q1, q2⟩ := HF.out.heap k1 s1
  have HST := Lib.hid (LSt.first HL.out q1 q2 p1)
  clear q1 q2 k1 s1 p1 c0
  dsimp only [Itm.agg]
  unfold Itm.cells at HST
  go_wp2_with fail
  go_loopw [5, 6] (fun va vb wr => ∃ X q x v l, va = .pointer (some ⟨X, 0, none⟩) ∧ vb = .bool q ∧ Hid (LSt F H M n (frO F H M v0) f l0 w X q x v l wr)) (fun _ vb wr => lenAt H wr + (match vb with | .bool true => 1 | _ => 0))
  case atStart => exact ⟨_, _, _, _, _, rfl, rfl, HST⟩
  case round =>
    clear HST
    obtain ⟨X, q, x, v, l, rfl, rfl, HS⟩ := hrel
    cases q with
    | false =>
      go_wp2_with fail
      go_ret3
      obtain ⟨gone, hg, hsd⟩ := HS.out.said
      rcases hsd with ⟨h2, _⟩ | ⟨_, h3, h4⟩
      · cases h2
      exact ⟨v, l, HS.out.mv, .inr ⟨rfl, HS.out.fr, h3, fun y hy => hg y (h4.mem_iff.1 hy)⟩⟩
    | true =>
      have m0 : wr.cell? ⟨F, 0, none⟩ = some (.pointer (some ⟨H, 0, none⟩)) := cell_of_row _ _ 0 _ _ _ HS.out.fr.row
      have m1 : wr.cell? ⟨F, 1, none⟩ = some (.map (some M)) := cell_of_row _ _ 1 _ _ _ HS.out.fr.row
      have x0 : wr.cell? ⟨X, 0, none⟩ = some (.int .u64 (x.key : Int)) := cell_of_row _ _ 0 _ _ _ HS.out.box
      have x1 : wr.cell? ⟨X, 1, none⟩ = some (.int .u32 (x.id : Int)) := cell_of_row _ _ 1 _ _ _ HS.out.box
      have hlk := fun k => (HS.out.fr.map.below (below_drewN (Below.refl _ wr) k)).look x.hid
      have HLN := Lib.hid HS.out.fr.hp.lenAt
      cases hf : f x.id with
      | none =>
        rw [hf] at hlk
        go_wp2_with fail
        go_quiet (fail)
        have HS3 := Lib.hid (HS.out.below (below_drewN (Below.refl _ wr) nq))
        have n0 : (wr.drewN nq).cell? ⟨F, 0, none⟩ = some (.pointer (some ⟨H, 0, none⟩)) := m0
        have n1 : (wr.drewN nq).cell? ⟨F, 1, none⟩ = some (.map (some M)) := m1
        have y0 : (wr.drewN nq).cell? ⟨X, 0, none⟩ = some (.int .u64 (x.key : Int)) := x0
        have y1 : (wr.drewN nq).cell? ⟨X, 1, none⟩ = some (.int .u32 (x.id : Int)) := x1
        have n2 : ∀ o, ((wr.drewN nq).alloc o).cell? ⟨F, 0, none⟩ = some (.pointer (some ⟨H, 0, none⟩)) := fun o => by rw [World.cell?_alloc_past _ _ _ (HS3.out.fr.lt F (.inl rfl))]; exact n0
        clear m0 m1 x0 x1
        generalize wr.drewN nq = W3 at *
        clear hlk
        go_wp2_with fail
        have hst : Stale f x := (by unfold Stale; rw [hf]; simp)
        have hb4 : Below W3.heap.size W3 (W3.alloc (.cells x.cells 88)) := (Below.refl _ _).alloc (Nat.le_refl _) _
        refine (pop_said H v l _ (HS3.out.fr.below hb4).hp HS3.out.len).mono ?_
        rintro e w4 ⟨v4, l4, y4, b4, rfl, k4, s4, p4⟩
        obtain ⟨q1, q2⟩ := (HS3.out.fr.below hb4).heap k4 s4
        have HN := Lib.hid (HS3.out.next hst q1 q2 p4 _ _ rfl rfl)
        have hbx : w4.heap[W3.heap.size]? = some (.cells x.cells 88 (0, 0)) := (q2.block _ (by simp) (fun e => by have := HS3.out.fr.lt _ e; omega)).trans (heap_alloc_new _ _)
        have b0 : w4.cell? ⟨W3.heap.size, 0, none⟩ = some (.int .u64 (x.key : Int)) := cell_of_row _ _ 0 _ _ _ hbx
        have b1 : w4.cell? ⟨W3.heap.size, 1, none⟩ = some (.int .u32 (x.id : Int)) := cell_of_row _ _ 1 _ _ _ hbx
        have z0 : w4.frozen? ⟨W3.heap.size, 0, none⟩ = false := frozen_of_row _ _ 0 _ _ hbx
        have z1 : w4.frozen? ⟨W3.heap.size, 1, none⟩ = false := frozen_of_row _ _ 1 _ _ hbx
        have HL4 : Hid (lenAt H wr + 1 = l.length + 1) := Lib.hid (by rw [HLN.out])
        have HP4 := Lib.hid p4
        clear q1 q2 k4 s4 hbx hb4 n0 n1 n2 y0 y1 hf p4
        generalize W3.heap.size = X3 at *
        dsimp only [Itm.agg]
        go_wp2_with fail
        go_roundw
        case rel => exact ⟨X3, b4, y4, v4, l4, rfl, rfl, HN⟩
        case measure =>
          have h1 := HN.out.fr.hp.lenAt
          have h2 := HL4.out
          rcases HP4.out with ⟨rfl, h3, _⟩ | ⟨rfl, rfl, rfl, _⟩
          · have := perm_len' h3
            simp
            omega
          · simp
            omega
      | some d =>
        rw [hf] at hlk
        by_cases hd : d = x.key
        · subst hd
          go_wp2_with fail
          go_quiet (fail)
          have HS3 := Lib.hid (HS.out.below (below_drewN (Below.refl _ wr) nq))
          have n0 : (wr.drewN nq).cell? ⟨F, 0, none⟩ = some (.pointer (some ⟨H, 0, none⟩)) := m0
          have n1 : (wr.drewN nq).cell? ⟨F, 1, none⟩ = some (.map (some M)) := m1
          have y0 : (wr.drewN nq).cell? ⟨X, 0, none⟩ = some (.int .u64 (x.key : Int)) := x0
          have y1 : (wr.drewN nq).cell? ⟨X, 1, none⟩ = some (.int .u32 (x.id : Int)) := x1
          have n2 : ∀ o, ((wr.drewN nq).alloc o).cell? ⟨F, 0, none⟩ = some (.pointer (some ⟨H, 0, none⟩)) := fun o => by rw [World.cell?_alloc_past _ _ _ (HS3.out.fr.lt F (.inl rfl))]; exact n0
          clear m0 m1 x0 x1
          generalize wr.drewN nq = W3 at *
          clear hlk n2
          go_wp2_with fail
          go_still_tail 6, (by kernel_rfl)
          change wpList _ _ _ _ _ W3.drew
          have HS4 : Hid (LSt F H M n (frO F H M v0) f l0 w X true x v l W3.drew) := Lib.hid (HS3.out.below (below_drewN (Below.refl _ W3) 1))
          obtain ⟨w5, hdel, hm5, hg5⟩ := HS4.out.fr.map.drop x.hid 0
          obtain ⟨q1, q2⟩ := HS4.out.fr.mapped hm5 hg5
          have Q1 := Lib.hid q1
          have Q2 := Lib.hid (HS4.out.mv.trans q2)
          have hX5 : w5.heap[X]? = some (.cells x.cells 88 (0, 0)) := (hg5.block X (Array.getElem?_eq_some_iff.1 HS4.out.box).1 (fun e => HS4.out.out (.inr (.inr (.inl (by injection e)))))).trans HS4.out.box
          have b0 : w5.cell? ⟨X, 0, none⟩ = some (.int .u64 (x.key : Int)) := cell_of_row _ _ 0 _ _ _ hX5
          have b1 : w5.cell? ⟨X, 1, none⟩ = some (.int .u32 (x.id : Int)) := cell_of_row _ _ 1 _ _ _ hX5
          clear q1 q2 hm5 hg5 hX5
          go_wp2_with fail
          go_ret3
          obtain ⟨gone, hg, hsd⟩ := HS4.out.said
          refine ⟨v, l, Q2.out, .inl ⟨x, rfl, Q1.out, hf, ?_, ?_⟩⟩
          · rcases hsd with ⟨_, h2, _⟩ | ⟨h2, _⟩
            · exact ⟨gone, h2, hg⟩
            · cases h2
          · rcases hsd with ⟨_, _, h2⟩ | ⟨h2, _⟩
            · exact h2
            · cases h2
        · have g1 : ((d : Int) == (x.key : Int)) = false := by rw [beq_eq_false_iff_ne]; omega
          go_wp2_with fail
          go_quiet (fail)
          have HS3 := Lib.hid (HS.out.below (below_drewN (Below.refl _ wr) nq))
          have n0 : (wr.drewN nq).cell? ⟨F, 0, none⟩ = some (.pointer (some ⟨H, 0, none⟩)) := m0
          have n1 : (wr.drewN nq).cell? ⟨F, 1, none⟩ = some (.map (some M)) := m1
          have y0 : (wr.drewN nq).cell? ⟨X, 0, none⟩ = some (.int .u64 (x.key : Int)) := x0
          have y1 : (wr.drewN nq).cell? ⟨X, 1, none⟩ = some (.int .u32 (x.id : Int)) := x1
          have n2 : ∀ o, ((wr.drewN nq).alloc o).cell? ⟨F, 0, none⟩ = some (.pointer (some ⟨H, 0, none⟩)) := fun o => by rw [World.cell?_alloc_past _ _ _ (HS3.out.fr.lt F (.inl rfl))]; exact n0
          clear m0 m1 x0 x1
          generalize wr.drewN nq = W3 at *
          clear hlk
          go_wp2_with fail
          have hst : Stale f x := (by unfold Stale; rw [hf]; intro e; injection e with e; exact hd e)
          have hb4 : Below W3.heap.size W3 (W3.alloc (.cells x.cells 88)) := (Below.refl _ _).alloc (Nat.le_refl _) _
          refine (pop_said H v l _ (HS3.out.fr.below hb4).hp HS3.out.len).mono ?_
          rintro e w4 ⟨v4, l4, y4, b4, rfl, k4, s4, p4⟩
          obtain ⟨q1, q2⟩ := (HS3.out.fr.below hb4).heap k4 s4
          have HN := Lib.hid (HS3.out.next hst q1 q2 p4 _ _ rfl rfl)
          have hbx : w4.heap[W3.heap.size]? = some (.cells x.cells 88 (0, 0)) := (q2.block _ (by simp) (fun e => by have := HS3.out.fr.lt _ e; omega)).trans (heap_alloc_new _ _)
          have b0 : w4.cell? ⟨W3.heap.size, 0, none⟩ = some (.int .u64 (x.key : Int)) := cell_of_row _ _ 0 _ _ _ hbx
          have b1 : w4.cell? ⟨W3.heap.size, 1, none⟩ = some (.int .u32 (x.id : Int)) := cell_of_row _ _ 1 _ _ _ hbx
          have z0 : w4.frozen? ⟨W3.heap.size, 0, none⟩ = false := frozen_of_row _ _ 0 _ _ hbx
          have z1 : w4.frozen? ⟨W3.heap.size, 1, none⟩ = false := frozen_of_row _ _ 1 _ _ hbx
          have HL4 : Hid (lenAt H wr + 1 = l.length + 1) := Lib.hid (by rw [HLN.out])
          have HP4 := Lib.hid p4
          clear q1 q2 k4 s4 hbx hb4 n0 n1 n2 y0 y1 hf p4
          generalize W3.heap.size = X3 at *
          dsimp only [Itm.agg]
          go_wp2_with fail
          go_roundw
          case rel => exact ⟨X3, b4, y4, v4, l4, rfl, rfl, HN⟩
          case measure =>
            have h1 := HN.out.fr.hp.lenAt
            have h2 := HL4.out
            rcases HP4.out with ⟨rfl, h3, _⟩ | ⟨rfl, rfl, rfl, _⟩
            · have := perm_len' h3
              simp
              omega
            · simp
              omega
end Go.Proofs.Ytpnmfhcmodoeiaa
