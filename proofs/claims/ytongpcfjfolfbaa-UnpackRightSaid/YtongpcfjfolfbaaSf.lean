/- The contract of Shelf.First: of each pair the first entry is told. -/
import Derived.Test.YtongpcfjfolfbaaRy
import Derived.Test.YtongpcfjfolfbaaUt
namespace Go.Proofs.Ytongpcfjfolfbaa
open Go.RowKit

structure Ent where
  a : Nat
  b : Nat
  e : Edg
  ha : a < 4294967296
  hb : b < 4294967296
def Ent.enc (x : Ent) : List Value := [.int .u32 (x.a : Int), .int .u32 (x.b : Int), .int .u32 (x.e.tail : Int), .int .u32 (x.e.head : Int), .int .u64 (x.e.weight : Int), .int .u32 (x.e.mid : Int)]
/-- what a shelf tells -/
def shelfG (L : List Ent) (a b : Nat) : Edg × Int :=
  match L.find? (fun x => x.a == a && x.b == b) with
  | some x => (x.e, 0)
  | none => (Edg.nil, 3)
def NoneTo (L : List Ent) (a b k : Nat) : Prop := ∀ i (h : i < L.length), i < k → ¬ (L[i].a = a ∧ L[i].b = b)
theorem NoneTo.zero (L : List Ent) (a b : Nat) : NoneTo L a b 0 := fun i _ hk => absurd hk (by omega)
theorem NoneTo.next {L : List Ent} {a b k : Nat} (hn : NoneTo L a b k) (hk : k < L.length) (hne : ¬ (L[k].a = a ∧ L[k].b = b)) : NoneTo L a b (k + 1) := fun i hi hik => by
  rcases Nat.lt_or_ge i k with h | h
  · exact hn i hi h
  · obtain rfl : i = k := by omega
    exact hne
theorem NoneTo.hit {L : List Ent} {a b k : Nat} (hn : NoneTo L a b k) (hk : k < L.length) (he : L[k].a = a ∧ L[k].b = b) : shelfG L a b = (L[k].e, 0) := by
  have : L.find? (fun x => x.a == a && x.b == b) = some L[k] := by
    rw [List.find?_eq_some_iff_getElem]
    refine ⟨by simp [he], k, hk, rfl, fun j hj => ?_⟩
    have := hn j (by omega) hj
    simp only [Bool.not_eq_true']
    cases h1 : (L[j].a == a && L[j].b == b) with
    | false => rfl
    | true => simp only [Bool.and_eq_true, beq_iff_eq] at h1; exact absurd h1 this
  unfold shelfG
  rw [this]
theorem NoneTo.miss {L : List Ent} {a b k : Nat} (hn : NoneTo L a b k) (hk : L.length ≤ k) : shelfG L a b = (Edg.nil, 3) := by
  have : L.find? (fun x => x.a == a && x.b == b) = none := by
    rw [List.find?_eq_none]
    intro x hx
    obtain ⟨i, hi, rfl⟩ := List.getElem_of_mem hx
    have := hn i hi (by omega)
    simpa using this
  unfold shelfG
  rw [this]

abbrev EnLs := SR 6 Ent.enc
theorem EnLs.at' {B : Nat} {w : World} {A : Option Addr} {l : List Ent} (h : EnLs B w A l) (i : Nat) (hi : i < l.length) :
    ∃ b o : Nat, A = some ⟨b, o, none⟩ ∧ b < B ∧ w.cell? ⟨b, o + i * 6, none⟩ = some (.int .u32 (l[i].a : Int)) ∧ w.cell? ⟨b, o + i * 6 + 1, none⟩ = some (.int .u32 (l[i].b : Int)) ∧
      w.cell? ⟨b, o + i * 6 + 2, none⟩ = some (.int .u32 (l[i].e.tail : Int)) ∧ w.cell? ⟨b, o + i * 6 + 3, none⟩ = some (.int .u32 (l[i].e.head : Int)) ∧ w.cell? ⟨b, o + i * 6 + 4, none⟩ = some (.int .u64 (l[i].e.weight : Int)) ∧ w.cell? ⟨b, o + i * 6 + 5, none⟩ = some (.int .u32 (l[i].e.mid : Int)) := by
  obtain ⟨b, o, hA, hb, hc⟩ := h.at_ i hi
  exact ⟨b, o, hA, hb, hc 0 _ rfl, hc 1 _ rfl, hc 2 _ rfl, hc 3 _ rfl, hc 4 _ rfl, hc 5 _ rfl⟩

/-- a shelf in memory -/
structure ShelfAt (S B : Nat) (A : Option Addr) (c : Nat) (L : List Ent) (w : World) : Prop where
  cell : w.cell? ⟨S, 0, none⟩ = some (.slice A L.length c)
  sr : EnLs B w A L
theorem ShelfAt.lt {S B : Nat} {A : Option Addr} {c : Nat} {L : List Ent} {w : World} (h : ShelfAt S B A c L w) : S < w.heap.size := World.block_lt_of_cell? w _ h.cell
theorem ShelfAt.keep {S B : Nat} {A : Option Addr} {c : Nat} {L : List Ent} {w w' : World} (h : ShelfAt S B A c L w) (hk : ∀ p : Addr, p.block = S ∨ p.block < B → w'.cell? p = w.cell? p) : ShelfAt S B A c L w' :=
  ⟨(hk _ (.inl rfl)).trans h.cell, h.sr.keep fun p hp => hk p (.inr hp)⟩
theorem shelf_stays {S B M : Nat} {A : Option Addr} {c : Nat} {L : List Ent} (hS : S < M) (hB : B ≤ M) : Stays M (ShelfAt S B A c L) := fun w w' h hb =>
  h.keep fun p hp => World.cell?_of_block (hb p.block (by rcases hp with h | h <;> omega))

set_option maxHeartbeats 2000000 in
theorem first_any (S B : Nat) (A : Option Addr) (c : Nat) (L : List Ent) (a b : Nat) (w : World) (hB : B ≤ w.heap.size) (h : ShelfAt S B A c L w) :
    Calls Try.prog 14 #[.pointer (some ⟨S, 0, none⟩), .int .u32 (a : Int), .int .u32 (b : Int)] w fun e w' => e = .returned (.tuple #[(shelfG L a b).1.agg, .int .i64 (shelfG L a b).2]) ∧ Below w.heap.size w w' := by
  have hlen := h.sr.len
  have hlt := h.lt
  have hbw : Below w.heap.size w (w.alloc (.cells #[.int .u32 0, .int .u32 0, .int .u64 0, .int .u32 0] 42)) := (Below.refl _ _).alloc (Nat.le_refl _) _
  have h1 : ShelfAt S B A c L (w.alloc (.cells #[.int .u32 0, .int .u32 0, .int .u64 0, .int .u32 0] 42)) := h.keep fun p hp => hbw.cell (by rcases hp with h | h <;> omega)
  have H1 := Lib.hid h1
  have hc := h1.cell
  clear h h1
  go_enter Try.func14, Try.ntmps14
  go_wp2_with fail
  obtain ⟨W, hW⟩ : ∃ W, w.alloc (.cells #[.int .u32 0, .int .u32 0, .int .u64 0, .int .u32 0] 42) = W := ⟨_, rfl⟩
  have hrow : W.heap[w.heap.size]? = some (.cells #[.int .u32 0, .int .u32 0, .int .u64 0, .int .u32 0] 42 (0, 0)) := by rw [← hW]; exact heap_alloc_new w _
  rw [hW] at H1 hc hbw
  rw [hW]
  have hrow' : W.heap[w.heap.size]? = some (.cells Edg.nil.cells 42 (0, 0)) := hrow
  obtain ⟨b0, b1, b2, b3⟩ := cells_of hrow'
  obtain ⟨f0, f1, f2, f3⟩ := frozen_of hrow'
  have HR := Lib.hid hrow'
  have hgs : w.heap.size < W.heap.size := (Array.getElem?_eq_some_iff.1 hrow).1
  clear hrow hrow'
  have HB := Lib.hid hbw
  clear hW hbw
  go_loop [8] (fun vi => ∃ i : Nat, i ≤ L.length ∧ vi = .int .i64 i ∧ Hid (NoneTo L a b i)) (fun vi => L.length - (intOf vi).toNat)
  case atStart => exact ⟨0, by omega, rfl, NoneTo.zero L a b⟩
  case round =>
    obtain ⟨i, hi, rfl, HN⟩ := hrel
    by_cases hl : i < L.length
    · obtain ⟨p, o, rfl, hp, c0, c1, c2, c3, c4, c5⟩ := EnLs.at' H1.out.sr i hl
      have e1 : (0:Int) ≤ (i:Int) := by omega
      have e2 : (i:Int) < L.length := by omega
      by_cases h0 : L[i].a = a
      · have g0 : ((L[i].a : Int) == (a : Int)) = true := by rw [h0]; exact beq_self_eq_true _
        by_cases h1 : L[i].b = b
        · have g1 : ((L[i].b : Int) == (b : Int)) = true := by rw [h1]; exact beq_self_eq_true _
          have HV := Lib.hid (HN.out.hit hl ⟨h0, h1⟩)
          clear h0 h1 HN
          generalize L[i] = x at *
          go_wp2_with fail
          have hr := set4 x.e HR.out
          have hb2 := low4 HB.out (Nat.le_refl _) (.int .u32 (x.e.tail : Int)) (.int .u32 (x.e.head : Int)) (.int .u64 (x.e.weight : Int)) (.int .u32 (x.e.mid : Int))
          obtain ⟨k0, k1, k2, k3⟩ := cells_of hr
          generalize ((((W.setCell ⟨w.heap.size, 0, none⟩ (.int .u32 (x.e.tail : Int))).setCell ⟨w.heap.size, 1, none⟩ (.int .u32 (x.e.head : Int))).setCell ⟨w.heap.size, 2, none⟩ (.int .u64 (x.e.weight : Int))).setCell ⟨w.heap.size, 3, none⟩ (.int .u32 (x.e.mid : Int))) = W5 at *
          exact bodyPost_ret (v := .tuple #[.agg #[.int .u32 (x.e.tail : Int), .int .u32 (x.e.head : Int), .int .u64 (x.e.weight : Int), .int .u32 (x.e.mid : Int)], .int .i64 0]) (by simp [results, Try.results14, go_sem, k0, k1, k2, k3]) rfl ⟨by rw [HV.out]; rfl, hb2⟩
        · have g1 : ((L[i].b : Int) == (b : Int)) = false := by rw [beq_eq_false_iff_ne]; omega
          have HN2 := Lib.hid (HN.out.next hl (fun e => h1 e.2))
          clear h0 h1 HN
          generalize L[i] = x at *
          go_wp2_with fail
          go_round
          case rel => exact ⟨i + 1, by omega, by go_num, HN2⟩
          case measure => simp [intOf]; omega
      · have g0 : ((L[i].a : Int) == (a : Int)) = false := by rw [beq_eq_false_iff_ne]; omega
        have HN2 := Lib.hid (HN.out.next hl (fun e => h0 e.1))
        clear h0 HN
        generalize L[i] = x at *
        go_wp2_with fail
        go_round
        case rel => exact ⟨i + 1, by omega, by go_num, HN2⟩
        case measure => simp [intOf]; omega
    · have HV := Lib.hid (HN.out.miss (by omega))
      clear HN
      go_wp2_with fail
      have hr := set4 Edg.nil HR.out
      have hb2 := low4 HB.out (Nat.le_refl _) (.int .u32 0) (.int .u32 0) (.int .u64 0) (.int .u32 0)
      have hr2 : ((((W.setCell ⟨w.heap.size, 0, none⟩ (.int .u32 0)).setCell ⟨w.heap.size, 1, none⟩ (.int .u32 0)).setCell ⟨w.heap.size, 2, none⟩ (.int .u64 0)).setCell ⟨w.heap.size, 3, none⟩ (.int .u32 0)).heap[w.heap.size]? = some (.cells Edg.nil.cells 42 (0, 0)) := hr
      obtain ⟨k0, k1, k2, k3⟩ := cells_of hr2
      clear hr hr2
      generalize ((((W.setCell ⟨w.heap.size, 0, none⟩ (.int .u32 0)).setCell ⟨w.heap.size, 1, none⟩ (.int .u32 0)).setCell ⟨w.heap.size, 2, none⟩ (.int .u64 0)).setCell ⟨w.heap.size, 3, none⟩ (.int .u32 0)) = W5 at *
      exact bodyPost_ret (v := .tuple #[Edg.nil.agg, .int .i64 3]) (by simp [results, Try.results14, go_sem, k0, k1, k2, k3, Edg.nil, Edg.agg]) rfl ⟨by rw [HV.out], hb2⟩
end Go.Proofs.Ytongpcfjfolfbaa
