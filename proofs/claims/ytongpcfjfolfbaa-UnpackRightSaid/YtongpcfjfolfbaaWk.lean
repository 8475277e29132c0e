/- The anchor of stage 22: milepostlaw22.works returns true. -/
import Derived.Test.YtongpcfjfolfbaaOf
namespace Go.Proofs.Ytongpcfjfolfbaa
open Go.RowKit

theorem SR.block {α : Type} {sz : Nat} {enc : α → List Value} (hlen : ∀ x, (enc x).length = sz) {w : World} {g : Nat} {cs : Array Value} {t : TypeId} {fr : Nat × Nat} {l : List α} (hb : w.heap[g]? = some (.cells cs t fr)) (hcs : cs.toList = l.flatMap enc)
    (hl : l.length ≤ 4611686018427387904) {B : Nat} (hB : g < B) : SR sz enc B w (some ⟨g, 0, none⟩) l := by
  refine ⟨hl, fun i hi => ⟨g, 0, rfl, hB, fun j v hv => ?_⟩⟩
  have hj : j < sz := by rw [← hlen l[i]]; exact (List.getElem?_eq_some_iff.1 hv).1
  rw [cell_of_row w g _ cs t fr hb, ← Array.getElem?_toList, hcs, Nat.zero_add, flat_at hlen l i j hi hj]
  exact hv

def ed (t h wt m : Nat) (a1 : t < 4294967296 := by omega) (a2 : h < 4294967296 := by omega) (a3 : wt < 18446744073709551616 := by omega) (a4 : m < 4294967296 := by omega) : Edg := ⟨t, h, wt, m, a1, a2, a3, a4⟩
/-- the document's edges -/
def plainL : List Edg := [ed 1 2 3 4294967295, ed 2 4 5 4294967295, ed 1 4 8 2, ed 1 9 9 4, ed 4 9 2 4294967295]

/-- a shelf of the call's own -/
theorem OfAt.shelf {S : Nat} {w : World} {v : Value} {L : List Ent} (h : OfAt S w v L) (hL : L.length ≤ 4611686018427387904) : ∃ A c, v = .slice A L.length c ∧ ShelfAt S w.heap.size A c L w := by
  obtain ⟨A, c, rfl, hc⟩ := h.own.form
  exact ⟨A, c, rfl, cell_of_row _ _ 0 _ _ _ h.row, OwnS.sr (fun _ => rfl) h.own hL⟩

/-- where a shelf is in memory, First tells it -/
def ShelfIn (S B : Nat) (A : Option Addr) (c : Nat) (L : List Ent) (w : World) : Prop := B ≤ w.heap.size ∧ ShelfAt S B A c L w
theorem shelf_tells (S B : Nat) (A : Option Addr) (c : Nat) (L : List Ent) : Tells fFirst (.pointer (some ⟨S, 0, none⟩)) (shelfG L) (ShelfIn S B A c L) :=
  ⟨fun args w => run_enter Try.func14 (by kernel_rfl) rfl args w, fun a b w _ _ hI => first_any S B A c L a b w hI.1 hI.2⟩
theorem shelfIn_stays {S B M : Nat} {A : Option Addr} {c : Nat} {L : List Ent} (hS : S < M) (hB : B ≤ M) : Stays M (ShelfIn S B A c L) := fun w w' h hb => by
  refine ⟨?_, shelf_stays hS hB w w' h.2 hb⟩
  rcases Nat.eq_zero_or_pos B with h0 | h0
  · omega
  · have h1 := hb (B - 1) (by omega)
    have h2 : B - 1 < w.heap.size := by have := h.1; omega
    rw [Array.getElem?_eq_getElem h2] at h1
    have := (Array.getElem?_eq_some_iff.1 h1).1
    omega

theorem plain_any (w : World) : Calls Try.prog 25 #[] w fun e w' => ∃ S A c, e = .returned (.pointer (some ⟨S, 0, none⟩)) ∧ Below w.heap.size w w' ∧ S < w'.heap.size ∧ ShelfIn S w'.heap.size A c (entsOf plainL) w' := by
  have hb0 : Below w.heap.size w (w.alloc (.cells #[.int .u32 1, .int .u32 2, .int .u64 3, .int .u32 4294967295, .int .u32 2, .int .u32 4, .int .u64 5, .int .u32 4294967295, .int .u32 1, .int .u32 4, .int .u64 8, .int .u32 2, .int .u32 1, .int .u32 9, .int .u64 9, .int .u32 4, .int .u32 4, .int .u32 9, .int .u64 2, .int .u32 4294967295] 42)) := (Below.refl _ _).alloc (Nat.le_refl _) _
  have hl : ELs (w.heap.size + 1) (w.alloc (.cells #[.int .u32 1, .int .u32 2, .int .u64 3, .int .u32 4294967295, .int .u32 2, .int .u32 4, .int .u64 5, .int .u32 4294967295, .int .u32 1, .int .u32 4, .int .u64 8, .int .u32 2, .int .u32 1, .int .u32 9, .int .u64 9, .int .u32 4, .int .u32 4, .int .u32 9, .int .u64 2, .int .u32 4294967295] 42)) (some ⟨w.heap.size, 0, none⟩) plainL :=
    SR.block (sz := 4) (enc := Edg.enc) (l := plainL) (B := w.heap.size + 1) (fun _ => rfl) (heap_alloc_new w _) rfl (by decide) (by omega)
  have HO := Lib.hid (of_any _ _ 5 plainL _ hl (by simp) (by decide))
  have HB := Lib.hid hb0
  clear hb0 hl
  go_enter Try.func25, Try.ntmps25
  go_wp2_with fail
  refine HO.out.mono ?_
  rintro e w1 ⟨rfl, hb, v, hO⟩
  obtain ⟨A, c, rfl, hsh⟩ := hO.shelf (by rw [entsOf_length]; decide)
  rw [World.size_alloc] at hsh
  have HB1 := Lib.hid (HB.out.trans (hb.mono (by simp)))
  have HSh := Lib.hid hsh
  have HlS := Lib.hid hsh.lt
  clear hb hO hsh
  go_wp2_with fail
  go_ret
  exact ⟨_, A, c, rfl, HB1.out, HlS.out, Nat.le_refl _, HSh.out⟩

def plainW : List Edg := [ed 1 2 3 4294967295, ed 2 4 5 4294967295]
theorem plain_sum : sumOf plainW = 8 ∧ sumOk plainW = true := by decide +kernel
theorem plain_way1 : wayV (openV (shelfG (entsOf plainL)) 65536 [] 1 4) = (plainW, 0) := by decide +kernel
theorem plain_way2 : wayV (openV (shelfG (entsOf plainL)) 65536 [] 1 9) = ([], 7) := by decide +kernel
/-- Way by a shelf -/
theorem way_shelf (S B : Nat) (A : Option Addr) (c : Nat) (L : List Ent) (a b : Nat) (ha : a < 4294967296) (hb : b < 4294967296) (w : World) (hS : S < w.heap.size) (h : ShelfIn S B A c L w) :
    Calls Try.prog 13 #[.func (.func 14) #[.pointer (some ⟨S, 0, none⟩)] #[], .int .u32 (a : Int), .int .u32 (b : Int)] w (WayTold w (openV (shelfG L) 65536 [] a b)) :=
  way_any fFirst (.pointer (some ⟨S, 0, none⟩)) (shelfG L) _ (shelf_tells S B A c L) a b ha hb w h (shelfIn_stays hS h.1)
theorem refWay_shelf (S B : Nat) (A : Option Addr) (c : Nat) (L : List Ent) (a b : Nat) (ha : a < 4294967296) (hb : b < 4294967296) (w : World) (hS : S < w.heap.size) (h : ShelfIn S B A c L w) :
    Calls Try.prog 15 #[.pointer (some ⟨S, 0, none⟩), .int .u32 (a : Int), .int .u32 (b : Int)] w (WayTold w (openV (shelfG L) 65536 [] a b)) :=
  refWay_any (.pointer (some ⟨S, 0, none⟩)) (shelfG L) _ (shelf_tells S B A c L) a b ha hb w h (shelfIn_stays hS h.1)
theorem shelfIn_below {S B : Nat} {A : Option Addr} {c : Nat} {L : List Ent} {w w' : World} (h : ShelfIn S B A c L w) (hb : Below w.heap.size w w') (hS : S < w.heap.size) : ShelfIn S B A c L w' :=
  ⟨Nat.le_trans h.1 hb.size, h.2.keep fun p hp => hb.cell (p := p) (by rcases hp with h' | h' <;> have := h.1 <;> omega)⟩

set_option maxHeartbeats 2000000 in
theorem works_any (w : World) : Calls Try.prog 12 #[] w fun e w' => e = .returned (.bool true) ∧ Below w.heap.size w w' := by
  have HP := Lib.hid plain_any
  go_enter Try.func12, Try.ntmps12
  go_wp2_with fail
  refine (HP.out w).mono ?_
  rintro e w1 ⟨S, A, c, rfl, hb1, hS, hsh⟩
  have hmf : ∀ (fn : Fn) (first cap : Array Value) (w : World), (Instr.makeFunc fn first cap).run Try.prog w = .ok (.func fn first cap) w := fun _ _ _ _ => rfl
  have HB1 := Lib.hid hb1
  have HSh := Lib.hid hsh
  have HS := Lib.hid hS
  clear hb1 hsh hS
  go_wp2_with fail
  refine (way_shelf S _ A c _ 1 4 (by omega) (by omega) w1 HS.out HSh.out).mono ?_
  unfold WayTold
  rw [plain_way1]
  rintro e w2 ⟨A2, c2, rfl, hl, hb2⟩
  obtain ⟨b, o, rfl, _, k1, k2, k3, k4⟩ := ELs.at' hl 1 (by decide)
  have HL := Lib.hid hl
  have HB2 := Lib.hid hb2
  have HSh2 := Lib.hid (shelfIn_below HSh.out hb2 HS.out)
  have HS2 := Lib.hid (Nat.lt_of_lt_of_le HS.out hb2.size)
  clear hl hb2 k1 k2 k3 k4
  go_wp2_with fail
  refine (way_shelf S _ A c _ 1 9 (by omega) (by omega) w2 HS2.out HSh2.out).mono ?_
  unfold WayTold
  rw [plain_way2]
  rintro e w3 ⟨A3, c3, rfl, _, hb3⟩
  have HL3 := Lib.hid (HL.out.below hb3)
  have HB3 := Lib.hid hb3
  clear hb3
  go_wp2_with fail
  refine (sum_any _ _ plainW c2 w3 HL3.out).mono ?_
  rintro e w4 ⟨rfl, n, rfl⟩
  rw [plain_sum.1, plain_sum.2]
  have k1 : w3.cell? ⟨b, o + 1 * 4, none⟩ = some (.int .u32 2) := (ELs.row HL3.out 1 (by decide)).1
  go_wp2_with fail
  go_ret
  exact ⟨rfl, below_drewN (HB1.out.trans ((HB2.out.trans (HB3.out.mono HB2.out.size)).mono HB1.out.size)) n⟩
end Go.Proofs.Ytongpcfjfolfbaa
