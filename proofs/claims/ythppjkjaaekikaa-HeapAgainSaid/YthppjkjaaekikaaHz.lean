/- The anchor of stage 4: milepostlaw04.works returns true; Len by what a heap holds. -/
import Derived.Test.YthppjkjaaekikaaHo
import Derived.Test.YthppjkjaaekikaaHl
import Derived.Test.YthppjkjaaekikaaHn
import Derived.Test.YthppjkjaaekikaaHe
import Derived.Test.YthppjkjaaekikaaHr
namespace Go.Proofs.Ythppjkjaaekikaa
open Go.RowKit
def it (k i : Nat) (h1 : k < 18446744073709551616 := by omega) (h2 : i < 4294967296 := by omega) : Itm := ⟨k, i, h1, h2⟩
theorem oi_cell {mk : Value → Array Value} {T : TypeId} {H : Nat} {w : World} {v : Value} {l : List Itm} (h : OI mk T H w v l) (hmk : (mk v)[0]? = some v) : ∃ A c, v = .slice A l.length c ∧ w.cell? ⟨H, 0, none⟩ = some (.slice A l.length c) := by
  obtain ⟨A, c, rfl⟩ := h.form
  exact ⟨A, c, rfl, (cell_of_row _ _ 0 _ _ _ h.row).trans hmk⟩
theorem len_ho (H : Nat) (v : Value) (l : List Itm) (w : World) (h : HO H w v l) :
    Calls Try.prog 15 #[.pointer (some ⟨H, 0, none⟩)] w fun e w' => e = .returned (.int .i64 (l.length : Int)) ∧ w = w' := by
  obtain ⟨A, c, rfl, hc⟩ := oi_cell h rfl
  exact len_any H l.length c A w hc
theorem rlen_ro (H : Nat) (v : Value) (l : List Itm) (w : World) (h : RO H w v l) :
    Calls Try.prog 16 #[.pointer (some ⟨H, 0, none⟩)] w fun e w' => e = .returned (.int .i64 (l.length : Int)) ∧ w = w' := by
  obtain ⟨A, c, rfl, hc⟩ := oi_cell h rfl
  exact rlen_any H l.length c A w hc
theorem pop_none (H : Nat) (v : Value) (w : World) (h : HO H w v []) :
    Calls Try.prog 11 #[.pointer (some ⟨H, 0, none⟩)] w fun e w' => e = .returned (.tuple #[Itm.nil.agg, .bool false]) ∧ Below w.heap.size w w' := by
  obtain ⟨A, c, rfl, hc⟩ := oi_cell h rfl
  exact pop_empty H c A w hc
theorem new_hp (w : World) :
    Calls Try.prog 10 #[] w fun e w' => e = .returned (.pointer (some ⟨w.heap.size, 0, none⟩)) ∧ HP w.heap.size w' (.slice none 0 0) [] ∧ Below w.heap.size w w' :=
  (new_any w).mono fun _ _ ⟨he, hr, hb⟩ => ⟨he, ⟨OI.fresh hr, IsHeap.nil⟩, hb⟩
theorem Step.low {mk : Value → Array Value} {T : TypeId} {H B : Nat} {w w0 w' : World} {v v' : Value} {l : List Itm} (hb : Below B w0 w) (h : OI mk T H w v l) (hs : Step H v v' w w') (hB : B ≤ H) : Below B w0 w' := hb.trans (h.keeps_below hs.keeps hB)
theorem perm_len {l l' : List Itm} {x : Itm} (h : l'.Perm (l ++ [x])) : l'.length = l.length + 1 := by rw [h.length_eq]; simp
theorem perm_len' {l l' : List Itm} {x : Itm} (h : (l' ++ [x]).Perm l) : l'.length + 1 = l.length := by rw [← h.length_eq]; simp
set_option maxRecDepth 100000 in
set_option maxHeartbeats 4000000 in
theorem works_any (w : World) : Calls Try.prog 17 #[] w fun e w' => e = .returned (.bool true) ∧ Below w.heap.size w w' := by
  go_enter Try.func17, Try.ntmps17
  go_wp2_with fail
  refine (new_hp w).mono ?_
  rintro e w1 ⟨rfl, h1, hb1⟩
  have H1 := Lib.hid h1
  have HB1 := Lib.hid hb1
  clear h1 hb1
  generalize hHe : w.heap.size = H at *
  have HE := Lib.hid hHe
  clear hHe
  go_wp2_with fail
  refine (push_hp H _ [] (it 5 1) w1 H1.out (by simp)).mono ?_
  rintro e w2 ⟨rfl, v2, l2, h2, p2, s2⟩
  have H2 := Lib.hid h2
  have P2 := Lib.hid p2
  have HB2 := Lib.hid (s2.low HB1.out H1.out.oi (Nat.le_refl _))
  clear h2 p2 s2 H1 HB1
  go_wp2_with fail
  refine (push_hp H _ l2 (it 3 9) w2 H2.out (by rw [perm_len P2.out]; simp)).mono ?_
  rintro e w3 ⟨rfl, v3, l3, h3, p3, s3⟩
  have H3 := Lib.hid h3
  have P3 := Lib.hid p3
  have HB3 := Lib.hid (s3.low HB2.out H2.out.oi (Nat.le_refl _))
  have L3 : Hid (l3.length = 2) := Lib.hid (by rw [perm_len P3.out, perm_len P2.out]; rfl)
  clear h3 p3 s3 H2 HB2
  go_wp2_with fail
  refine (pop_hp H _ l3 w3 H3.out (by rw [L3.out]; omega) (by rw [L3.out]; omega)).mono ?_
  rintro e w4 ⟨v4, l4, x, rfl, h4, p4, m4, s4⟩
  have hx : x = it 3 9 := by
    have hp : l3.Perm [it 5 1, it 3 9] := P3.out.trans (P2.out.append_right [it 3 9])
    have hm := hp.mem_iff.1 m4.1
    have hr := m4.2 (it 3 9) (hp.mem_iff.2 (by simp))
    simp only [List.mem_cons, List.not_mem_nil, or_false] at hm
    rcases hm with rfl | rfl
    · revert hr; decide
    · rfl
  subst hx
  have L4 : Hid (l4.length = 1) := Lib.hid (by have := perm_len' p4; rw [L3.out] at this; omega)
  have H4 := Lib.hid h4
  have HB4 := Lib.hid (s4.low HB3.out H3.out.oi (Nat.le_refl _))
  clear h4 p4 m4 s4 H3 HB3
  unfold it Itm.agg
  go_wp2_with (go_at_call 15; refine (len_ho H v4 l4 _ (H4.out.oi.below ((Below.refl _ _).alloc (Nat.le_refl _) _))).mono ?_; rw [L4.out]; rintro e w5 ⟨rfl, rfl⟩)
  go_ret
  exact ⟨rfl, by rw [HE.out]; exact HB4.out.alloc (by have := HB4.out.size; have := HE.out; omega) _⟩
end Go.Proofs.Ythppjkjaaekikaa
