/- The anchor of stage 21: milepostlaw21.works returns true. -/
import Derived.Test.YtajepjfohdlgdaaMq
namespace Go.Proofs.Ytajepjfohdlgdaa
open Go.RowKit

/-- a block that holds the cells of a list, one element behind the other -/
theorem SR.block {α : Type} {sz : Nat} {enc : α → List Value} (hlen : ∀ x, (enc x).length = sz) {w : World} {g : Nat} {cs : Array Value} {t : TypeId} {fr : Nat × Nat} {l : List α} (hb : w.heap[g]? = some (.cells cs t fr)) (hcs : cs.toList = l.flatMap enc)
    (hl : l.length ≤ 4611686018427387904) {B : Nat} (hB : g < B) : SR sz enc B w (some ⟨g, 0, none⟩) l := by
  refine ⟨hl, fun i hi => ⟨g, 0, rfl, hB, fun j v hv => ?_⟩⟩
  have hj : j < sz := by rw [← hlen l[i]]; exact (List.getElem?_eq_some_iff.1 hv).1
  rw [cell_of_row w g _ cs t fr hb, ← Array.getElem?_toList, hcs, Nat.zero_add, flat_at hlen l i j hi hj]
  exact hv

def lb (h d : Nat) (hh : h < 4294967296 := by omega) (hd : d < 18446744073709551616 := by omega) : Lbl := ⟨h, 0, d, hh, by omega, hd⟩

theorem works_meet1 : (meetV [lb 1 0, lb 4 5, lb 9 2] [lb 4 1, lb 9 4, lb 12 0]).dist = 6 ∧ (meetV [lb 1 0, lb 4 5, lb 9 2] [lb 4 1, lb 9 4, lb 12 0]).hub = 4 ∧ (meetV [lb 1 0, lb 4 5, lb 9 2] [lb 4 1, lb 9 4, lb 12 0]).ok = true := by
  obtain ⟨h1, h2, h3⟩ := meet_ref [lb 1 0, lb 4 5, lb 9 2] [lb 4 1, lb 9 4, lb 12 0]
  rw [h1, h2, h3]
  decide +kernel
theorem works_meet2 : (meetV [lb 1 0] [lb 2 0]).ok = false := by
  obtain ⟨h1, h2, h3⟩ := meet_ref [lb 1 0] [lb 2 0]
  rw [h3]
  decide +kernel

theorem two_new (w : World) (c1 c2 : Array Value) (t : TypeId) : ((w.alloc (.cells c1 t)).alloc (.cells c2 t)).heap[w.heap.size]? = some (.cells c1 t (0, 0)) ∧ ((w.alloc (.cells c1 t)).alloc (.cells c2 t)).heap[w.heap.size + 1]? = some (.cells c2 t (0, 0)) ∧
    ((w.alloc (.cells c1 t)).alloc (.cells c2 t)).heap.size = w.heap.size + 2 ∧ Below w.heap.size w ((w.alloc (.cells c1 t)).alloc (.cells c2 t)) := by
  refine ⟨cells_alloc (World.alloc_heap_new w _) _, ?_, by simp, ((Below.refl _ _).alloc (Nat.le_refl _) _).alloc (by simp) _⟩
  have := World.alloc_heap_new (w.alloc (.cells c1 t)) (.cells c2 t)
  rwa [World.size_alloc] at this

/-- Meet of two slices that were just made -/
theorem meet_new (f b : List Lbl) (n n' c c' : Nat) (c1 c2 : Array Value) (w : World) (hn : n = f.length) (hn' : n' = b.length) (h1 : c1.toList = f.flatMap Lbl.enc) (h2 : c2.toList = b.flatMap Lbl.enc) (hl1 : f.length ≤ 100) (hl2 : b.length ≤ 100) :
    Calls Try.prog 11 #[.slice (some ⟨w.heap.size, 0, none⟩) n c, .slice (some ⟨w.heap.size + 1, 0, none⟩) n' c'] ((w.alloc (.cells c1 35)).alloc (.cells c2 35)) fun e w' =>
      e = .returned (.tuple #[.int .u64 ((meetV f b).dist : Int), .int .u32 ((meetV f b).hub : Int), .bool (meetV f b).ok]) ∧ Below w.heap.size w w' := by
  obtain ⟨e1, e2, e3, e4⟩ := two_new w c1 c2 35
  subst hn hn'
  refine (meet_any (w.heap.size + 2) _ _ f b c c' _ (SR.block (sz := 3) (enc := Lbl.enc) (l := f) (B := w.heap.size + 2) (fun _ => rfl) e1 h1 (by omega) (by omega)) (SR.block (sz := 3) (enc := Lbl.enc) (l := b) (B := w.heap.size + 2) (fun _ => rfl) e2 h2 (by omega) (by omega)) (by omega)).mono ?_
  rintro e w' ⟨he, hb⟩
  exact ⟨he, e4.trans (hb.mono (by rw [e3]; omega))⟩

set_option maxHeartbeats 2000000 in
theorem works_any (w : World) : Calls Try.prog 9 #[] w fun e w' => e = .returned (.bool true) ∧ Below w.heap.size w w' := by
  obtain ⟨m1, m2, m3⟩ := works_meet1
  have m4 := works_meet2
  have H1 := fun W => meet_new [lb 1 0, lb 4 5, lb 9 2] [lb 4 1, lb 9 4, lb 12 0] 3 3 3 3 #[.int .u32 1, .int .u32 0, .int .u64 0, .int .u32 4, .int .u32 0, .int .u64 5, .int .u32 9, .int .u32 0, .int .u64 2] #[.int .u32 4, .int .u32 0, .int .u64 1, .int .u32 9, .int .u32 0, .int .u64 4, .int .u32 12, .int .u32 0, .int .u64 0] W rfl rfl rfl rfl (by decide) (by decide)
  have H2 := fun W => meet_new [lb 1 0] [lb 2 0] 1 1 1 1 #[.int .u32 1, .int .u32 0, .int .u64 0] #[.int .u32 2, .int .u32 0, .int .u64 0] W rfl rfl rfl rfl (by decide) (by decide)
  rw [m1, m2, m3] at H1
  rw [m4] at H2
  generalize (meetV [lb 1 0] [lb 2 0]).dist = d2 at H2
  generalize (meetV [lb 1 0] [lb 2 0]).hub = h2 at H2
  have HA := Lib.hid H1
  have HB := Lib.hid H2
  clear H1 H2 m1 m2 m3 m4
  go_enter Try.func9, Try.ntmps9
  go_wp2_with fail
  refine (HA.out w).mono ?_
  rintro e w1 ⟨rfl, hb1⟩
  go_wp2_with fail
  refine (HB.out w1).mono ?_
  rintro e w2 ⟨rfl, hb2⟩
  go_wp2_with fail
  go_ret
  exact ⟨rfl, hb1.trans (hb2.mono hb1.size)⟩
end Go.Proofs.Ytajepjfohdlgdaa
