/- The anchor of stage 14: milepostlaw14.works returns true. -/
import Derived.Test.YtpnmfhcmodoeiaaNc
import Derived.Test.YtpnmfhcmodoeiaaRl
namespace Go.Proofs.Ytpnmfhcmodoeiaa
open Go.RowKit
/-- a block that is written out reads as a list -/
theorem SR.many {α : Type} {sz : Nat} {enc : α → List Value} (hlen : ∀ x, (enc x).length = sz) {w : World} {g : Nat} {cs : Array Value} {t : TypeId} {fr : Nat × Nat} (l : List α) (hb : w.heap[g]? = some (.cells cs t fr)) (hcs : cs.toList = l.flatMap enc) (hl : l.length ≤ 4611686018427387904) (B : Nat) (hB : g < B) :
    SR sz enc B w (some ⟨g, 0, none⟩) l := by
  refine ⟨hl, fun i hi => ⟨g, 0, rfl, hB, fun j v hv => ?_⟩⟩
  have hj : j < sz := by rw [← hlen l[i]]; exact (List.getElem?_eq_some_iff.1 hv).1
  rw [cell_of_row w g _ cs t fr hb, Nat.zero_add, ← Array.getElem?_toList, hcs, flat_at hlen l i j hi hj]
  exact hv
def ed (a b c : Nat) (h1 : a < 4294967296 := by omega) (h2 : b < 4294967296 := by omega) (h3 : c < 18446744073709551616 := by omega) : Edg := ⟨a, b, c, 0, h1, h2, h3, by omega⟩
def workE : List Edg := [ed 0 1 2, ed 1 2 2, ed 0 2 5]
theorem work_a {a : List Nat} {b : Bool} {e : Int} (h : Finds (netOut workE []) (inB []) 0 2 4 a b e) : b = true ∧ e = 0 := by
  obtain ⟨_, h2, h3⟩ := finds_runL h
  exact ⟨h2.trans (by decide +kernel), h3.trans (by decide +kernel)⟩
theorem work_b {a : List Nat} {b : Bool} {e : Int} (h : Finds (netOut workE []) (inB []) 0 2 3 a b e) : b = false ∧ e = 0 := by
  obtain ⟨_, h2, h3⟩ := finds_runL h
  exact ⟨h2.trans (by decide +kernel), h3.trans (by decide +kernel)⟩
theorem work_c {a : List Nat} {b : Bool} {e : Int} (h : Finds (netOut workE []) (inB [1]) 0 2 4 a b e) : b = false ∧ e = 0 := by
  obtain ⟨_, h2, h3⟩ := finds_runL h
  exact ⟨h2.trans (by decide +kernel), h3.trans (by decide +kernel)⟩
theorem NetAt.nets {B B' NB : Nat} {E : List Edg} {bad shun : List Nat} {w w' : World} (h : NetAt B NB E bad shun w) (hB : B ≤ w.heap.size) (hb : Below w.heap.size w w') (hB' : w.heap.size ≤ B') : NetAt B' NB E bad shun w' := (h.below hB hb).more (Nat.le_trans hB hB')
def workW1 (w : World) : World := w.alloc (.cells #[.int .u32 0, .int .u32 1, .int .u64 2, .int .u32 0, .int .u32 1, .int .u32 2, .int .u64 2, .int .u32 0, .int .u32 0, .int .u32 2, .int .u64 5, .int .u32 0] 67)
def workW2 (w : World) : World := (workW1 w).alloc (.cells #[.slice (some ⟨w.heap.size, 0, none⟩) 3 3, .slice none 0 0, .slice none 0 0] 25)
def workW3 (w : World) : World := (workW2 w).alloc (.cells #[.int .u32 1] 26)
def workW4 (w : World) : World := (workW3 w).alloc (.cells #[.slice (some ⟨w.heap.size, 0, none⟩) 3 3, .slice none 0 0, .slice (some ⟨w.heap.size + 1 + 1, 0, none⟩) 1 1] 25)
theorem work_nets (w : World) : NetAt (workW4 w).heap.size (w.heap.size + 1) workE [] [] (workW4 w) ∧ NetAt (workW4 w).heap.size (w.heap.size + 1 + 1 + 1) workE [] [1] (workW4 w) ∧ Below w.heap.size w (workW4 w) := by
  have b1 : Below w.heap.size w (workW1 w) := (Below.refl _ _).alloc (Nat.le_refl _) _
  have s1 : (workW1 w).heap.size = w.heap.size + 1 := by unfold workW1; simp
  have b2 : Below (workW1 w).heap.size (workW1 w) (workW2 w) := (Below.refl _ _).alloc (Nat.le_refl _) _
  have s2 : (workW2 w).heap.size = w.heap.size + 1 + 1 := by unfold workW2; simp [s1]
  have b3 : Below (workW2 w).heap.size (workW2 w) (workW3 w) := (Below.refl _ _).alloc (Nat.le_refl _) _
  have s3 : (workW3 w).heap.size = w.heap.size + 1 + 1 + 1 := by unfold workW3; simp [s2]
  have b4 : Below (workW3 w).heap.size (workW3 w) (workW4 w) := (Below.refl _ _).alloc (Nat.le_refl _) _
  have s4 : (workW4 w).heap.size = w.heap.size + 1 + 1 + 1 + 1 := by unfold workW4; simp [s3]
  have e1 : ELs (w.heap.size + 1) (workW1 w) (some ⟨w.heap.size, 0, none⟩) workE := SR.many (sz := 4) (enc := Edg.enc) (fun _ => rfl) workE (heap_alloc_new _ _) rfl (by decide) _ (by omega)
  have e2 := (e1.more (Nat.le_of_eq s1.symm)).below b2
  have e3 := (e2.more (show (workW1 w).heap.size ≤ (workW2 w).heap.size by omega)).below b3
  have e4 := (e3.more (show (workW2 w).heap.size ≤ (workW3 w).heap.size by omega)).below b4
  have v3 : VLs (w.heap.size + 1 + 1 + 1) (workW3 w) (some ⟨w.heap.size + 1 + 1, 0, none⟩) [1] := SR.many (sz := 1) (enc := fun v : Nat => [Value.int .u32 (v : Int)]) (fun _ => rfl) [1] (by have := heap_alloc_new (workW2 w) (.cells #[.int .u32 1] 26); rw [s2] at this; exact this) rfl (by decide) _ (by omega)
  have v4 := (v3.more (Nat.le_of_eq s3.symm)).below b4
  have n2 : (workW2 w).heap[w.heap.size + 1]? = some (.cells #[.slice (some ⟨w.heap.size, 0, none⟩) 3 3, .slice none 0 0, .slice none 0 0] 25 (0, 0)) := by have := heap_alloc_new (workW1 w) (.cells #[.slice (some ⟨w.heap.size, 0, none⟩) 3 3, .slice none 0 0, .slice none 0 0] 25); rw [s1] at this; exact this
  have n4 : (workW4 w).heap[w.heap.size + 1 + 1 + 1]? = some (.cells #[.slice (some ⟨w.heap.size, 0, none⟩) 3 3, .slice none 0 0, .slice (some ⟨w.heap.size + 1 + 1, 0, none⟩) 1 1] 25 (0, 0)) := by have := heap_alloc_new (workW3 w) (.cells #[.slice (some ⟨w.heap.size, 0, none⟩) 3 3, .slice none 0 0, .slice (some ⟨w.heap.size + 1 + 1, 0, none⟩) 1 1] 25); rw [s3] at this; exact this
  refine ⟨⟨_, _, _, _, _, _, (b4.block _ (by omega)).trans ((b3.block _ (by omega)).trans n2), e4.more (by omega), SR.nil _ _ _ _ _, SR.nil _ _ _ _ _⟩, ⟨_, _, _, _, _, _, n4, e4.more (by omega), SR.nil _ _ _ _ _, v4.more (by omega)⟩, ?_⟩
  exact b1.trans ((b2.mono (by omega)).trans ((b3.mono (by omega)).trans (b4.mono (by omega))))
set_option maxRecDepth 100000 in
set_option maxHeartbeats 4000000 in
theorem works_any (w : World) : Calls Try.prog 12 #[] w fun e w' => e = .returned (.bool true) ∧ Below w.heap.size w w' := by
  obtain ⟨n1, n2, hb⟩ := work_nets w
  obtain ⟨W4, hW4⟩ : ∃ W4, workW4 w = W4 := ⟨_, rfl⟩
  rw [hW4] at n1 n2 hb
  have HW4 := Lib.hid hW4
  have N1 := Lib.hid n1
  have N2 := Lib.hid n2
  have HB := Lib.hid hb
  clear hW4 n1 n2 hb
  go_enter Try.func12, Try.ntmps12
  go_wp2_with fail
  have HX := HW4.out
  unfold workW4 workW3 workW2 workW1 at HX
  rw [HX]
  clear HX HW4
  generalize w.heap.size + 1 = NB at *
  generalize NB + 1 + 1 = MB at *
  refine (find_net NB workE [] [] 0 2 4 (by omega) W4 N1.out (by decide)).mono ?_
  rintro e w1 ⟨a1, q1, r1, f1, rfl, hb1⟩
  obtain ⟨rfl, rfl⟩ := work_a f1
  have N1' := Lib.hid (N1.out.nets (Nat.le_refl _) hb1 (Nat.le_refl _))
  have N2' := Lib.hid (N2.out.nets (Nat.le_refl _) hb1 (Nat.le_refl _))
  have HB1 := Lib.hid hb1
  clear hb1 f1
  go_wp2_with fail
  refine (find_net NB workE [] [] 0 2 3 (by omega) w1 (N1'.out.more HB1.out.size) (by decide)).mono ?_
  rintro e w2 ⟨a2, q2, r2, f2, rfl, hb2⟩
  obtain ⟨rfl, rfl⟩ := work_b f2
  have N2'' := Lib.hid ((N2'.out.more HB1.out.size).nets (Nat.le_refl _) hb2 hb2.size)
  have HB2 := Lib.hid (HB1.out.trans (hb2.mono HB1.out.size))
  clear hb2 f2 HB1
  go_wp2_with fail
  refine (find_net MB workE [] [1] 0 2 4 (by omega) w2 N2''.out (by decide)).mono ?_
  rintro e w3 ⟨a3, q3, r3, f3, rfl, hb3⟩
  obtain ⟨rfl, rfl⟩ := work_c f3
  have HB3 := Lib.hid (HB.out.trans ((HB2.out.trans (hb3.mono HB2.out.size)).mono HB.out.size))
  clear hb3 f3 HB2
  go_wp2_with fail
  go_ret
  exact ⟨rfl, HB3.out⟩
end Go.Proofs.Ytpnmfhcmodoeiaa
