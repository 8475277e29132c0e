/- The anchor of stage 17: milepostlaw17.works returns true. -/
import Derived.Test.YtiiaeddbeohplaaNq
namespace Go.Proofs.Ytiiaeddbeohplaa
open Go.RowKit
/-- a block that is written out reads as a list -/
theorem SR.many {α : Type} {sz : Nat} {enc : α → List Value} (hlen : ∀ x, (enc x).length = sz) {w : World} {g : Nat} {cs : Array Value} {t : TypeId} {fr : Nat × Nat} (l : List α) (hb : w.heap[g]? = some (.cells cs t fr)) (hcs : cs.toList = l.flatMap enc) (hl : l.length ≤ 4611686018427387904) (B : Nat) (hB : g < B) :
    SR sz enc B w (some ⟨g, 0, none⟩) l := by
  refine ⟨hl, fun i hi => ⟨g, 0, rfl, hB, fun j v hv => ?_⟩⟩
  have hj : j < sz := by rw [← hlen l[i]]; exact (List.getElem?_eq_some_iff.1 hv).1
  rw [cell_of_row w g _ cs t fr hb, Nat.zero_add, ← Array.getElem?_toList, hcs, flat_at hlen l i j hi hj]
  exact hv
theorem NetAt.nets {B B' NB : Nat} {E : List Edg} {bad shun : List Nat} {w w' : World} (h : NetAt B NB E bad shun w) (hB : B ≤ w.heap.size) (hb : Below w.heap.size w w') (hB' : w.heap.size ≤ B') : NetAt B' NB E bad shun w' := (h.below hB hb).more (Nat.le_trans hB hB')
def ed (a b c : Nat) (h1 : a < 4294967296 := by omega) (h2 : b < 4294967296 := by omega) (h3 : c < 18446744073709551616 := by omega) : Edg := ⟨a, b, c, 0, h1, h2, h3, by omega⟩
def workE : List Edg := [ed 0 1 2, ed 0 3 1, ed 1 2 3, ed 2 1 1, ed 3 2 4]
def gt0 (l : List Edg) : Edg := l.getD 0 Edg.nil
theorem gt0_eq {l : List Edg} (h : 0 < l.length) : gt0 l = l[0] := by unfold gt0; rw [List.getD_eq_getElem?_getD, List.getElem?_eq_getElem h]; rfl
theorem one_lt : 1 < 4294967296 := by omega
def workM : List Edg × Int := makeR (netOut workE []) (netIn workE []) (inB [3]) 1 one_lt
theorem work_err : workM.2 = 0 := by decide +kernel
theorem work_len : workM.1.length = 1 := by decide +kernel
theorem work_is : (gt0 workM.1).tail = 0 ∧ (gt0 workM.1).head = 2 ∧ (gt0 workM.1).weight = 5 ∧ (gt0 workM.1).mid = 1 := by decide +kernel
theorem work_count : countR (netOut workE []) (netIn workE []) 1 one_lt = (2, 1, 0, 0) := by decide +kernel
def workW1 (w : World) : World := w.alloc (.cells #[.int .u32 0, .int .u32 1, .int .u64 2, .int .u32 0, .int .u32 0, .int .u32 3, .int .u64 1, .int .u32 0, .int .u32 1, .int .u32 2, .int .u64 3, .int .u32 0, .int .u32 2, .int .u32 1, .int .u64 1, .int .u32 0, .int .u32 3, .int .u32 2, .int .u64 4, .int .u32 0] 43)
def workW2 (w : World) : World := (workW1 w).alloc (.cells #[.int .u32 3] 26)
def workW3 (w : World) : World := (workW2 w).alloc (.cells #[.slice (some ⟨w.heap.size, 0, none⟩) 5 5, .slice none 0 0, .slice (some ⟨w.heap.size + 1, 0, none⟩) 1 1] 25)
theorem work_nets (w : World) : NetAt (workW3 w).heap.size (w.heap.size + 1 + 1) workE [] [3] (workW3 w) ∧ Below w.heap.size w (workW3 w) := by
  have b1 : Below w.heap.size w (workW1 w) := (Below.refl _ _).alloc (Nat.le_refl _) _
  have s1 : (workW1 w).heap.size = w.heap.size + 1 := by unfold workW1; simp
  have b2 : Below (workW1 w).heap.size (workW1 w) (workW2 w) := (Below.refl _ _).alloc (Nat.le_refl _) _
  have s2 : (workW2 w).heap.size = w.heap.size + 1 + 1 := by unfold workW2; simp [s1]
  have b3 : Below (workW2 w).heap.size (workW2 w) (workW3 w) := (Below.refl _ _).alloc (Nat.le_refl _) _
  have s3 : (workW3 w).heap.size = w.heap.size + 1 + 1 + 1 := by unfold workW3; simp [s2]
  have e1 : ELs (w.heap.size + 1) (workW1 w) (some ⟨w.heap.size, 0, none⟩) workE := SR.many (sz := 4) (enc := Edg.enc) (fun _ => rfl) workE (heap_alloc_new _ _) rfl (by decide) _ (by omega)
  have e2 := (e1.more (Nat.le_of_eq s1.symm)).below b2
  have e3 := (e2.more (show (workW1 w).heap.size ≤ (workW2 w).heap.size by omega)).below b3
  have v2 : VLs (w.heap.size + 1 + 1) (workW2 w) (some ⟨w.heap.size + 1, 0, none⟩) [3] := SR.many (sz := 1) (enc := fun v : Nat => [Value.int .u32 (v : Int)]) (fun _ => rfl) [3] (by have := heap_alloc_new (workW1 w) (.cells #[.int .u32 3] 26); rw [s1] at this; exact this) rfl (by decide) _ (by omega)
  have v3 := (v2.more (Nat.le_of_eq s2.symm)).below b3
  have n3 : (workW3 w).heap[w.heap.size + 1 + 1]? = some (.cells #[.slice (some ⟨w.heap.size, 0, none⟩) 5 5, .slice none 0 0, .slice (some ⟨w.heap.size + 1, 0, none⟩) 1 1] 25 (0, 0)) := by have := heap_alloc_new (workW2 w) (.cells #[.slice (some ⟨w.heap.size, 0, none⟩) 5 5, .slice none 0 0, .slice (some ⟨w.heap.size + 1, 0, none⟩) 1 1] 25); rw [s2] at this; exact this
  exact ⟨⟨_, _, _, _, _, _, n3, e3.more (by omega), SR.nil _ _ _ _ _, v3.more (by omega)⟩, b1.trans ((b2.mono (by omega)).trans (b3.mono (by omega)))⟩
set_option maxRecDepth 100000 in
set_option maxHeartbeats 4000000 in
theorem works_any (w : World) : Calls Try.prog 11 #[] w fun e w' => e = .returned (.bool true) ∧ Below w.heap.size w w' := by
  obtain ⟨n1, hb⟩ := work_nets w
  obtain ⟨W4, hW4⟩ : ∃ W4, workW3 w = W4 := ⟨_, rfl⟩
  rw [hW4] at n1 hb
  have HW4 := Lib.hid hW4
  have N1 := Lib.hid n1
  have HB := Lib.hid hb
  have HMk := Lib.hid (make_net (w.heap.size + 1 + 1) workE [] [3] 1 one_lt W4 n1 (by decide))
  clear hW4 n1 hb
  have HE1 := Lib.hid work_err
  have HE2 := Lib.hid work_len
  have HE3 := Lib.hid work_is
  have HM2 : Hid (Calls Try.prog 12 _ W4 fun e w' => ∃ A c, e = .returned (.tuple #[.slice A workM.1.length c, .int .i64 workM.2]) ∧ ELs w'.heap.size w' A workM.1 ∧ Below W4.heap.size W4 w') := HMk
  rw [HE1.out, HE2.out] at HM2
  clear HMk HE1
  generalize workM.1 = R at *
  go_enter Try.func11, Try.ntmps11
  go_wp2_with fail
  have HX := HW4.out
  unfold workW3 workW2 workW1 at HX
  rw [HX]
  clear HX HW4
  generalize w.heap.size + 1 + 1 = NB at *
  refine HM2.out.mono ?_
  rintro e w1 ⟨A, c, rfl, hl, hb1⟩
  obtain ⟨p, o, hA, _, c0, c1, c2, c3⟩ := ELs.at' hl 0 (by rw [HE2.out]; omega)
  obtain ⟨r0, r1, r2, r3⟩ := HE3.out
  rw [gt0_eq (by rw [HE2.out]; omega)] at r0 r1 r2 r3
  rw [r0] at c0
  rw [r1] at c1
  rw [r2] at c2
  rw [r3] at c3
  subst hA
  have HCo := Lib.hid (count_net NB workE [] [3] 1 one_lt w1 (N1.out.nets (Nat.le_refl _) hb1 hb1.size) (by decide))
  rw [work_count] at HCo
  have HB1 := Lib.hid (HB.out.trans (hb1.mono HB.out.size))
  have HP0 := Lib.hid (World.block_lt_of_cell? w1 _ c0)
  have HC := Lib.hid (⟨c0, c1, c2, c3⟩ : _ ∧ _ ∧ _ ∧ _)
  clear hl hb1 r0 r1 r2 r3 c0 c1 c2 c3 HM2 HE2 HE3 N1 HB
  go_wp2_with fail
  refine HCo.out.mono ?_
  rintro e w2 ⟨rfl, hb2⟩
  obtain ⟨c0, c1, c2, c3⟩ := HC.out
  have hp : p < w1.heap.size := HP0.out
  have d0 := (hb2.cell (p := ⟨p, o + 0 * 4, none⟩) hp).trans c0
  have d1 := (hb2.cell (p := ⟨p, o + 0 * 4 + 1, none⟩) hp).trans c1
  have d2 := (hb2.cell (p := ⟨p, o + 0 * 4 + 2, none⟩) hp).trans c2
  have d3 := (hb2.cell (p := ⟨p, o + 0 * 4 + 3, none⟩) hp).trans c3
  rw [Nat.zero_mul, Nat.add_zero] at d0 d1 d2 d3
  have HB2 := Lib.hid (HB1.out.trans (hb2.mono HB1.out.size))
  clear c0 c1 c2 c3 HC HP0 hp hb2 HB1 HCo
  go_wp2_with fail
  go_ret
  exact ⟨rfl, HB2.out⟩
end Go.Proofs.Ytiiaeddbeohplaa
