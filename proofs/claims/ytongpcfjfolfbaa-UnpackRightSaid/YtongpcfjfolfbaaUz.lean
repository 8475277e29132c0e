/- The contracts of unpack.Way and of what it defers. -/
import Derived.Test.YtongpcfjfolfbaaUy
import Derived.Recover
namespace Go.Proofs.Ytongpcfjfolfbaa
open Go.RowKit

theorem catch_idle (p q : Addr) (w : World) : CallsD Try.prog 26 #[.pointer (some p), .pointer (some q)] .returning w fun e u' w' => e = .returned (.tuple #[]) ∧ u' = .returning ∧ w = w' := by
  refine callsD_of_wpS Try.func26 rfl fun c₀ cs hu => ?_
  apply wpS_seq
  apply wpS_region
  simp [wpOpsS, go_sem, recoverD, hu, Try.ntmps26, Exit.thenS]
  refine wpS_of_wp ?_
  simp only [Array.replicate, List.replicate, List.setIfInBounds_toArray, List.set_cons_zero, List.set_cons_succ, List.append_toArray, List.cons_append, List.nil_append]
  go_wp2_with fail
  exact ⟨rfl, c₀.mode, rfl, _, by simp [results, Try.results26], rfl, hu, rfl⟩
theorem assert_wrong (er : Int) (w : World) : (Instr.typeAssert (.iface 62 (.int .i64 er)) 20 62 true).run Try.prog w = .ok (.tuple #[.int .i64 er, .bool true]) w := by kernel_rfl
theorem catch_wrong (p q : Addr) (er : Int) (x y : Value) (older : List PanicEntry) (w : World) (hp : w.cell? p = some x) (hq : w.cell? q = some y) (zp : w.frozen? p = false) (zq : w.frozen? q = false) (hne : p.block ≠ q.block) :
    CallsD Try.prog 26 #[.pointer (some p), .pointer (some q)] (.panicking ({ v := .iface 62 (.int .i64 er), recovered := false } :: older)) w fun e u' w' =>
      e = .returned (.tuple #[]) ∧ u' = .panicking ({ v := .iface 62 (.int .i64 er), recovered := true } :: older) ∧ w' = (w.setCell p (.slice none 0 0)).setCell q (.int .i64 er) := by
  have hta := assert_wrong
  have hq' : (w.setCell p (.slice none 0 0)).cell? q = some y := by rw [World.cell?_setCell_other _ _ _ _ (fun e => hne (by rw [e]))]; exact hq
  refine callsD_of_wpS Try.func26 rfl fun c₀ cs hu => ?_
  apply wpS_seq
  apply wpS_region
  simp [wpOpsS, go_sem, recoverD, hu, Try.ntmps26, Exit.thenS]
  refine wpS_of_wp ?_
  simp only [Array.replicate, List.replicate, List.setIfInBounds_toArray, List.set_cons_zero, List.set_cons_succ, List.append_toArray, List.cons_append, List.nil_append]
  go_wp2_with fail
  refine ⟨rfl, _, rfl, _, ?_, rfl, rfl, rfl⟩
  simp [results, Try.results26]
/-- what Way tells -/
def wayV : Res → List Edg × Int
  | .bad e => ([], e)
  | .good _ L => (L, 0)
def WayTold (w : World) (r : Res) (e : Ending) (w' : World) : Prop :=
  ∃ A c, e = .returned (.tuple #[.slice A (wayV r).1.length c, .int .i64 (wayV r).2]) ∧ ELs w'.heap.size w' A (wayV r).1 ∧ Below w.heap.size w w'
theorem meth_nil (f : FuncId) (p : Value) (w : World) : (binOp .eql 31 (.func (.func f) #[p] #[]) .nilFunc).run Try.prog w = .ok (.bool false) w := by rfl
theorem three_new (F : Value) (w : World) : ∃ W, ((w.alloc (.cells #[.slice none 0 0] 27)).alloc (.cells #[.int .i64 0] 28)).alloc (.cells #[F, .slice none 0 0] 65) = W ∧
    W.heap[w.heap.size]? = some (.cells #[.slice none 0 0] 27 (0, 0)) ∧ W.heap[w.heap.size + 1]? = some (.cells #[.int .i64 0] 28 (0, 0)) ∧ At (mkWay F) 65 (w.heap.size + 1 + 1) W (.slice none 0 0) [] ∧ Below w.heap.size w W ∧ W.heap.size = w.heap.size + 3 := by
  refine ⟨_, rfl, ?_, ?_, ⟨?_, OwnS.nil _ _ _ _ _⟩, (((Below.refl _ _).alloc (Nat.le_refl _) _).alloc (by simp) _).alloc (by simp; omega) _, by simp⟩
  · rw [Below.heap_alloc _ _ _ (by simp; omega), Below.heap_alloc _ _ _ (by simp)]; exact heap_alloc_new w _
  · rw [Below.heap_alloc _ _ _ (by simp)]
    have := heap_alloc_new (w.alloc (.cells #[.slice none 0 0] 27)) (.cells #[.int .i64 0] 28)
    rw [World.size_alloc] at this
    exact this
  · have := heap_alloc_new ((w.alloc (.cells #[.slice none 0 0] 27)).alloc (.cells #[.int .i64 0] 28)) (.cells #[F, .slice none 0 0] 65)
    rw [World.size_alloc, World.size_alloc] at this
    exact this
theorem way_bad (f : FuncId) (p : Value) (g : Nat → Nat → Edg × Int) (I : World → Prop) (hT : Tells f p g I) (a b : Nat) (ha : a < 4294967296) (hb : b < 4294967296) (w : World) (hI : I w) (hS : Stays w.heap.size I) (er : Int) (h : openV g 65536 [] a b = .bad er) :
    Calls Try.prog 13 #[meth f p, .int .u32 (a : Int), .int .u32 (b : Int)] w fun e w' => e = .returned (.tuple #[.slice none 0 0, .int .i64 er]) ∧ Below w.heap.size w w' := by
  unfold meth
  have hmf : ∀ (fn : Fn) (first cap : Array Value) (w : World), (Instr.makeFunc fn first cap).run Try.prog w = .ok (.func fn first cap) w := fun _ _ _ _ => rfl
  have hq := meth_nil f p
  go_enter_defers Try.func13, Try.ntmps13
  go_wp2_with fail
  obtain ⟨W, hW, r1, r2, hA, hbw, hsz⟩ := three_new (.func (.func f) #[p] #[]) w
  rw [hW]
  have hIW : I W := hS _ _ hI fun b hb => hbw.block b hb
  refine (open_any f p g I hT (w.heap.size + 1 + 1) (hS.mono (by omega)) 65536 [] a b 0 W (.slice none 0 0) ha hb (by omega) (by omega) hIW hA).mono ?_
  rw [h]
  rintro e w2 ⟨he, hk⟩
  unfold noP wrongV at he
  subst he
  have r1' := (opens_low hA hk _ (by omega)).trans r1
  have r2' := (opens_low hA hk _ (by omega)).trans r2
  go_wp2_with fail
  refine leaves_cons (f := 26) (args := #[.pointer (some ⟨w.heap.size, 0, none⟩), .pointer (some ⟨w.heap.size + 1, 0, none⟩)]) (by simp) (by simp [go_sem]) ?_
  refine (catch_wrong ⟨w.heap.size, 0, none⟩ ⟨w.heap.size + 1, 0, none⟩ er _ _ [] w2 (cell_of_row _ _ 0 _ _ _ r1') (cell_of_row _ _ 0 _ _ _ r2') (frozen_of_row _ _ _ _ _ r1') (frozen_of_row _ _ _ _ _ r2') (by simp)).mono ?_
  rintro e u' w'' ⟨rfl, rfl, rfl⟩
  have q1 := (heap_setCell_other (w2.setCell ⟨w.heap.size, 0, none⟩ (.slice none 0 0)) ⟨w.heap.size + 1, 0, none⟩ w.heap.size (.int .i64 er) (by simp)).trans (heap_setCell_same w2 w.heap.size 0 _ _ (.slice none 0 0) r1')
  have q2 := heap_setCell_same (w2.setCell ⟨w.heap.size, 0, none⟩ (.slice none 0 0)) (w.heap.size + 1) 0 _ _ (.int .i64 er) ((heap_setCell_other w2 ⟨w.heap.size, 0, none⟩ (w.heap.size + 1) (.slice none 0 0) (by simp)).trans r2')
  have hb5 : Below w.heap.size w ((w2.setCell ⟨w.heap.size, 0, none⟩ (.slice none 0 0)).setCell ⟨w.heap.size + 1, 0, none⟩ (.int .i64 er)) :=
    ((hbw.trans (keeps_below hA hk (by omega))).setCell (p := ⟨w.heap.size, 0, none⟩) (Nat.le_refl _) _).setCell (p := ⟨w.heap.size + 1, 0, none⟩) (by simp) _
  generalize ((w2.setCell ⟨w.heap.size, 0, none⟩ (.slice none 0 0)).setCell ⟨w.heap.size + 1, 0, none⟩ (.int .i64 er)) = W5 at *
  have c5 : W5.cell? ⟨w.heap.size, 0, none⟩ = some (.slice none 0 0) := cell_of_row _ _ 0 _ _ _ q1
  have c6 : W5.cell? ⟨w.heap.size + 1, 0, none⟩ = some (.int .i64 er) := cell_of_row _ _ 0 _ _ _ q2
  simp [Leaves, settle, results, Try.results13, go_sem, c5, c6]
  exact hb5

theorem way_good (f : FuncId) (p : Value) (g : Nat → Nat → Edg × Int) (I : World → Prop) (hT : Tells f p g I) (a b : Nat) (ha : a < 4294967296) (hb : b < 4294967296) (w : World) (hI : I w) (hS : Stays w.heap.size I) (wt : Nat) (M : List Edg) (h : openV g 65536 [] a b = .good wt M) (hM : M.length ≤ 65536) :
    Calls Try.prog 13 #[meth f p, .int .u32 (a : Int), .int .u32 (b : Int)] w fun e w' => ∃ A c, e = .returned (.tuple #[.slice A M.length c, .int .i64 0]) ∧ ELs w'.heap.size w' A M ∧ Below w.heap.size w w' := by
  unfold meth
  have hmf : ∀ (fn : Fn) (first cap : Array Value) (w : World), (Instr.makeFunc fn first cap).run Try.prog w = .ok (.func fn first cap) w := fun _ _ _ _ => rfl
  have hq := meth_nil f p
  go_enter_defers Try.func13, Try.ntmps13
  go_wp2_with fail
  obtain ⟨W, hW, r1, r2, hA, hbw, hsz⟩ := three_new (.func (.func f) #[p] #[]) w
  rw [hW]
  have hIW : I W := hS _ _ hI fun b hb => hbw.block b hb
  refine (open_any f p g I hT (w.heap.size + 1 + 1) (hS.mono (by omega)) 65536 [] a b 0 W (.slice none 0 0) ha hb (by omega) (by omega) hIW hA).mono ?_
  rw [h]
  rintro e w2 ⟨he, hk, v', hA2, hv⟩
  unfold okP at he
  subst he
  obtain ⟨A, c, rfl, hc⟩ := hA2.own.form
  have r1' := (opens_low hA hk _ (by omega)).trans r1
  have r2' := (opens_low hA hk _ (by omega)).trans r2
  have c0 : w2.cell? ⟨w.heap.size + 1 + 1, 1, none⟩ = some (.slice A M.length c) := cell_of_row _ _ 1 _ _ _ hA2.row
  have c1 : w2.cell? ⟨w.heap.size, 0, none⟩ = some (.slice none 0 0) := cell_of_row _ _ 0 _ _ _ r1'
  have c2 : w2.cell? ⟨w.heap.size + 1, 0, none⟩ = some (.int .i64 0) := cell_of_row _ _ 0 _ _ _ r2'
  have z1 : w2.frozen? ⟨w.heap.size, 0, none⟩ = false := frozen_of_row _ _ _ _ _ r1'
  have z2 : w2.frozen? ⟨w.heap.size + 1, 0, none⟩ = false := frozen_of_row _ _ _ _ _ r2'
  have H1 := Lib.hid r1'
  have H2 := Lib.hid r2'
  have HA := Lib.hid hA
  have HA2 := Lib.hid hA2
  have HB := Lib.hid hbw
  have HK := Lib.hid hk
  clear r1 r2 r1' r2' hA hA2 hbw hW hsz hk hv hIW
  go_wp2_with fail
  have q1 := (heap_setCell_other (w2.setCell ⟨w.heap.size, 0, none⟩ (.slice A M.length c)) ⟨w.heap.size + 1, 0, none⟩ w.heap.size (.int .i64 0) (by simp)).trans (heap_setCell_same w2 w.heap.size 0 _ _ (.slice A M.length c) H1.out)
  have q2 := heap_setCell_same (w2.setCell ⟨w.heap.size, 0, none⟩ (.slice A M.length c)) (w.heap.size + 1) 0 _ _ (.int .i64 0) ((heap_setCell_other w2 ⟨w.heap.size, 0, none⟩ (w.heap.size + 1) (.slice A M.length c) (by simp)).trans H2.out)
  have hb5 : Below w.heap.size w ((w2.setCell ⟨w.heap.size, 0, none⟩ (.slice A M.length c)).setCell ⟨w.heap.size + 1, 0, none⟩ (.int .i64 0)) :=
    ((HB.out.trans (keeps_below HA.out HK.out (by omega))).setCell (p := ⟨w.heap.size, 0, none⟩) (Nat.le_refl _) _).setCell (p := ⟨w.heap.size + 1, 0, none⟩) (by simp) _
  have ho : OwnS ((w2.setCell ⟨w.heap.size, 0, none⟩ (.slice A M.length c)).setCell ⟨w.heap.size + 1, 0, none⟩ (.int .i64 0)) (w.heap.size + 1 + 1 + 1) 42 4 Edg.enc (.slice A M.length c) M := HA2.out.own.same fun k hk => by
    have := (HA2.out.own.lt k hk).1
    rw [heap_setCell_other _ _ _ _ (by show k ≠ w.heap.size + 1; omega), heap_setCell_other _ _ _ _ (by show k ≠ w.heap.size; omega)]
  have hl := own_els ho (by omega)
  refine leaves_cons (f := 26) (args := #[.pointer (some ⟨w.heap.size, 0, none⟩), .pointer (some ⟨w.heap.size + 1, 0, none⟩)]) (by simp) (by simp [go_sem]) ?_
  refine (catch_idle ⟨w.heap.size, 0, none⟩ ⟨w.heap.size + 1, 0, none⟩ _).mono ?_
  rintro e u' w'' ⟨rfl, rfl, rfl⟩
  generalize ((w2.setCell ⟨w.heap.size, 0, none⟩ (.slice A M.length c)).setCell ⟨w.heap.size + 1, 0, none⟩ (.int .i64 0)) = W5 at *
  have c5 : W5.cell? ⟨w.heap.size, 0, none⟩ = some (.slice A M.length c) := cell_of_row _ _ 0 _ _ _ q1
  have c6 : W5.cell? ⟨w.heap.size + 1, 0, none⟩ = some (.int .i64 0) := cell_of_row _ _ 0 _ _ _ q2
  refine ⟨.tuple #[.slice A M.length c, .int .i64 0], ?_, A, c, rfl, hl, hb5⟩
  simp [results, Try.results13, go_sem, c5, c6]

/-- THE CONTRACT of Way -/
theorem way_any (f : FuncId) (p : Value) (g : Nat → Nat → Edg × Int) (I : World → Prop) (hT : Tells f p g I) (a b : Nat) (ha : a < 4294967296) (hb : b < 4294967296) (w : World) (hI : I w) (hS : Stays w.heap.size I) :
    Calls Try.prog 13 #[meth f p, .int .u32 (a : Int), .int .u32 (b : Int)] w (WayTold w (openV g 65536 [] a b)) := by
  cases h : openV g 65536 [] a b with
  | bad er =>
    refine (way_bad f p g I hT a b ha hb w hI hS er h).mono fun e w' ⟨he, hg⟩ => ⟨none, 0, he, SR.nil _ _ _ _ _, hg⟩
  | good wt M =>
    refine (way_good f p g I hT a b ha hb w hI hS wt M h (openV_right g 65536 [] a b wt M (by simp) h).1).mono fun e w' ⟨A, c, he, hl, hg⟩ => ⟨A, c, he, hl, hg⟩
end Go.Proofs.Ytongpcfjfolfbaa
