/- The contract of meet.Meet: the least sum of two labels of a hub of both, the first one of those that are the least. -/
import Derived.Test.YtajepjfohdlgdaaMp
import Derived.Test.YtajepjfohdlgdaaWt
import Derived.Laws.EntriesVeiled
namespace Go.Proofs.Ytajepjfohdlgdaa
open Go.RowKit Go.Shelf

/-- what Meet has found so far -/
structure St where
  dist : Nat
  hub : Nat
  ok : Bool

def St.none : St := ⟨0, 0, false⟩
def St.step (s : St) (p : Lbl × Lbl) : St := if fitsB p.1.dist p.2.dist && (!s.ok || decide (p.1.dist + p.2.dist < s.dist)) then ⟨p.1.dist + p.2.dist, p.1.hub, true⟩ else s
def meetS (f b : List Lbl) : St := (pairsL f b).foldl St.step St.none
def meetV (f b : List Lbl) : St := if rightB f && rightB b then meetS f b else St.none

attribute [local go_sem] Oper.semAt_some

theorem ret_meet {a b : Int} {c d : Int} {x y : Bool} (h1 : a = b) (h2 : c = d) (h3 : x = y) : Ending.returned (.tuple #[.int .u64 a, .int .u32 c, .bool x]) = .returned (.tuple #[.int .u64 b, .int .u32 d, .bool y]) := by rw [h1, h2, h3]

theorem boxed_drewN {W : World} {B : Nat} {t : TypeId} {v : Value} (h : Boxed W B t v) (n : Nat) : Boxed (W.drewN n) B t v := h
theorem boxed_at {W : World} {B : Nat} {t : TypeId} {v : Value} (h : Boxed W B t v) : W.cell? ⟨B, 0, none⟩ = some v ∧ W.frozen? ⟨B, 0, none⟩ = false := ⟨h.cell, h.frozen⟩
theorem boxed_eq {W : World} {B : Nat} {t : TypeId} {v v' : Value} (h : Boxed W B t v) (e : v = v') : Boxed W B t v' := e ▸ h

theorem boxed_put {W : World} {B : Nat} {t : TypeId} {v : Value} {D : Nat} {o : Obj} (h : Boxed W B t v) (hne : B ≠ D) : Boxed (W.putObj D o) B t v :=
  h.kept (grownBy_putObj' W D o) (fun e => hne (by injection e))

/-- the three result cells are read -/
theorem run_meet_results {W : World} {tmps : Array Value} {H : Nat} {d h : Int} {k : Bool} (e4 : tmps[4]?.getD undef = .pointer (some ⟨H, 0, none⟩)) (e5 : tmps[5]?.getD undef = .pointer (some ⟨H + 1, 0, none⟩)) (e6 : tmps[6]?.getD undef = .pointer (some ⟨H + 1 + 1, 0, none⟩))
    (bD : Boxed W H 25 (.int .u64 d)) (bH : Boxed W (H + 1) 26 (.int .u32 h)) (bO : Boxed W (H + 1 + 1) 4 (.bool k)) :
    (results Try.f11 tmps).run Try.prog W = .ok (.tuple #[.int .u64 d, .int .u32 h, .bool k]) W := by
  have c1 := bD.cell
  have c2 := bH.cell
  have c3 := bO.cell
  simp [results, Try.f11, go_sem, e4, e5, e6, c1, c2, c3]

/-- three stores over the result cells -/
theorem three_stores {w W : World} {d h d' h' : Int} {k k' : Bool} (bD : Boxed W w.heap.size 25 (.int .u64 d)) (bH : Boxed W (w.heap.size + 1) 26 (.int .u32 h)) (bO : Boxed W (w.heap.size + 1 + 1) 4 (.bool k)) (hb : Below w.heap.size w W) :
    Boxed (((W.setCell ⟨w.heap.size, 0, none⟩ (.int .u64 d')).setCell ⟨w.heap.size + 1, 0, none⟩ (.int .u32 h')).setCell ⟨w.heap.size + 1 + 1, 0, none⟩ (.bool k')) w.heap.size 25 (.int .u64 d') ∧
    Boxed (((W.setCell ⟨w.heap.size, 0, none⟩ (.int .u64 d')).setCell ⟨w.heap.size + 1, 0, none⟩ (.int .u32 h')).setCell ⟨w.heap.size + 1 + 1, 0, none⟩ (.bool k')) (w.heap.size + 1) 26 (.int .u32 h') ∧
    Boxed (((W.setCell ⟨w.heap.size, 0, none⟩ (.int .u64 d')).setCell ⟨w.heap.size + 1, 0, none⟩ (.int .u32 h')).setCell ⟨w.heap.size + 1 + 1, 0, none⟩ (.bool k')) (w.heap.size + 1 + 1) 4 (.bool k') ∧
    Below w.heap.size w (((W.setCell ⟨w.heap.size, 0, none⟩ (.int .u64 d')).setCell ⟨w.heap.size + 1, 0, none⟩ (.int .u32 h')).setCell ⟨w.heap.size + 1 + 1, 0, none⟩ (.bool k')) :=
  ⟨((bD.set _).other (by omega) _).other (by omega) _, ((bH.other (by omega) _).set _).other (by omega) _, ((bO.other (by omega) _).other (by omega) _).set _,
    ((hb.setCell (p := ⟨w.heap.size, 0, none⟩) (Nat.le_refl _) _).setCell (p := ⟨w.heap.size + 1, 0, none⟩) (by simp) _).setCell (p := ⟨w.heap.size + 1 + 1, 0, none⟩) (by simp; omega) _⟩

/-- a block of three cells stays over the steps of an iterator -/
theorem cells_own {W W' : World} {g : Nat} {cs : Array Value} {t : TypeId} {row : Option Nat} (h : W.heap[g]? = some (.cells cs t (0, 0))) (hg : W.grownBy W' row) (hr : ∀ r, row = some r → ∃ o : Obj, W.heap[r]? = some o ∧ o.isCells = false) :
    W'.heap[g]? = some (.cells cs t (0, 0)) := by
  refine (hg.block g (Array.getElem?_eq_some_iff.1 h).1 (fun e => ?_)).trans h
  obtain ⟨o, ho, hc⟩ := hr g e.symm
  rw [h] at ho; cases ho; cases hc
theorem cells_alloc {W : World} {g : Nat} {cs : Array Value} {t : TypeId} (h : W.heap[g]? = some (.cells cs t (0, 0))) (o : Obj) : (W.alloc o).heap[g]? = some (.cells cs t (0, 0)) :=
  (Below.heap_alloc W o g (Array.getElem?_eq_some_iff.1 h).1).trans h
theorem ownFrom_size {β : Type} (B n : Nat) : OwnFrom B (fun (_ : β) W => n ≤ W.heap.size) := fun _ _ _ _ hs hg _ => Nat.le_trans hs hg.size
theorem KpM.refl (H Bf Bb : Nat) (W : World) : KpM H Bf Bb W W := fun _ _ => rfl
theorem KpM.set {H Bf Bb : Nat} {W W' : World} (h : KpM H Bf Bb W W') {p : Addr} (h1 : H ≤ p.block) (h2 : p.block ≠ Bf) (h3 : p.block ≠ Bb) (u : Value) : KpM H Bf Bb W (W'.setCell p u) := fun k hk =>
  (Below.heap_setCell W' p u k (by rcases hk with hk | hk | hk <;> omega)).trans (h k hk)
theorem KpM.drew {H Bf Bb : Nat} {W W' : World} (h : KpM H Bf Bb W W') : KpM H Bf Bb W W'.drew := h
theorem KpM.alloc {H Bf Bb : Nat} {W W' : World} (h : KpM H Bf Bb W W') (o : Obj) (h1 : H ≤ W'.heap.size) (h2 : Bf < W'.heap.size) (h3 : Bb < W'.heap.size) : KpM H Bf Bb W (W'.alloc o) := fun k hk =>
  (Below.heap_alloc W' o k (by rcases hk with hk | hk | hk <;> omega)).trans (h k hk)

set_option maxRecDepth 100000 in
set_option maxHeartbeats 4000000 in
theorem meet_any (B : Nat) (A A' : Option Addr) (f b : List Lbl) (c c' : Nat) (w : World) (hf : SL B w A f) (hb : SL B w A' b) (hB : B ≤ w.heap.size) :
    Calls Try.prog 11 #[.slice A f.length c, .slice A' b.length c'] w fun e w' =>
      e = .returned (.tuple #[.int .u64 ((meetV f b).dist : Int), .int .u32 ((meetV f b).hub : Int), .bool (meetV f b).ok]) ∧ Below w.heap.size w w' := by
  refine (callsIn_wide (n := 6)).1 ?_
  refine callsIn_of_wp_marks Try.func11 rfl trivial ?_ rfl
  simp only [Try.ntmps11, List.size_toArray, List.length_cons, List.length_nil, Nat.reduceAdd, Nat.reduceSub, Array.replicate_succ, Array.replicate_zero, List.push_toArray, List.append_toArray, List.nil_append, List.cons_append]
  obtain ⟨W3, hW3⟩ : ∃ W3, ((w.alloc (.cells #[.int .u64 0] 25)).alloc (.cells #[.int .u32 0] 26)).alloc (.cells #[.bool false] 4) = W3 := ⟨_, rfl⟩
  have hb3 : Below w.heap.size w W3 := by
    rw [← hW3]; exact (((Below.refl _ _).alloc (Nat.le_refl _) _).alloc (by simp) _).alloc (by simp; omega) _
  have bD : Boxed W3 w.heap.size 25 (.int .u64 0) := by rw [← hW3]; exact ((Boxed.new w _ _).alloc _).alloc _
  have bH : Boxed W3 (w.heap.size + 1) 26 (.int .u32 0) := by
    rw [← hW3]; have := (Boxed.new (w.alloc (.cells #[.int .u64 0] 25)) 26 (.int .u32 0)).alloc (.cells #[.bool false] 4); rwa [World.size_alloc] at this
  have bO : Boxed W3 (w.heap.size + 1 + 1) 4 (.bool false) := by
    rw [← hW3]; have := Boxed.new ((w.alloc (.cells #[.int .u64 0] 25)).alloc (.cells #[.int .u32 0] 26)) 4 (.bool false); rwa [World.size_alloc, World.size_alloc] at this
  have hz : W3.heap.size = w.heap.size + 3 := by rw [← hW3]; simp
  gi_wp2_with fail
  clear hW3
  have HZ : Hid (W3.heap.size = w.heap.size + 3) := hz
  have hD := boxed_at bD
  have hH := boxed_at bH
  have hO := boxed_at bO
  clear hz
  refine ⟨trivial, (callsIn_wide.2 (hubRight_any B A f c _ (hf.below (hb3.mono hB)))).mono ?_⟩
  rintro e w1 ⟨rfl, n1, rfl⟩
  cases h1 : rightB f with
  | false =>
    have hv : meetV f b = St.none := by simp [meetV, h1]
    gi_wp2_with fail
    refine ⟨trivial, ?_⟩
    gi_wp2_with fail
    obtain ⟨r1, r2, r3, r4⟩ := three_stores (d' := 0) (h' := 0) (k' := false) (boxed_drewN bD n1) (boxed_drewN bH n1) (boxed_drewN bO n1) (below_drewN hb3 n1)
    exact ⟨.tuple #[.int .u64 0, .int .u32 0, .bool false], run_meet_results rfl rfl rfl r1 r2 r3, by rw [hv]; rfl, r4⟩
  | true =>
    gi_wp2_with fail
    refine ⟨trivial, (callsIn_wide.2 (hubRight_any B A' b c' _ (hb.below (below_drewN (hb3.mono hB) _)))).mono ?_⟩
    rintro e w1 ⟨rfl, n2, rfl⟩
    cases h2 : rightB b with
    | false =>
      have hv : meetV f b = St.none := by simp [meetV, h2]
      gi_wp2_with fail
      obtain ⟨r1, r2, r3, r4⟩ := three_stores (d' := 0) (h' := 0) (k' := false) (boxed_drewN bD (n1 + n2)) (boxed_drewN bH (n1 + n2)) (boxed_drewN bO (n1 + n2)) (below_drewN hb3 (n1 + n2))
      exact ⟨.tuple #[.int .u64 0, .int .u32 0, .bool false], run_meet_results rfl rfl rfl r1 r2 r3, by rw [hv]; rfl, r4⟩
    | true =>
      have hv : meetV f b = meetS f b := by simp [meetV, h1, h2]
      have bD4 : Boxed ((W3.drewN n1).drewN n2) w.heap.size 25 (.int .u64 0) := bD
      have bH4 : Boxed ((W3.drewN n1).drewN n2) (w.heap.size + 1) 26 (.int .u32 0) := bH
      have bO4 : Boxed ((W3.drewN n1).drewN n2) (w.heap.size + 1 + 1) 4 (.bool false) := bO
      have hb4 : Below w.heap.size w ((W3.drewN n1).drewN n2) := below_drewN (below_drewN hb3 n1) n2
      have HZ4 : Hid (((W3.drewN n1).drewN n2).heap.size = w.heap.size + 3) := HZ
      clear bD bH bO hb3 HZ hD hH hO
      generalize (W3.drewN n1).drewN n2 = W4 at *
      gi_wp2_with fail
      refine ⟨trivial, (callsIn_wide.2 (pairs_any A A' _ _ c c' _)).mono ?_⟩
      rintro e w4 ⟨rfl, rfl⟩
      gi_wp2_with fail
      have bL : Boxed (((W4.alloc (.cells #[.func (.func 18) #[] #[.pointer (some ⟨w.heap.size + 1 + 1, 0, none⟩), .pointer (some ⟨w.heap.size, 0, none⟩)]] 41)).alloc (.cells #[.slice A f.length c] 22)).alloc (.cells #[.slice A' b.length c'] 22)) W4.heap.size 41 (.func (.func 18) #[] #[.pointer (some ⟨w.heap.size + 1 + 1, 0, none⟩), .pointer (some ⟨w.heap.size, 0, none⟩)]) :=
        ((Boxed.new W4 _ _).alloc _).alloc _
      have bF := (Boxed.new (W4.alloc (.cells #[.func (.func 18) #[] #[.pointer (some ⟨w.heap.size + 1 + 1, 0, none⟩), .pointer (some ⟨w.heap.size, 0, none⟩)]] 41)) 22 (.slice A f.length c)).alloc (.cells #[.slice A' b.length c'] 22)
      have bB := Boxed.new ((W4.alloc (.cells #[.func (.func 18) #[] #[.pointer (some ⟨w.heap.size + 1 + 1, 0, none⟩), .pointer (some ⟨w.heap.size, 0, none⟩)]] 41)).alloc (.cells #[.slice A f.length c] 22)) 22 (.slice A' b.length c')
      rw [World.size_alloc] at bF
      rw [World.size_alloc, World.size_alloc] at bB
      have bD0 := ((bD4.alloc (.cells #[.func (.func 18) #[] #[.pointer (some ⟨w.heap.size + 1 + 1, 0, none⟩), .pointer (some ⟨w.heap.size, 0, none⟩)]] 41)).alloc (.cells #[.slice A f.length c] 22)).alloc (.cells #[.slice A' b.length c'] 22)
      have bH0 := ((bH4.alloc (.cells #[.func (.func 18) #[] #[.pointer (some ⟨w.heap.size + 1 + 1, 0, none⟩), .pointer (some ⟨w.heap.size, 0, none⟩)]] 41)).alloc (.cells #[.slice A f.length c] 22)).alloc (.cells #[.slice A' b.length c'] 22)
      have bO0 := ((bO4.alloc (.cells #[.func (.func 18) #[] #[.pointer (some ⟨w.heap.size + 1 + 1, 0, none⟩), .pointer (some ⟨w.heap.size, 0, none⟩)]] 41)).alloc (.cells #[.slice A f.length c] 22)).alloc (.cells #[.slice A' b.length c'] 22)
      have hsz4 := hb4.size
      have hB0 := ((hb4.alloc hsz4 (.cells #[.func (.func 18) #[] #[.pointer (some ⟨w.heap.size + 1 + 1, 0, none⟩), .pointer (some ⟨w.heap.size, 0, none⟩)]] 41)).alloc (by simp; omega) (.cells #[.slice A f.length c] 22)).alloc (by simp; omega) (.cells #[.slice A' b.length c'] 22)
      have hz0 : (((W4.alloc (.cells #[.func (.func 18) #[] #[.pointer (some ⟨w.heap.size + 1 + 1, 0, none⟩), .pointer (some ⟨w.heap.size, 0, none⟩)]] 41)).alloc (.cells #[.slice A f.length c] 22)).alloc (.cells #[.slice A' b.length c'] 22)).heap.size = W4.heap.size + 3 := by simp
      generalize (((W4.alloc (.cells #[.func (.func 18) #[] #[.pointer (some ⟨w.heap.size + 1 + 1, 0, none⟩), .pointer (some ⟨w.heap.size, 0, none⟩)]] 41)).alloc (.cells #[.slice A f.length c] 22)).alloc (.cells #[.slice A' b.length c'] 22)) = W0 at *
      have hm : w.heap.size + 3 ≤ W4.heap.size ∧ W4.heap.size ≤ w.heap.size + 3 := by have := HZ4.out; omega
      clear bD4 bH4 bO4 hb4 HZ4
      generalize W4.heap.size = M at *
      clear W4 hsz4
      refine wpIn_rangeFunc_ownH rfl (by omega) (gf := 21) (lb := #[.pointer (some ⟨M + 1, 0, none⟩), .pointer (some ⟨M + 1 + 1, 0, none⟩)]) rfl trivial (enters_of Try.func21 (by kernel_rfl) rfl)
        (pairs_stops w.heap.size (M + 1) (M + 1 + 1) f b A A' c c' 5 (by omega) W0 (by omega) (by omega) (by omega) ((hf.below (hB0.mono hB)).more hB) ((hb.below (hB0.mono hB)).more hB) bF.cell bB.cell) KpM.t
        (fun W l o o' hl _ _ _ k hk => World.putObj_heap_other (by rcases hk with hk | hk | hk <;> omega)) (Below.refl _ _) (fun _ => rfl)
        (fun pre W => ((Boxed W w.heap.size 25 (.int .u64 ((pre.foldl St.step St.none).dist : Int)) ∧ Boxed W (w.heap.size + 1) 26 (.int .u32 ((pre.foldl St.step St.none).hub : Int))) ∧
          (Boxed W (w.heap.size + 1 + 1) 4 (.bool (pre.foldl St.step St.none).ok) ∧ Boxed W M 41 (.func (.func 18) #[] #[.pointer (some ⟨w.heap.size + 1 + 1, 0, none⟩), .pointer (some ⟨w.heap.size, 0, none⟩)]))) ∧ (Below w.heap.size w W ∧ M + 3 ≤ W.heap.size))
        (fun _ _ _ => False)
        (OwnFrom.and (OwnFrom.and (OwnFrom.and (Own.from (boxed_own _ _ _) _) (Own.from (boxed_own _ _ _) _)) (OwnFrom.and (Own.from (boxed_own _ _ _) _) (Own.from (boxed_own _ _ _) _))) (OwnFrom.and (ownFrom_below (Nat.le_refl _) (by omega)) (ownFrom_size _ _)))
        (fun _ _ _ _ _ hs _ _ => hs)
        ⟨⟨⟨bD0, bH0⟩, bO0, bL⟩, hB0, by omega⟩
        (fun x a' W => ∃ Bx By, (M + 1 + 1 < Bx ∧ M + 1 + 1 < By) ∧ W.heap[Bx]? = some (.cells #[.int .u32 (x.1.hub : Int), .int .u32 (x.1.next : Int), .int .u64 (x.1.dist : Int)] 35 (0, 0)) ∧ W.heap[By]? = some (.cells #[.int .u32 (x.2.hub : Int), .int .u32 (x.2.next : Int), .int .u64 (x.2.dist : Int)] 35 (0, 0)) ∧
          a' = { tmps := #[.slice A f.length c, .slice A' b.length c', undef, undef, .pointer (some ⟨w.heap.size, 0, none⟩), .pointer (some ⟨w.heap.size + 1, 0, none⟩), .pointer (some ⟨w.heap.size + 1 + 1, 0, none⟩), .pointer (some ⟨M, 0, none⟩), .pointer (some ⟨Bx, 0, none⟩), .pointer (some ⟨By, 0, none⟩), undef, undef,
            .slice A f.length c, .bool true, .bool false, .bool false, .slice A' b.length c', .bool true, .bool false, .bool false, .func (.func 18) #[] #[.pointer (some ⟨w.heap.size + 1 + 1, 0, none⟩), .pointer (some ⟨w.heap.size, 0, none⟩)],
            .slice A f.length c, .slice A' b.length c', .func (.func 21) #[] #[.pointer (some ⟨M + 1, 0, none⟩), .pointer (some ⟨M + 1 + 1, 0, none⟩)], x.1.agg, x.2.agg, undef, undef, undef, undef, undef, undef, undef, undef, undef, undef, undef, undef, undef, undef, undef, undef, undef, undef, undef, undef], defers := [] })
        (fun x a' _ X Y row hs hg hr => by
          obtain ⟨Bx, By, e1, e2, e3, e4⟩ := hs
          exact ⟨Bx, By, e1, cells_own e2 hg (fun r e => (hr r e).2), cells_own e3 hg (fun r e => (hr r e).2), e4⟩)
        ?assign ?body ?done ?stop
      case assign =>
        rintro l pre x W K ⟨⟨⟨bD1, bH1⟩, bO1, bL1⟩, hB1, hS1⟩ hK
        have hsz := hB1.size
        dsimp only [Lbl.agg]
        gi_wp2
        have hn1 := World.alloc_heap_new W (.cells #[.int .u32 (x.1.hub : Int), .int .u32 (x.1.next : Int), .int .u64 (x.1.dist : Int)] 35)
        have hn2 := World.alloc_heap_new (W.alloc (.cells #[.int .u32 (x.1.hub : Int), .int .u32 (x.1.next : Int), .int .u64 (x.1.dist : Int)] 35)) (.cells #[.int .u32 (x.2.hub : Int), .int .u32 (x.2.next : Int), .int .u64 (x.2.dist : Int)] 35)
        rw [World.size_alloc] at hn2
        exact hK _ _ (((KeepsOthers.alloc _ _).trans (KeepsOthers.alloc _ _)).from _) (((KpM.refl _ _ _ W).alloc _ (by omega) (by omega) (by omega)).alloc _ (by simp; omega) (by simp; omega) (by simp; omega))
          ⟨⟨⟨(bD1.alloc _).alloc _, (bH1.alloc _).alloc _⟩, (bO1.alloc _).alloc _, (bL1.alloc _).alloc _⟩, (hB1.alloc hsz _).alloc (by simp; omega) _, by simp; omega⟩ ⟨W.heap.size, W.heap.size + 1, ⟨by omega, by omega⟩, cells_alloc hn1 _, hn2, rfl⟩
      case body =>
        rintro l pre x a' W hl ⟨r, hr⟩ ⟨⟨⟨bD1, bH1⟩, bO1, bL1⟩, hB1, hS1⟩ ⟨Bx, By, ⟨hBx, hBy⟩, cX, cY, rfl⟩ hlt
        have x0 : W.cell? ⟨Bx, 0, none⟩ = some (.int .u32 (x.1.hub : Int)) := cell_of_row W Bx 0 _ _ _ cX
        have x2 : W.cell? ⟨Bx, 2, none⟩ = some (.int .u64 (x.1.dist : Int)) := cell_of_row W Bx 2 _ _ _ cX
        have y2 : W.cell? ⟨By, 2, none⟩ = some (.int .u64 (x.2.dist : Int)) := cell_of_row W By 2 _ _ _ cY
        have hL := boxed_at bL1
        have hD := boxed_at bD1
        have hH := boxed_at bH1
        have hO := boxed_at bO1
        have hd1 := x.1.hdist
        have hd2 := x.2.hdist
        obtain ⟨s, hs⟩ : ∃ s, pre.foldl St.step St.none = s := ⟨_, rfl⟩
        rw [hs] at bD1 bH1 bO1 hD hH hO
        gi_wp2_with fail
        refine ⟨trivial, (CallsIn.inRound l (callsIn_wide.2 (wAdd_any _ _ hd1 hd2 _))).mono ?_⟩
        rintro e w2 ⟨rfl, rfl⟩
        cases hfit : fitsB x.1.dist x.2.dist with
        | false =>
          have hst : (pre ++ [x]).foldl St.step St.none = s := by rw [List.foldl_append, hs]; simp [St.step, hfit]
          have HST : Hid ((pre ++ [x]).foldl St.step St.none = s) := hst
          clear hst hs
          gi_wp2_with fail
          refine ⟨fun _ h => (by cases h), ?_⟩
          gi_wp2_with fail
          refine ⟨KeepsFrom.refl _ _, KpM.refl _ _ _ _, ?_⟩
          dsimp only
          rw [HST.out]
          exact ⟨⟨⟨bD1, bH1⟩, bO1, bL1⟩, hB1, hS1⟩
        | true =>
          have hmx : Try.prog.follows .mixedOrders = true := by kernel_rfl
          have hsum := sumV_yes hfit
          rw [hsum]
          have HS : Hid (pre.foldl St.step St.none = s) := hs
          clear hsum hs
          obtain ⟨sm, hsm⟩ : ∃ sm, x.1.dist + x.2.dist = sm := ⟨_, rfl⟩
          rw [hsm]
          have HSM : Hid (x.1.dist + x.2.dist = sm) := hsm
          clear hsm
          by_cases hgo : s.ok = false ∨ sm < s.dist
          · have hst : (pre ++ [x]).foldl St.step St.none = ⟨sm, x.1.hub, true⟩ := by
              rw [List.foldl_append, HS.out]
              rcases hgo with h | h <;> simp [St.step, hfit, h, HSM.out]
            have HST : Hid ((pre ++ [x]).foldl St.step St.none = ⟨sm, x.1.hub, true⟩) := hst
            have hcall : Calls Try.prog 18 #[.int .u64 (sm : Int), .pointer (some ⟨w.heap.size + 1 + 1, 0, none⟩), .pointer (some ⟨w.heap.size, 0, none⟩)] W fun e w' => e = .returned (.bool true) ∧ W = w' := by
              cases hok : s.ok with
              | false => rw [hok] at hO; exact least_first sm _ _ _ hO.1
              | true =>
                rw [hok] at hO
                have hlt : sm < s.dist := by rcases hgo with h | h; (rw [hok] at h; cases h); exact h
                have := least_next sm s.dist _ _ _ hO.1 hD.1
                rwa [decide_eq_true hlt] at this
            have HC := Lib.hid hcall
            clear hst hgo hcall
            gi_wp2_with fail
            refine ⟨trivial, (CallsIn.inRound l (callsIn_wide.2 HC.out)).mono ?_⟩
            rintro e w2 ⟨rfl, rfl⟩
            gi_wp2_with fail
            gi_region_with_o (fail)
            all_goals
              gi_wp2_with fail
              obtain ⟨r1, r2, r3, r4⟩ := three_stores (d' := sm) (h' := x.1.hub) (k' := true) bD1 bH1 bO1 hB1
              have r5 := ((bL1.other (B' := w.heap.size) (by omega) (.int .u64 (sm : Int))).other (B' := w.heap.size + 1) (by omega) (.int .u32 (x.1.hub : Int))).other (B' := w.heap.size + 1 + 1) (by omega) (.bool true)
              refine ⟨((((KeepsOthers.setCell _ _ _).trans (KeepsOthers.setCell _ _ _)).trans (KeepsOthers.setCell _ _ _)).trans (KeepsOthers.drew _)).from _, ((((KpM.refl _ _ _ W).set (p := ⟨w.heap.size, 0, none⟩) (Nat.le_refl _) (by dsimp only; omega) (by dsimp only; omega) _).set (p := ⟨w.heap.size + 1, 0, none⟩) (by simp) (by dsimp only; omega) (by dsimp only; omega) _).set (p := ⟨w.heap.size + 1 + 1, 0, none⟩) (by simp; omega) (by dsimp only; omega) (by dsimp only; omega) _).drew, ?_⟩
              dsimp only
              rw [HST.out]
              exact ⟨⟨⟨r1, r2⟩, r3, r5⟩, r4.drew, by simpa [World.setCell, World.drew] using hS1⟩
          · obtain ⟨hok, hlt⟩ : s.ok = true ∧ ¬ sm < s.dist := by
              cases h : s.ok
              · exact absurd (.inl h) hgo
              · exact ⟨rfl, fun h' => hgo (.inr h')⟩
            clear hgo
            rw [hok] at bO1 hO
            have hst : (pre ++ [x]).foldl St.step St.none = s := by rw [List.foldl_append, HS.out]; simp [St.step, hfit, hok, HSM.out, hlt]
            have HST : Hid ((pre ++ [x]).foldl St.step St.none = s) := hst
            clear hst
            gi_wp2_with fail
            refine ⟨trivial, (CallsIn.inRound l (callsIn_wide.2 (least_next sm s.dist _ _ _ hO.1 hD.1))).mono ?_⟩
            rintro e w2 ⟨rfl, rfl⟩
            rw [decide_eq_false hlt]
            gi_wp2_with fail
            refine ⟨KeepsFrom.refl _ _, KpM.refl _ _ _ _, ?_⟩
            dsimp only
            rw [HST.out, hok]
            exact ⟨⟨⟨bD1, bH1⟩, bO1, bL1⟩, hB1, hS1⟩
      case done =>
        rintro D ys W hD rfl ⟨⟨⟨bD1, bH1⟩, bO1, bL1⟩, hB1, hS1⟩ hK
        have hL := boxed_at bL1
        have hDD := boxed_at bD1
        have hH := boxed_at bH1
        have hO := boxed_at bO1
        have hmx : Try.prog.follows .mixedOrders = true := by kernel_rfl
        have HV : Hid (meetV f b = (pairsL f b).foldl St.step St.none) := hv
        clear hv
        generalize (pairsL f b).foldl St.step St.none = s at *
        gi_wp2_with fail
        gi_region_with_o (fail)
        all_goals
          gi_wp2_with fail
          obtain ⟨r1, r2, r3, r4⟩ := three_stores (d' := s.dist) (h' := s.hub) (k' := s.ok) bD1 bH1 bO1 hB1
          have hK' := ((((KeepsOthers.setCell W ⟨w.heap.size, 0, none⟩ (.int .u64 (s.dist : Int))).trans (KeepsOthers.setCell _ ⟨w.heap.size + 1, 0, none⟩ (.int .u32 (s.hub : Int)))).trans (KeepsOthers.setCell _ ⟨w.heap.size + 1 + 1, 0, none⟩ (.bool s.ok))).trans (KeepsOthers.drew _)).same D _ hK rfl
          refine ⟨by simp, .inl ⟨_, _, rfl, run_takeDeferred hK', ?_⟩⟩
          refine ⟨.tuple #[.int .u64 (s.dist : Int), .int .u32 (s.hub : Int), .bool s.ok], run_meet_results rfl rfl rfl (boxed_put r1 (by omega)) (boxed_put r2 (by omega)) (boxed_put r3 (by omega)), by rw [HV.out],
            r4.drew.trans (belowK_b (w := w) (Nat.le_refl _) _ D _ _ (by omega) hK' rfl rfl)⟩
      case stop =>
        rintro D c pre W _ _ h _
        exact h.elim
end Go.Proofs.Ytajepjfohdlgdaa
