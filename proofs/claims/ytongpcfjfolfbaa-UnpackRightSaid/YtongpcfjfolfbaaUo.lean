/- What opening an edge leaves in memory: words for both programs. -/
import Derived.Test.YtongpcfjfolfbaaUv
import Derived.Deep.RegionHeld3
import Derived.Deep.RegionLaw
namespace Go.Proofs.Ytongpcfjfolfbaa
open Go.RowKit

/-- the function value of a method -/
def meth (f : FuncId) (p : Value) : Value := .func (.func f) #[p] #[]
theorem run_enter {P : Program} {f : FuncId} {fn : Func} {c : Code} (hf : P.funcs[f]? = some fn) (hname : (fn.name == "runtime.NumGoroutine") = false) (hb : fn.body = some c) (args : Array Value) (w : World) :
    (callFunc f args).run P w = .ok (.enter f args) w := by
  have h1 : fn.name ≠ "runtime.NumGoroutine" := by simpa using hname
  simp [callFunc, hf, h1, hb]
/-- a function that tells g, wherever the world is one of I -/
structure Tells (f : FuncId) (p : Value) (g : Nat → Nat → Edg × Int) (I : World → Prop) : Prop where
  enter : ∀ (args : Array Value) (w : World), (callFunc f args).run Try.prog w = .ok (.enter f args) w
  call : ∀ (a b : Nat) (w : World), a < 4294967296 → b < 4294967296 → I w →
    Calls Try.prog f #[p, .int .u32 (a : Int), .int .u32 (b : Int)] w fun e w' => e = .returned (.tuple #[(g a b).1.agg, .int .i64 (g a b).2]) ∧ Below w.heap.size w w'
/-- a property of worlds that stays where nothing below B turns -/
def Stays (B : Nat) (I : World → Prop) : Prop := ∀ w w', I w → (∀ b, b < B → w'.heap[b]? = w.heap[b]?) → I w'

theorem Stays.mono {B C : Nat} {I : World → Prop} (h : Stays B I) (hBC : B ≤ C) : Stays C I := fun w w' hi hs => h w w' hi fun b hb => hs b (by omega)
/-- nothing has turned but block W and the row of v -/
structure Keeps (W : Nat) (v : Value) (w w' : World) : Prop where
  os : w'.os = w.os
  tape : w'.tape = w.tape
  output : w'.output = w.output
  size : w.heap.size ≤ w'.heap.size
  block : ∀ b, b < w.heap.size → b ≠ W → some b ≠ v.ownBlock → w'.heap[b]? = w.heap[b]?
theorem Keeps.refl (W : Nat) (v : Value) (w : World) : Keeps W v w w := ⟨rfl, rfl, rfl, Nat.le_refl _, fun _ _ _ _ => rfl⟩
theorem Keeps.below {W : Nat} {v : Value} {w w1 w2 : World} (h : Keeps W v w w1) (hb : Below w1.heap.size w1 w2) : Keeps W v w w2 :=
  ⟨hb.os.trans h.os, hb.tape.trans h.tape, hb.output.trans h.output, Nat.le_trans h.size hb.size, fun b h1 h2 h3 => (hb.block b (Nat.lt_of_lt_of_le h1 h.size)).trans (h.block b h1 h2 h3)⟩
theorem Keeps.trans {W : Nat} {v v' : Value} {w w1 w2 : World} (h : Keeps W v w w1) (k : Keeps W v' w1 w2) (hv : ∀ j, v'.ownBlock = some j → v.ownBlock = some j ∨ w.heap.size ≤ j) : Keeps W v w w2 :=
  ⟨k.os.trans h.os, k.tape.trans h.tape, k.output.trans h.output, Nat.le_trans h.size k.size, fun b h1 h2 h3 => (k.block b (Nat.lt_of_lt_of_le h1 h.size) h2 (fun e => by
    rcases hv b e.symm with h4 | h4
    · exact h3 h4.symm
    · omega)).trans (h.block b h1 h2 h3)⟩

/-- an object at W, told by mk of a slice that owns L -/
structure At (mk : Value → Array Value) (T : TypeId) (W : Nat) (w : World) (v : Value) (L : List Edg) : Prop where
  row : w.heap[W]? = some (.cells (mk v) T (0, 0))
  own : OwnS w (W + 1) 42 4 Edg.enc v L
theorem At.lt {mk : Value → Array Value} {T : TypeId} {W : Nat} {w : World} {v : Value} {L : List Edg} (h : At mk T W w v L) : W < w.heap.size := (Array.getElem?_eq_some_iff.1 h.row).1
theorem At.below {mk : Value → Array Value} {T : TypeId} {W : Nat} {w w' : World} {v : Value} {L : List Edg} (h : At mk T W w v L) (hb : Below w.heap.size w w') : At mk T W w' v L :=
  ⟨(hb.block W h.lt).trans h.row, h.own.below hb fun k hk => (h.own.lt k hk).2⟩

def Opens (mk : Value → Array Value) (T : TypeId) (W : Nat) (ok : Nat → Ending) (no : Int → Ending) (w : World) (v : Value) (r : Res) (e : Ending) (w' : World) : Prop :=
  match r with
  | .bad err => e = no err ∧ Keeps W v w w'
  | .good wt L => e = ok wt ∧ Keeps W v w w' ∧ ∃ v', At mk T W w' v' L ∧ ∀ j, v'.ownBlock = some j → v.ownBlock = some j ∨ w.heap.size ≤ j

theorem cells_of {W : World} {g : Nat} {x : Edg} (h : W.heap[g]? = some (.cells x.cells 42 (0, 0))) :
    W.cell? ⟨g, 0, none⟩ = some (.int .u32 x.tail) ∧ W.cell? ⟨g, 1, none⟩ = some (.int .u32 x.head) ∧ W.cell? ⟨g, 2, none⟩ = some (.int .u64 x.weight) ∧ W.cell? ⟨g, 3, none⟩ = some (.int .u32 x.mid) :=
  ⟨cell_of_row _ _ 0 _ _ _ h, cell_of_row _ _ 1 _ _ _ h, cell_of_row _ _ 2 _ _ _ h, cell_of_row _ _ 3 _ _ _ h⟩
theorem frozen_of {W : World} {g : Nat} {x : Edg} (h : W.heap[g]? = some (.cells x.cells 42 (0, 0))) :
    W.frozen? ⟨g, 0, none⟩ = false ∧ W.frozen? ⟨g, 1, none⟩ = false ∧ W.frozen? ⟨g, 2, none⟩ = false ∧ W.frozen? ⟨g, 3, none⟩ = false :=
  ⟨frozen_of_row _ _ 0 _ _ h, frozen_of_row _ _ 1 _ _ h, frozen_of_row _ _ 2 _ _ h, frozen_of_row _ _ 3 _ _ h⟩
theorem set4 {W : World} {g : Nat} {x : Edg} (y : Edg) (h : W.heap[g]? = some (.cells x.cells 42 (0, 0))) :
    ((((W.setCell ⟨g, 0, none⟩ (.int .u32 (y.tail : Int))).setCell ⟨g, 1, none⟩ (.int .u32 (y.head : Int))).setCell ⟨g, 2, none⟩ (.int .u64 (y.weight : Int))).setCell ⟨g, 3, none⟩ (.int .u32 (y.mid : Int))).heap[g]? = some (.cells y.cells 42 (0, 0)) := by
  have h0 := heap_setCell_same W g 0 _ _ (.int .u32 (y.tail : Int)) h
  have h1 := heap_setCell_same _ g 1 _ _ (.int .u32 (y.head : Int)) h0
  have h2 := heap_setCell_same _ g 2 _ _ (.int .u64 (y.weight : Int)) h1
  have h3 := heap_setCell_same _ g 3 _ _ (.int .u32 (y.mid : Int)) h2
  exact h3
theorem low4 {B : Nat} {w W : World} {g : Nat} (h : Below B w W) (hg : B ≤ g) (v0 v1 v2 v3 : Value) :
    Below B w ((((W.setCell ⟨g, 0, none⟩ v0).setCell ⟨g, 1, none⟩ v1).setCell ⟨g, 2, none⟩ v2).setCell ⟨g, 3, none⟩ v3) :=
  (((h.setCell (p := ⟨g, 0, none⟩) hg v0).setCell (p := ⟨g, 1, none⟩) hg v1).setCell (p := ⟨g, 2, none⟩) hg v2).setCell (p := ⟨g, 3, none⟩) hg v3
/-- an edge in a box of its own -/
theorem boxed (w : World) (x : Edg) : ∃ W, w.alloc (.cells x.cells 42) = W ∧ W.heap[w.heap.size]? = some (.cells x.cells 42 (0, 0)) ∧ W.heap.size = w.heap.size + 1 ∧ Below w.heap.size w W :=
  ⟨_, rfl, heap_alloc_new w _, by simp, (Below.refl _ _).alloc (Nat.le_refl _) _⟩
theorem OwnS.same {α : Type} {w w' : World} {base : Nat} {e : TypeId} {sz : Nat} {enc : α → List Value} {v : Value} {l : List α} (h : OwnS w base e sz enc v l) (hk : ∀ k, v.ownBlock = some k → w'.heap[k]? = w.heap[k]?) : OwnS w' base e sz enc v l := by
  obtain ⟨h1, h2⟩ := h
  refine ⟨h1, ?_⟩
  rcases h2 with h2 | ⟨g, cap, cur, hv, hg, hh, r⟩
  · exact .inl h2
  · exact .inr ⟨g, cap, cur, hv, hg, (hk g (by rw [hv]; rfl)).trans hh, r⟩
/-- the world behind an append that is stored into the object -/
theorem opens_app {mk : Value → Array Value} {T : TypeId} {W X gg cap : Nat} {w w1 w2 w3 : World} {v : Value} {L : List Edg} {x : Edg} {j : Nat} (hA : At mk T W w v L) (hb : Below w.heap.size w w1) (hs : w.heap.size ≤ X) (hX : w1.heap[X]? = some (.cells x.cells 42 (0, 0)))
    (h2 : Below w1.heap.size w1 w2) (hown : OwnS w3 (W + 1) 42 4 Edg.enc (.slice (some ⟨gg, 0, none⟩) (L.length + 1) cap) (L ++ [x])) (hgrow : w2.grownBy w3 v.ownBlock) (hat : v.ownBlock = some gg ∨ gg = w2.heap.size)
    (hmk : ∀ v', (mk v).setIfInBounds j v' = mk v') :
    At mk T W (w3.setCell ⟨W, j, none⟩ (.slice (some ⟨gg, 0, none⟩) (L.length + 1) cap)) (.slice (some ⟨gg, 0, none⟩) (L.length + 1) cap) (L ++ [x]) ∧
    Keeps W v w (w3.setCell ⟨W, j, none⟩ (.slice (some ⟨gg, 0, none⟩) (L.length + 1) cap)) ∧
    (w3.setCell ⟨W, j, none⟩ (.slice (some ⟨gg, 0, none⟩) (L.length + 1) cap)).heap[X]? = some (.cells x.cells 42 (0, 0)) ∧
    (v.ownBlock = some gg ∨ w.heap.size ≤ gg) := by
  have hW := hA.lt
  have hXs : X < w1.heap.size := (Array.getElem?_eq_some_iff.1 hX).1
  have h1s := hb.size
  have h2s := h2.size
  have hv : ∀ k, v.ownBlock = some k → W + 1 ≤ k ∧ k < w.heap.size := hA.own.lt
  have hne : some W ≠ v.ownBlock := fun e => by have := hv W e.symm; omega
  have hne2 : some X ≠ v.ownBlock := fun e => by have := hv X e.symm; omega
  have hgW : W ≠ gg := by
    rcases hat with h | h
    · have := hv gg h; omega
    · omega
  have r3 : ∀ b, b < w1.heap.size → some b ≠ v.ownBlock → w3.heap[b]? = w1.heap[b]? := fun b h3 h4 => (hgrow.block b (by omega) h4).trans (h2.block b h3)
  refine ⟨⟨?_, hown.same fun k hk => ?_⟩, ⟨?_, ?_, ?_, ?_, fun b h3 h4 h5 => ?_⟩, ?_, ?_⟩
  · have := heap_setCell_same w3 W j _ _ (.slice (some ⟨gg, 0, none⟩) (L.length + 1) cap) ((r3 W (by omega) hne).trans ((hb.block W hW).trans hA.row))
    rw [hmk] at this
    exact this
  · have : k = gg := by simpa [Value.ownBlock] using hk.symm
    subst this
    exact heap_setCell_other _ _ _ _ (Ne.symm hgW)
  · exact hgrow.os.trans (h2.os.trans hb.os)
  · exact hgrow.tape.trans (h2.tape.trans hb.tape)
  · exact hgrow.output.trans (h2.output.trans hb.output)
  · rw [World.size_setCell]; have := hgrow.size; omega
  · rw [heap_setCell_other _ _ _ _ h4]
    exact (r3 b (by omega) h5).trans (hb.block b h3)
  · rw [heap_setCell_other _ _ _ _ (by show X ≠ W; omega)]
    exact (r3 X hXs hne2).trans hX
  · rcases hat with h | h
    · exact .inl h
    · right; omega
/-- behind the append the object itself is as it was -/
theorem app_stay {mk : Value → Array Value} {T : TypeId} {W : Nat} (j : Nat) {w w2 w3 : World} {v : Value} {L : List Edg} (hA : At mk T W w v L) (hgrow : w2.grownBy w3 v.ownBlock) (hb : ∃ o, w2 = (w.alloc o).drew) :
    w3.frozen? ⟨W, j, none⟩ = false ∧ w3.cell? ⟨W, j, none⟩ = (mk v)[j]? := by
  obtain ⟨o, rfl⟩ := hb
  have hlt := hA.lt
  have hne : some W ≠ v.ownBlock := fun e => by have := (hA.own.lt W e.symm).1; omega
  have h : ((w.alloc o).drew).heap[W]? = w.heap[W]? := (below_drewN ((Below.refl w.heap.size w).alloc (Nat.le_refl _) o) 1).block W hlt
  have hr : w3.heap[W]? = some (.cells (mk v) T (0, 0)) := (hgrow.block W (by simp; omega) hne).trans (h.trans hA.row)
  exact ⟨frozen_of_row _ _ _ _ _ hr, cell_of_row _ _ _ _ _ _ hr⟩
/-- behind a call that opens: boxes of before are as they were -/
theorem opens_box {W X : Nat} {w1 w2 : World} {v : Value} {o : Obj} (hX : w1.heap[X]? = some o) (hk : Keeps W v w1 w2) (hW : X ≠ W) (hne : some X ≠ v.ownBlock) : w2.heap[X]? = some o :=
  (hk.block X (Array.getElem?_eq_some_iff.1 hX).1 hW hne).trans hX
theorem opens_low {mk : Value → Array Value} {T : TypeId} {W : Nat} {w w1 : World} {v : Value} {L : List Edg} (hA : At mk T W w v L) (hk : Keeps W v w w1) : ∀ b, b < W → w1.heap[b]? = w.heap[b]? := fun b hb =>
  hk.block b (Nat.lt_trans hb hA.lt) (by omega) (fun e => by have := (hA.own.lt b e.symm).1; omega)
theorem keeps_below {mk : Value → Array Value} {T : TypeId} {W B : Nat} {w w1 : World} {v : Value} {L : List Edg} (hA : At mk T W w v L) (hk : Keeps W v w w1) (hB : B ≤ W) : Below B w w1 :=
  ⟨hk.os, hk.tape, hk.output, hk.size, fun b hb => opens_low hA hk b (by omega)⟩
end Go.Proofs.Ytongpcfjfolfbaa
