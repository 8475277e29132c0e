/- Nets that only read, told both ways; and the shortcuts of a vertex in plain words. -/
import Derived.Test.YtiiaeddbeohplaaNc
import Derived.Test.YtiiaeddbeohplaaRl
namespace Go.Proofs.Ytiiaeddbeohplaa
open Go.RowKit
/-- a net told by its edges out and in, and by whom it avoids: the functions only read what I says -/
structure TrioD where
  B : Nat
  fo : FuncId
  po : Array Value
  co : Array Value
  fi : FuncId
  pi : Array Value
  ci : Array Value
  fa : FuncId
  pa : Array Value
  ca : Array Value
  out : Nat → List Edg × Int
  inn : Nat → List Edg × Int
  av : Nat → Bool
  I : World → Prop
structure TrioC (T : TrioD) : Prop where
  enterO : ∀ (args : Array Value) (w : World), (callFunc T.fo args).run Try.prog w = .ok (.enter T.fo args) w
  enterI : ∀ (args : Array Value) (w : World), (callFunc T.fi args).run Try.prog w = .ok (.enter T.fi args) w
  enterA : ∀ (args : Array Value) (w : World), (callFunc T.fa args).run Try.prog w = .ok (.enter T.fa args) w
  askO : ∀ (v : Nat) (w : World), v < 4294967296 → T.I w → T.B ≤ w.heap.size →
    Calls Try.prog T.fo (T.po.push (.int .u32 (v : Int)) ++ T.co) w fun e w' => ∃ A c, e = .returned (.tuple #[.slice A (T.out v).1.length c, .int .i64 (T.out v).2]) ∧ OwnS w' w.heap.size 43 4 Edg.enc (.slice A (T.out v).1.length c) (T.out v).1 ∧ Below w.heap.size w w'
  askI : ∀ (v : Nat) (w : World), v < 4294967296 → T.I w → T.B ≤ w.heap.size →
    Calls Try.prog T.fi (T.pi.push (.int .u32 (v : Int)) ++ T.ci) w fun e w' => ∃ A c, e = .returned (.tuple #[.slice A (T.inn v).1.length c, .int .i64 (T.inn v).2]) ∧ OwnS w' w.heap.size 43 4 Edg.enc (.slice A (T.inn v).1.length c) (T.inn v).1 ∧ Below w.heap.size w w'
  shun : ∀ (v : Nat) (w : World), v < 4294967296 → T.I w → Calls Try.prog T.fa (T.pa.push (.int .u32 (v : Int)) ++ T.ca) w fun e w' => e = .returned (.bool (T.av v)) ∧ w = w'
  stay : ∀ (w w' : World), T.I w → (∀ b, b < T.B → w'.heap[b]? = w.heap[b]?) → T.I w'
  lenO : ∀ v, (T.out v).1.length ≤ 1000
  lenI : ∀ v, (T.inn v).1.length ≤ 1000
theorem TrioC.below {T : TrioD} (h : TrioC T) {w w' : World} (hI : T.I w) (hB : T.B ≤ w.heap.size) (hb : Below w.heap.size w w') : T.I w' := h.stay _ _ hI fun b hb2 => hb.block b (by omega)
/-- is a vertex shunned? -/
def shunB (v : Nat) (av : Nat → Bool) (x : Nat) : Bool := (x == v) || av x
/-- what a pair of edges comes to -/
inductive PR where
  | bad (e : Int)
  | no
  | yes (x : Edg)
theorem sumV_lt (a b : Nat) : sumV a b < 18446744073709551616 := by unfold sumV; split <;> omega
def cutE (a b : Edg) (v : Nat) (hv : v < 4294967296) : Edg := ⟨a.tail, b.head, sumV a.weight b.weight, v, a.htail, b.hhead, sumV_lt _ _, hv⟩
/-- is there an edge to a vertex that is no longer? -/
def anyB (L : List Edg) (w sum : Nat) : Bool := L.any fun x => (x.head == w) && decide (x.weight ≤ sum)
def findR (out : Nat → List Edg × Int) (av : Nat → Bool) (u w sum : Nat) : List Nat × Bool × Int := runL out av w sum 16 [⟨u, 0, false⟩]
def pairR (out : Nat → List Edg × Int) (av : Nat → Bool) (v : Nat) (hv : v < 4294967296) (a b : Edg) : PR :=
  if a.tail = b.head ∨ shunB v av a.tail = true ∨ shunB v av b.head = true then .no
  else if fitsB a.weight b.weight = false then .no
  else if (out a.tail).2 ≠ 0 then .bad (out a.tail).2
  else if anyB (out a.tail).1 b.head (sumV a.weight b.weight) = true then .no
  else if (findR out (shunB v av) a.tail b.head (sumV a.weight b.weight)).2.2 ≠ 0 then .bad (findR out (shunB v av) a.tail b.head (sumV a.weight b.weight)).2.2
  else if (findR out (shunB v av) a.tail b.head (sumV a.weight b.weight)).2.1 = true then .no
  else .yes (cutE a b v hv)
/-- all pairs, in their order -/
def goR (P : Edg → Edg → PR) : List (Edg × Edg) → List Edg → List Edg × Int
  | [], acc => (acc, 0)
  | (a, b) :: r, acc => match P a b with
    | .bad e => ([], e)
    | .no => goR P r acc
    | .yes x => goR P r (acc ++ [x])
/-- the pairs behind the j-th one of the i-th edge -/
def pairsAt (I O : List Edg) (i j : Nat) : List (Edg × Edg) := (match I[i]? with | some a => (O.drop j).map fun b => (a, b) | none => []) ++ (I.drop (i + 1)).flatMap fun a => O.map fun b => (a, b)
def pairsOf (I O : List Edg) (i : Nat) : List (Edg × Edg) := (I.drop i).flatMap fun a => O.map fun b => (a, b)
section
variable {I O : List Edg} {i j : Nat} {P : Edg → Edg → PR} {r : List (Edg × Edg)} {acc : List Edg} {a b : Edg}
theorem pairs_row (hi : i < I.length) : pairsOf I O i = pairsAt I O i 0 := by
  unfold pairsOf pairsAt
  rw [List.drop_eq_getElem_cons hi, List.flatMap_cons, List.getElem?_eq_getElem hi, List.drop_zero]
theorem pairs_end (hi : i < I.length) : pairsAt I O i O.length = pairsOf I O (i + 1) := by
  unfold pairsOf pairsAt
  rw [List.getElem?_eq_getElem hi, List.drop_length]
  rfl
theorem pairs_cons (hi : i < I.length) (hj : j < O.length) : pairsAt I O i j = (I[i], O[j]) :: pairsAt I O i (j + 1) := by
  unfold pairsAt
  rw [List.getElem?_eq_getElem hi, List.drop_eq_getElem_cons hj]
  rfl
theorem pairs_done : pairsOf I O I.length = [] := by unfold pairsOf; rw [List.drop_length]; rfl
theorem goR_bad {e : Int} (h : P a b = .bad e) : goR P ((a, b) :: r) acc = ([], e) := by unfold goR; rw [h]
theorem goR_no (h : P a b = .no) : goR P ((a, b) :: r) acc = goR P r acc := by
  conv => lhs; unfold goR
  rw [h]
theorem goR_yes {x : Edg} (h : P a b = .yes x) : goR P ((a, b) :: r) acc = goR P r (acc ++ [x]) := by
  conv => lhs; unfold goR
  rw [h]
end
/-- the shortcuts of a vertex, or the first error -/
def makeR (out inn : Nat → List Edg × Int) (av : Nat → Bool) (v : Nat) (hv : v < 4294967296) : List Edg × Int :=
  if (inn v).2 ≠ 0 then ([], (inn v).2)
  else if (out v).2 ≠ 0 then ([], (out v).2)
  else goR (pairR out av v hv) (pairsOf (inn v).1 (out v).1 0) []
section
variable {out : Nat → List Edg × Int} {av : Nat → Bool} {v : Nat} {hv : v < 4294967296} {a b : Edg}
theorem pairR_shun (h : a.tail = b.head ∨ shunB v av a.tail = true ∨ shunB v av b.head = true) : pairR out av v hv a b = .no := by unfold pairR; rw [if_pos h]
theorem pairR_far (h : ¬ (a.tail = b.head ∨ shunB v av a.tail = true ∨ shunB v av b.head = true)) (h2 : fitsB a.weight b.weight = false) : pairR out av v hv a b = .no := by unfold pairR; rw [if_neg h, if_pos h2]
theorem pairR_bad (h : ¬ (a.tail = b.head ∨ shunB v av a.tail = true ∨ shunB v av b.head = true)) (h2 : fitsB a.weight b.weight = true) (h3 : (out a.tail).2 ≠ 0) : pairR out av v hv a b = .bad (out a.tail).2 := by
  unfold pairR; rw [if_neg h, if_neg (by rw [h2]; decide), if_pos h3]
theorem pairR_edge (h : ¬ (a.tail = b.head ∨ shunB v av a.tail = true ∨ shunB v av b.head = true)) (h2 : fitsB a.weight b.weight = true) (h3 : (out a.tail).2 = 0) (h4 : anyB (out a.tail).1 b.head (sumV a.weight b.weight) = true) : pairR out av v hv a b = .no := by
  unfold pairR; rw [if_neg h, if_neg (by rw [h2]; decide), if_neg (fun e => e h3), if_pos h4]
theorem pairR_find (h : ¬ (a.tail = b.head ∨ shunB v av a.tail = true ∨ shunB v av b.head = true)) (h2 : fitsB a.weight b.weight = true) (h3 : (out a.tail).2 = 0) (h4 : anyB (out a.tail).1 b.head (sumV a.weight b.weight) = false) :
    pairR out av v hv a b = if (findR out (shunB v av) a.tail b.head (sumV a.weight b.weight)).2.2 ≠ 0 then .bad (findR out (shunB v av) a.tail b.head (sumV a.weight b.weight)).2.2
      else if (findR out (shunB v av) a.tail b.head (sumV a.weight b.weight)).2.1 = true then .no else .yes (cutE a b v hv) := by
  unfold pairR; rw [if_neg h, if_neg (by rw [h2]; decide), if_neg (fun e => e h3), if_neg (by rw [h4]; decide)]
theorem finds_R {src to most : Nat} {l : List Nat} {x : Bool} {e : Int} (h : Finds out av src to most l x e) : x = (findR out av src to most).2.1 ∧ e = (findR out av src to most).2.2 := (finds_runL h).2
theorem R_finds (out : Nat → List Edg × Int) (av : Nat → Bool) (src to most : Nat) : Finds out av src to most (findR out av src to most).1 (findR out av src to most).2.1 (findR out av src to most).2.2 :=
  runL_runs out av to most 16 0 _ _ _ rfl (Rep.start src)
end
end Go.Proofs.Ytiiaeddbeohplaa
