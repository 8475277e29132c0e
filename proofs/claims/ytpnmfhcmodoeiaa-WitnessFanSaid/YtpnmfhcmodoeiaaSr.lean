/- A short search in plain words: who is come to, who is next, and what comes of it. -/
import Derived.Test.YtpnmfhcmodoeiaaMa
import Derived.Test.YtpnmfhcmodoeiaaEd
import Derived.Test.YtpnmfhcmodoeiaaWt
namespace Go.Proofs.Ytpnmfhcmodoeiaa

/-- v is the least of those that are come to, at d -/
structure IsLeast (f : Nat → Option Nat) (v d : Nat) : Prop where
  at_ : f v = some d
  le : ∀ u e, f u = some e → d < e ∨ d = e ∧ v ≤ u
theorem IsLeast.one {f : Nat → Option Nat} {v d u e : Nat} (h : IsLeast f v d) (k : IsLeast f u e) : v = u ∧ d = e := by
  have h1 := h.le u e k.at_
  have h2 := k.le v d h.at_
  omega
theorem IsLeast.some {f : Nat → Option Nat} {v d : Nat} (h : IsLeast f v d) : ¬ ∀ u, f u = none := fun k => by
  have := h.at_; rw [k v] at this; cases this
/-- a vertex is come to -/
def comeF (f : Nat → Option Nat) (v d : Nat) : Nat → Option Nat :=
  match f v with
  | some old => if old ≤ d then f else upd f v d
  | none => upd f v d
theorem comeF_old {f : Nat → Option Nat} {v d old : Nat} (h : f v = some old) (hd : old ≤ d) : comeF f v d = f := by unfold comeF; rw [h]; exact if_pos hd
theorem comeF_near {f : Nat → Option Nat} {v d old : Nat} (h : f v = some old) (hd : d < old) : comeF f v d = upd f v d := by unfold comeF; rw [h]; exact if_neg (by omega)
theorem comeF_new {f : Nat → Option Nat} {v d : Nat} (h : f v = none) : comeF f v d = upd f v d := by unfold comeF; rw [h]
theorem comeF_cases (f : Nat → Option Nat) (v d : Nat) : (∃ old, f v = some old ∧ old ≤ d ∧ comeF f v d = f) ∨ ((f v = none ∨ ∃ old, f v = some old ∧ d < old) ∧ comeF f v d = upd f v d) := by
  cases h : f v with
  | none => exact .inr ⟨.inl rfl, comeF_new h⟩
  | some old =>
    by_cases hd : old ≤ d
    · exact .inl ⟨old, rfl, hd, comeF_old h hd⟩
    · exact .inr ⟨.inr ⟨old, rfl, by omega⟩, comeF_near h (by omega)⟩
def with_ (S : Nat → Bool) (v : Nat) : Nat → Bool := fun u => if u = v then true else S u
theorem with_same (S : Nat → Bool) (v : Nat) : with_ S v v = true := if_pos rfl
theorem with_other (S : Nat → Bool) {v u : Nat} (h : u ≠ v) : with_ S v u = S u := if_neg h
/-- is a head come to by an edge? -/
def goes (S av : Nat → Bool) (d : Nat) (x : Edg) : Bool := fitsB d x.weight && !S x.head && !av x.head
/-- one edge from a vertex at d -/
def relax1 (S av : Nat → Bool) (d : Nat) (f : Nat → Option Nat) (x : Edg) : Nat → Option Nat := if goes S av d x = true then comeF f x.head (d + x.weight) else f
def relax (S av : Nat → Bool) (d : Nat) (L : List Edg) (f : Nat → Option Nat) : Nat → Option Nat := L.foldl (relax1 S av d) f
theorem relax_take (S av : Nat → Bool) (d : Nat) (L : List Edg) (f : Nat → Option Nat) (i : Nat) (hi : i < L.length) : relax S av d (L.take (i + 1)) f = relax1 S av d (relax S av d (L.take i) f) L[i] := by
  unfold relax
  rw [List.take_succ_eq_append_getElem hi, List.foldl_append]
  rfl
def start (v : Nat) : Nat → Option Nat := upd (fun _ => none) v 0

/-- the search, where k vertices are settled already: whom it asks, and what it answers -/
inductive Runs (out : Nat → List Edg × Int) (av : Nat → Bool) (to most : Nat) : Nat → (Nat → Bool) → (Nat → Option Nat) → List Nat → Bool → Int → Prop where
  | full (S f) : Runs out av to most 16 S f [] false 0
  | none (k S f) : (∀ v, f v = none) → Runs out av to most k S f [] false 0
  | far (k S f v d) : IsLeast f v d → most < d → Runs out av to most k S f [] false 0
  | is (k S f d) : k < 16 → IsLeast f to d → d ≤ most → Runs out av to most k S f [] true 0
  | err (k S f v d) : k < 16 → IsLeast f v d → d ≤ most → v ≠ to → (out v).2 ≠ 0 → Runs out av to most k S f [v] false (out v).2
  | step (k S f v d a b e) : k < 16 → IsLeast f v d → d ≤ most → v ≠ to → (out v).2 = 0 →
      Runs out av to most (k + 1) (with_ S v) (relax (with_ S v) av d (out v).1 (off f v)) a b e → Runs out av to most k S f (v :: a) b e
section
variable {out : Nat → List Edg × Int} {av : Nat → Bool} {to most : Nat} {k : Nat} {S : Nat → Bool} {f : Nat → Option Nat} {a a' : List Nat} {b b' : Bool} {e e' : Int}
theorem Runs.det (h : Runs out av to most k S f a b e) : ∀ {a' b' e'}, Runs out av to most k S f a' b' e' → a = a' ∧ b = b' ∧ e = e' := by
  induction h with
  | full S f =>
    intro a' b' e' h2
    cases h2 <;> first | exact ⟨rfl, rfl, rfl⟩ | omega
  | none k S f hn =>
    intro a' b' e' h2
    cases h2 with
    | full | none | far => exact ⟨rfl, rfl, rfl⟩
    | is _ _ _ d hk h3 h4 => exact absurd hn h3.some
    | err _ _ _ v d hk h3 => exact absurd hn h3.some
    | step _ _ _ v d a _ _ hk h3 => exact absurd hn h3.some
  | far k S f v d h1 h2 =>
    intro a' b' e' h2
    cases h2 with
    | full | none | far => exact ⟨rfl, rfl, rfl⟩
    | is _ _ _ d hk h3 h4 => have := h1.one h3; omega
    | err _ _ _ v d hk h3 => have := h1.one h3; omega
    | step _ _ _ v d a _ _ hk h3 => have := h1.one h3; omega
  | is k S f d hk h1 h2 =>
    intro a' b' e' h2
    cases h2 with
    | full => omega
    | none _ _ _ hn => exact absurd hn h1.some
    | far _ _ _ v d h3 => have := h1.one h3; omega
    | is => exact ⟨rfl, rfl, rfl⟩
    | err _ _ _ v d hk h3 => have := h1.one h3; omega
    | step _ _ _ v d a _ _ hk h3 => have := h1.one h3; omega
  | err k S f v d hk h1 h2 h3 h4 =>
    intro a' b' e' h2
    cases h2 with
    | full => omega
    | none _ _ _ hn => exact absurd hn h1.some
    | far _ _ _ v d h3 => have := h1.one h3; omega
    | is _ _ _ d hk h5 => have := h1.one h5; omega
    | err _ _ _ u d hk h5 => obtain ⟨rfl, rfl⟩ := h1.one h5; exact ⟨rfl, rfl, rfl⟩
    | step _ _ _ u d a _ _ hk h5 h6 h7 h8 => obtain ⟨rfl, rfl⟩ := h1.one h5; exact absurd h8 h4
  | step k S f v d a b e hk h1 h2 h3 h4 _ ih =>
    intro a' b' e' h2
    cases h2 with
    | full => omega
    | none _ _ _ hn => exact absurd hn h1.some
    | far _ _ _ v d h3 => have := h1.one h3; omega
    | is _ _ _ d hk h5 => have := h1.one h5; omega
    | err _ _ _ u d hk h5 h6 h7 h8 => obtain ⟨rfl, rfl⟩ := h1.one h5; exact absurd h4 h8
    | step _ _ _ u d a _ _ hk h5 h6 h7 h8 h9 =>
      obtain ⟨rfl, rfl⟩ := h1.one h5
      obtain ⟨rfl, rfl, rfl⟩ := ih h9
      exact ⟨rfl, rfl, rfl⟩
end
/-- the whole search -/
def Finds (out : Nat → List Edg × Int) (av : Nat → Bool) (src to most : Nat) (a : List Nat) (b : Bool) (e : Int) : Prop := Runs out av to most 0 (fun _ => false) (start src) a b e
/-- so far: whatever the rest comes to, the whole comes to that -/
def SoFar (out : Nat → List Edg × Int) (av : Nat → Bool) (src to most : Nat) (k : Nat) (S : Nat → Bool) (f : Nat → Option Nat) (seen : List Nat) : Prop :=
  ∀ a b e, Runs out av to most k S f a b e → Finds out av src to most (seen ++ a) b e
theorem SoFar.start (out : Nat → List Edg × Int) (av : Nat → Bool) (src to most : Nat) : SoFar out av src to most 0 (fun _ => false) (start src) [] := fun _ _ _ h => h
theorem SoFar.step {out : Nat → List Edg × Int} {av : Nat → Bool} {src to most k : Nat} {S : Nat → Bool} {f : Nat → Option Nat} {seen : List Nat} (h : SoFar out av src to most k S f seen) {v d : Nat}
    (hk : k < 16) (h1 : IsLeast f v d) (h2 : d ≤ most) (h3 : v ≠ to) (h4 : (out v).2 = 0) : SoFar out av src to most (k + 1) (with_ S v) (relax (with_ S v) av d (out v).1 (off f v)) (seen ++ [v]) := fun a b e hr => by
  have := h _ b e (.step k S f v d a b e hk h1 h2 h3 h4 hr)
  rwa [List.append_cons] at this
end Go.Proofs.Ytpnmfhcmodoeiaa
