/-
  No cell of these rows narrows 'for every input' (looked for: loops, veiled, ifaces, maps, wideKeys, modest, calm, conditions, laid).
  DERIVED. THE GIVEN ROWS OF THIS SEAT. 7 by the template 'for every input the law returns true; each argument reads behind the call as it read before'; 0 by the template 'total and deterministic' (their statements: YtiiaeddbeohplaaTotals.lean).
  GIVEN WITH THE SEED: the statements are not yours to turn. If you find one false, say at which input.
  Laid BY PROGRAM, IN A SANDBOX (cutbox-rows.mjs): the forced cells as the released guide's own fill.sh prints them over the translation 23a444a4a5a2666f… (all of the seat's roots in one cut). By AI agents, Wed Nov 11 2026. No macro, syntax, notation, axiom, sorry.
-/
import Derived.Test.YtiiaeddbeohplaaChecked
import GoSem.Claim
import GoSem.ClaimJoined
import GoSem.ClaimMapViews
import Derived.JoinedTies
import Derived.KernelRfl
namespace Go.Proofs.Ytiiaeddbeohplaa
/- THE CELL 'sum', in the pinned program and in every row, IS THE sha256 OF THE DUMP (.gsa) THAT YtiiaeddbeohplaaProg.lean LOADS. Nothing in Lean hashes anything: it is a label: what it is worth is what the hold of that sum in a sandbox is worth. -/
noncomputable def Try.pinned : Pinned := { name := "ytiiaeddbeohplaa", sum := "23a444a4a5a2666f756465e39bee1167a4812a8c419142ed328fd76a145b9b55", checked := Try.checked }
namespace Rows
def none {H : Type} : Left H := { results := [], args := [] }

/-- 'milepostlaw17.ShortcutMakes': WHATEVER THE INPUT: true; the input reads as it did. -/
def shortcutMakesSpec : ChangeSpec := { name := "shortcutMakes", fn := fun _ => fun
  | [d1, d2] => { results := [.lit (.bool true)], args := [d1, d2] }
  | _ => none }
def shortcutMakesRow : OpenClaim := { program := "ytiiaeddbeohplaa", sum := "23a444a4a5a2666f756465e39bee1167a4812a8c419142ed328fd76a145b9b55", func := "milepost/milepostlaw17.ShortcutMakes", spec := "shortcutMakes", inPlace := ["math/bits.Add64"], unfollowed := true, recurses := true, apart := false }
def ShortcutMakesSaid : Prop := shortcutMakesRow.holds Try.pinned (OpenSpec.ofChange shortcutMakesSpec)

/-- ITS FALSE NEIGHBOUR: 'it returns false'. Refute it at one input. -/
def shortcutMakesWrong : ChangeSpec := { name := "shortcutMakes", fn := fun _ => fun
  | [d1, d2] => { results := [.lit (.bool false)], args := [d1, d2] }
  | _ => none }
def ShortcutMakesWrongFalsely : Prop := shortcutMakesRow.holds Try.pinned (OpenSpec.ofChange shortcutMakesWrong)

/-- 'milepostlaw17.ShortcutTwo': WHATEVER THE INPUT: true; the input reads as it did. -/
def shortcutTwoSpec : ChangeSpec := { name := "shortcutTwo", fn := fun _ => fun
  | [d1, d2] => { results := [.lit (.bool true)], args := [d1, d2] }
  | _ => none }
def shortcutTwoRow : OpenClaim := { program := "ytiiaeddbeohplaa", sum := "23a444a4a5a2666f756465e39bee1167a4812a8c419142ed328fd76a145b9b55", func := "milepost/milepostlaw17.ShortcutTwo", spec := "shortcutTwo", inPlace := ["math/bits.Add64"], unfollowed := true, recurses := true, apart := false }
def ShortcutTwoSaid : Prop := shortcutTwoRow.holds Try.pinned (OpenSpec.ofChange shortcutTwoSpec)

/-- ITS FALSE NEIGHBOUR: 'it returns false'. Refute it at one input. -/
def shortcutTwoWrong : ChangeSpec := { name := "shortcutTwo", fn := fun _ => fun
  | [d1, d2] => { results := [.lit (.bool false)], args := [d1, d2] }
  | _ => none }
def ShortcutTwoWrongFalsely : Prop := shortcutTwoRow.holds Try.pinned (OpenSpec.ofChange shortcutTwoWrong)

/-- 'milepostlaw17.ShortcutKeeps': WHATEVER THE INPUT: true; the input reads as it did. -/
def shortcutKeepsSpec : ChangeSpec := { name := "shortcutKeeps", fn := fun _ => fun
  | [d1, d2] => { results := [.lit (.bool true)], args := [d1, d2] }
  | _ => none }
def shortcutKeepsRow : OpenClaim := { program := "ytiiaeddbeohplaa", sum := "23a444a4a5a2666f756465e39bee1167a4812a8c419142ed328fd76a145b9b55", func := "milepost/milepostlaw17.ShortcutKeeps", spec := "shortcutKeeps", inPlace := ["math/bits.Add64"], unfollowed := true, recurses := true, apart := false }
def ShortcutKeepsSaid : Prop := shortcutKeepsRow.holds Try.pinned (OpenSpec.ofChange shortcutKeepsSpec)

/-- ITS FALSE NEIGHBOUR: 'it returns false'. Refute it at one input. -/
def shortcutKeepsWrong : ChangeSpec := { name := "shortcutKeeps", fn := fun _ => fun
  | [d1, d2] => { results := [.lit (.bool false)], args := [d1, d2] }
  | _ => none }
def ShortcutKeepsWrongFalsely : Prop := shortcutKeepsRow.holds Try.pinned (OpenSpec.ofChange shortcutKeepsWrong)

/-- 'milepostlaw17.ShortcutNil': WHATEVER THE INPUT: true; the input reads as it did. -/
def shortcutNilSpec : ChangeSpec := { name := "shortcutNil", fn := fun _ => fun
  | [d1, d2] => { results := [.lit (.bool true)], args := [d1, d2] }
  | _ => none }
def shortcutNilRow : OpenClaim := { program := "ytiiaeddbeohplaa", sum := "23a444a4a5a2666f756465e39bee1167a4812a8c419142ed328fd76a145b9b55", func := "milepost/milepostlaw17.ShortcutNil", spec := "shortcutNil", inPlace := ["math/bits.Add64"], unfollowed := true, recurses := true, apart := false }
def ShortcutNilSaid : Prop := shortcutNilRow.holds Try.pinned (OpenSpec.ofChange shortcutNilSpec)

/-- ITS FALSE NEIGHBOUR: 'it returns false'. Refute it at one input. -/
def shortcutNilWrong : ChangeSpec := { name := "shortcutNil", fn := fun _ => fun
  | [d1, d2] => { results := [.lit (.bool false)], args := [d1, d2] }
  | _ => none }
def ShortcutNilWrongFalsely : Prop := shortcutNilRow.holds Try.pinned (OpenSpec.ofChange shortcutNilWrong)

/-- 'milepostlaw17.ShortcutStars': WHATEVER THE INPUT: true; the input reads as it did. -/
def shortcutStarsSpec : ChangeSpec := { name := "shortcutStars", fn := fun _ => fun
  | [d] => { results := [.lit (.bool true)], args := [d] }
  | _ => none }
def shortcutStarsRow : OpenClaim := { program := "ytiiaeddbeohplaa", sum := "23a444a4a5a2666f756465e39bee1167a4812a8c419142ed328fd76a145b9b55", func := "milepost/milepostlaw17.ShortcutStars", spec := "shortcutStars", inPlace := ["math/bits.Add64"], unfollowed := true, recurses := true, apart := false }
def ShortcutStarsSaid : Prop := shortcutStarsRow.holds Try.pinned (OpenSpec.ofChange shortcutStarsSpec)

/-- ITS FALSE NEIGHBOUR: 'it returns false'. Refute it at one input. -/
def shortcutStarsWrong : ChangeSpec := { name := "shortcutStars", fn := fun _ => fun
  | [d] => { results := [.lit (.bool false)], args := [d] }
  | _ => none }
def ShortcutStarsWrongFalsely : Prop := shortcutStarsRow.holds Try.pinned (OpenSpec.ofChange shortcutStarsWrong)

/-- 'milepostlaw17.ShortcutEdges': WHATEVER THE INPUT: true; the input reads as it did. -/
def shortcutEdgesSpec : ChangeSpec := { name := "shortcutEdges", fn := fun _ => fun
  | [d1, d2, d3] => { results := [.lit (.bool true)], args := [d1, d2, d3] }
  | _ => none }
def shortcutEdgesRow : OpenClaim := { program := "ytiiaeddbeohplaa", sum := "23a444a4a5a2666f756465e39bee1167a4812a8c419142ed328fd76a145b9b55", func := "milepost/milepostlaw17.ShortcutEdges", spec := "shortcutEdges", inPlace := ["math/bits.Add64"], unfollowed := true, recurses := true, apart := false }
def ShortcutEdgesSaid : Prop := shortcutEdgesRow.holds Try.pinned (OpenSpec.ofChange shortcutEdgesSpec)

/-- ITS FALSE NEIGHBOUR: 'it returns false'. Refute it at one input. -/
def shortcutEdgesWrong : ChangeSpec := { name := "shortcutEdges", fn := fun _ => fun
  | [d1, d2, d3] => { results := [.lit (.bool false)], args := [d1, d2, d3] }
  | _ => none }
def ShortcutEdgesWrongFalsely : Prop := shortcutEdgesRow.holds Try.pinned (OpenSpec.ofChange shortcutEdgesWrong)

/-- 'milepostlaw17.ShortcutEnds': WHATEVER THE INPUT: true; the input reads as it did. -/
def shortcutEndsSpec : ChangeSpec := { name := "shortcutEnds", fn := fun _ => fun
  | [d] => { results := [.lit (.bool true)], args := [d] }
  | _ => none }
def shortcutEndsRow : OpenClaim := { program := "ytiiaeddbeohplaa", sum := "23a444a4a5a2666f756465e39bee1167a4812a8c419142ed328fd76a145b9b55", func := "milepost/milepostlaw17.ShortcutEnds", spec := "shortcutEnds", inPlace := ["math/bits.Add64"], unfollowed := true, recurses := true, apart := false }
def ShortcutEndsSaid : Prop := shortcutEndsRow.holds Try.pinned (OpenSpec.ofChange shortcutEndsSpec)

/-- ITS FALSE NEIGHBOUR: 'it returns false'. Refute it at one input. -/
def shortcutEndsWrong : ChangeSpec := { name := "shortcutEnds", fn := fun _ => fun
  | [d] => { results := [.lit (.bool false)], args := [d] }
  | _ => none }
def ShortcutEndsWrongFalsely : Prop := shortcutEndsRow.holds Try.pinned (OpenSpec.ofChange shortcutEndsWrong)

/- THE SECOND FORM. 'bulk': how many values and letters a reading holds, each counted each time it is reached (what is shared counts as often as it is met; a slice's spare places count too). A statement '..UptoSaid' is the law's where the arguments, and the package variables that the reading takes, are together of bulk at most 1048576: NARROWER than '..Said'. Prove '..Said' where nothing that the law and all that it calls make is longer than what came in: it says more and counts as full. Else prove '..UptoSaid'. A law counts once. -/
mutual
def uptoBulk {H : Type} : DataW H → Nat
  | .lit (.string bytes) => bytes.length + 1
  | .lit _ => 1
  | .nil => 1
  | .ptr d => uptoBulk d + 1
  | .slice elems spare => uptoBulkAll elems + uptoBulkAll spare + 1
  | .agg parts => uptoBulkAll parts + 1
  | .iface _ d => uptoBulk d + 1
  | .map entries => uptoBulkEntries entries + 1
  | .held _ => 1
def uptoBulkAll {H : Type} : List (DataW H) → Nat
  | [] => 0
  | d :: r => uptoBulk d + uptoBulkAll r
def uptoBulkEntries {H : Type} : List (Lit × DataW H) → Nat
  | [] => 0
  | x :: r => uptoBulkEntry x + uptoBulkEntries r
def uptoBulkEntry {H : Type} : Lit × DataW H → Nat
  | (.string bytes, d) => bytes.length + uptoBulk d + 1
  | (_, d) => uptoBulk d + 1
 end
def uptoSmall : (H : Type) → List (DataW H) → Bool := fun _ ds => decide (uptoBulkAll ds ≤ 1048576)
def OpenSpec.upto (s : _root_.Go.ChangeSpec) : _root_.Go.OpenSpec := { _root_.Go.OpenSpec.ofChange s with cond := some uptoSmall }

/-- 'milepostlaw17.ShortcutMakes', WHERE WHAT IT READS IS OF BULK AT MOST 1048576: true; the input reads as it did. -/
def shortcutMakesUptoRow : OpenClaim := { program := "ytiiaeddbeohplaa", sum := "23a444a4a5a2666f756465e39bee1167a4812a8c419142ed328fd76a145b9b55", func := "milepost/milepostlaw17.ShortcutMakes", spec := "shortcutMakes", inPlace := ["math/bits.Add64"], unfollowed := true, recurses := true, apart := false, narrowed := true }
def ShortcutMakesUptoSaid : Prop := shortcutMakesUptoRow.holds Try.pinned (OpenSpec.upto shortcutMakesSpec)

/-- 'milepostlaw17.ShortcutTwo', WHERE WHAT IT READS IS OF BULK AT MOST 1048576: true; the input reads as it did. -/
def shortcutTwoUptoRow : OpenClaim := { program := "ytiiaeddbeohplaa", sum := "23a444a4a5a2666f756465e39bee1167a4812a8c419142ed328fd76a145b9b55", func := "milepost/milepostlaw17.ShortcutTwo", spec := "shortcutTwo", inPlace := ["math/bits.Add64"], unfollowed := true, recurses := true, apart := false, narrowed := true }
def ShortcutTwoUptoSaid : Prop := shortcutTwoUptoRow.holds Try.pinned (OpenSpec.upto shortcutTwoSpec)

/-- 'milepostlaw17.ShortcutKeeps', WHERE WHAT IT READS IS OF BULK AT MOST 1048576: true; the input reads as it did. -/
def shortcutKeepsUptoRow : OpenClaim := { program := "ytiiaeddbeohplaa", sum := "23a444a4a5a2666f756465e39bee1167a4812a8c419142ed328fd76a145b9b55", func := "milepost/milepostlaw17.ShortcutKeeps", spec := "shortcutKeeps", inPlace := ["math/bits.Add64"], unfollowed := true, recurses := true, apart := false, narrowed := true }
def ShortcutKeepsUptoSaid : Prop := shortcutKeepsUptoRow.holds Try.pinned (OpenSpec.upto shortcutKeepsSpec)

/-- 'milepostlaw17.ShortcutNil', WHERE WHAT IT READS IS OF BULK AT MOST 1048576: true; the input reads as it did. -/
def shortcutNilUptoRow : OpenClaim := { program := "ytiiaeddbeohplaa", sum := "23a444a4a5a2666f756465e39bee1167a4812a8c419142ed328fd76a145b9b55", func := "milepost/milepostlaw17.ShortcutNil", spec := "shortcutNil", inPlace := ["math/bits.Add64"], unfollowed := true, recurses := true, apart := false, narrowed := true }
def ShortcutNilUptoSaid : Prop := shortcutNilUptoRow.holds Try.pinned (OpenSpec.upto shortcutNilSpec)

/-- 'milepostlaw17.ShortcutStars', WHERE WHAT IT READS IS OF BULK AT MOST 1048576: true; the input reads as it did. -/
def shortcutStarsUptoRow : OpenClaim := { program := "ytiiaeddbeohplaa", sum := "23a444a4a5a2666f756465e39bee1167a4812a8c419142ed328fd76a145b9b55", func := "milepost/milepostlaw17.ShortcutStars", spec := "shortcutStars", inPlace := ["math/bits.Add64"], unfollowed := true, recurses := true, apart := false, narrowed := true }
def ShortcutStarsUptoSaid : Prop := shortcutStarsUptoRow.holds Try.pinned (OpenSpec.upto shortcutStarsSpec)

/-- 'milepostlaw17.ShortcutEdges', WHERE WHAT IT READS IS OF BULK AT MOST 1048576: true; the input reads as it did. -/
def shortcutEdgesUptoRow : OpenClaim := { program := "ytiiaeddbeohplaa", sum := "23a444a4a5a2666f756465e39bee1167a4812a8c419142ed328fd76a145b9b55", func := "milepost/milepostlaw17.ShortcutEdges", spec := "shortcutEdges", inPlace := ["math/bits.Add64"], unfollowed := true, recurses := true, apart := false, narrowed := true }
def ShortcutEdgesUptoSaid : Prop := shortcutEdgesUptoRow.holds Try.pinned (OpenSpec.upto shortcutEdgesSpec)

/-- 'milepostlaw17.ShortcutEnds', WHERE WHAT IT READS IS OF BULK AT MOST 1048576: true; the input reads as it did. -/
def shortcutEndsUptoRow : OpenClaim := { program := "ytiiaeddbeohplaa", sum := "23a444a4a5a2666f756465e39bee1167a4812a8c419142ed328fd76a145b9b55", func := "milepost/milepostlaw17.ShortcutEnds", spec := "shortcutEnds", inPlace := ["math/bits.Add64"], unfollowed := true, recurses := true, apart := false, narrowed := true }
def ShortcutEndsUptoSaid : Prop := shortcutEndsUptoRow.holds Try.pinned (OpenSpec.upto shortcutEndsSpec)

end Rows
end Go.Proofs.Ytiiaeddbeohplaa
