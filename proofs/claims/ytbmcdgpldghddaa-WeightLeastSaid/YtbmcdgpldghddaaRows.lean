/-
  No cell of these rows narrows 'for every input' (looked for: loops, veiled, ifaces, maps, wideKeys, modest, calm, conditions, laid).
  DERIVED. THE GIVEN ROWS OF THIS SEAT. 8 by the template 'for every input the law returns true; each argument reads behind the call as it read before'; 0 by the template 'total and deterministic' (their statements: YtbmcdgpldghddaaTotals.lean).
  GIVEN WITH THE SEED: the statements are not yours to turn. If you find one false, say at which input.
  Laid BY PROGRAM, IN A SANDBOX (cutbox-rows.mjs): the forced cells as the released guide's own fill.sh prints them over the translation 5fae71c30271f3a7… (all of the seat's roots in one cut). By AI agents, Wed Nov 11 2026. No macro, syntax, notation, axiom, sorry.
-/
import Derived.Test.YtbmcdgpldghddaaChecked
import GoSem.Claim
import GoSem.ClaimJoined
import GoSem.ClaimMapViews
import Derived.JoinedTies
import Derived.KernelRfl
namespace Go.Proofs.Ytbmcdgpldghddaa
/- THE CELL 'sum', in the pinned program and in every row, IS THE sha256 OF THE DUMP (.gsa) THAT YtbmcdgpldghddaaProg.lean LOADS. Nothing in Lean hashes anything: it is a label: what it is worth is what the hold of that sum in a sandbox is worth. -/
noncomputable def Try.pinned : Pinned := { name := "ytbmcdgpldghddaa", sum := "5fae71c30271f3a772ad70c9028aa392745f9b85c967b65c0c336af9d599e25c", checked := Try.checked }
namespace Rows
def none {H : Type} : Left H := { results := [], args := [] }

/-- 'milepostlaw03.WeightAdds': WHATEVER THE INPUT: true; the input reads as it did. -/
def weightAddsSpec : ChangeSpec := { name := "weightAdds", fn := fun _ => fun
  | [d1, d2, d3] => { results := [.lit (.bool true)], args := [d1, d2, d3] }
  | _ => none }
def weightAddsRow : OpenClaim := { program := "ytbmcdgpldghddaa", sum := "5fae71c30271f3a772ad70c9028aa392745f9b85c967b65c0c336af9d599e25c", func := "milepost/milepostlaw03.WeightAdds", spec := "weightAdds", inPlace := ["math/bits.Add64"], apart := false }
def WeightAddsSaid : Prop := weightAddsRow.holds Try.pinned (OpenSpec.ofChange weightAddsSpec)

/-- ITS FALSE NEIGHBOUR: 'it returns false'. Refute it at one input. -/
def weightAddsWrong : ChangeSpec := { name := "weightAdds", fn := fun _ => fun
  | [d1, d2, d3] => { results := [.lit (.bool false)], args := [d1, d2, d3] }
  | _ => none }
def WeightAddsWrongFalsely : Prop := weightAddsRow.holds Try.pinned (OpenSpec.ofChange weightAddsWrong)

/-- 'milepostlaw03.WeightBetter': WHATEVER THE INPUT: true; the input reads as it did. -/
def weightBetterSpec : ChangeSpec := { name := "weightBetter", fn := fun _ => fun
  | [d1, d2] => { results := [.lit (.bool true)], args := [d1, d2] }
  | _ => none }
def weightBetterRow : OpenClaim := { program := "ytbmcdgpldghddaa", sum := "5fae71c30271f3a772ad70c9028aa392745f9b85c967b65c0c336af9d599e25c", func := "milepost/milepostlaw03.WeightBetter", spec := "weightBetter", inPlace := ["math/bits.Add64"], apart := false }
def WeightBetterSaid : Prop := weightBetterRow.holds Try.pinned (OpenSpec.ofChange weightBetterSpec)

/-- ITS FALSE NEIGHBOUR: 'it returns false'. Refute it at one input. -/
def weightBetterWrong : ChangeSpec := { name := "weightBetter", fn := fun _ => fun
  | [d1, d2] => { results := [.lit (.bool false)], args := [d1, d2] }
  | _ => none }
def WeightBetterWrongFalsely : Prop := weightBetterRow.holds Try.pinned (OpenSpec.ofChange weightBetterWrong)

/-- 'milepostlaw03.WeightOrder': WHATEVER THE INPUT: true; the input reads as it did. -/
def weightOrderSpec : ChangeSpec := { name := "weightOrder", fn := fun _ => fun
  | [d1, d2, d3] => { results := [.lit (.bool true)], args := [d1, d2, d3] }
  | _ => none }
def weightOrderRow : OpenClaim := { program := "ytbmcdgpldghddaa", sum := "5fae71c30271f3a772ad70c9028aa392745f9b85c967b65c0c336af9d599e25c", func := "milepost/milepostlaw03.WeightOrder", spec := "weightOrder", inPlace := ["math/bits.Add64"], apart := false }
def WeightOrderSaid : Prop := weightOrderRow.holds Try.pinned (OpenSpec.ofChange weightOrderSpec)

/-- ITS FALSE NEIGHBOUR: 'it returns false'. Refute it at one input. -/
def weightOrderWrong : ChangeSpec := { name := "weightOrder", fn := fun _ => fun
  | [d1, d2, d3] => { results := [.lit (.bool false)], args := [d1, d2, d3] }
  | _ => none }
def WeightOrderWrongFalsely : Prop := weightOrderRow.holds Try.pinned (OpenSpec.ofChange weightOrderWrong)

/-- 'milepostlaw03.WeightSums': WHATEVER THE INPUT: true; the input reads as it did. -/
def weightSumsSpec : ChangeSpec := { name := "weightSums", fn := fun _ => fun
  | [d1, d2] => { results := [.lit (.bool true)], args := [d1, d2] }
  | _ => none }
def weightSumsRow : OpenClaim := { program := "ytbmcdgpldghddaa", sum := "5fae71c30271f3a772ad70c9028aa392745f9b85c967b65c0c336af9d599e25c", func := "milepost/milepostlaw03.WeightSums", spec := "weightSums", inPlace := ["math/bits.Add64"], apart := false }
def WeightSumsSaid : Prop := weightSumsRow.holds Try.pinned (OpenSpec.ofChange weightSumsSpec)

/-- ITS FALSE NEIGHBOUR: 'it returns false'. Refute it at one input. -/
def weightSumsWrong : ChangeSpec := { name := "weightSums", fn := fun _ => fun
  | [d1, d2] => { results := [.lit (.bool false)], args := [d1, d2] }
  | _ => none }
def WeightSumsWrongFalsely : Prop := weightSumsRow.holds Try.pinned (OpenSpec.ofChange weightSumsWrong)

/-- 'milepostlaw03.WeightGroups': WHATEVER THE INPUT: true; the input reads as it did. -/
def weightGroupsSpec : ChangeSpec := { name := "weightGroups", fn := fun _ => fun
  | [d1, d2, d3] => { results := [.lit (.bool true)], args := [d1, d2, d3] }
  | _ => none }
def weightGroupsRow : OpenClaim := { program := "ytbmcdgpldghddaa", sum := "5fae71c30271f3a772ad70c9028aa392745f9b85c967b65c0c336af9d599e25c", func := "milepost/milepostlaw03.WeightGroups", spec := "weightGroups", inPlace := ["math/bits.Add64"], apart := false }
def WeightGroupsSaid : Prop := weightGroupsRow.holds Try.pinned (OpenSpec.ofChange weightGroupsSpec)

/-- ITS FALSE NEIGHBOUR: 'it returns false'. Refute it at one input. -/
def weightGroupsWrong : ChangeSpec := { name := "weightGroups", fn := fun _ => fun
  | [d1, d2, d3] => { results := [.lit (.bool false)], args := [d1, d2, d3] }
  | _ => none }
def WeightGroupsWrongFalsely : Prop := weightGroupsRow.holds Try.pinned (OpenSpec.ofChange weightGroupsWrong)

/-- 'milepostlaw03.WeightTimes': WHATEVER THE INPUT: true; the input reads as it did. -/
def weightTimesSpec : ChangeSpec := { name := "weightTimes", fn := fun _ => fun
  | [d1, d2] => { results := [.lit (.bool true)], args := [d1, d2] }
  | _ => none }
def weightTimesRow : OpenClaim := { program := "ytbmcdgpldghddaa", sum := "5fae71c30271f3a772ad70c9028aa392745f9b85c967b65c0c336af9d599e25c", func := "milepost/milepostlaw03.WeightTimes", spec := "weightTimes", inPlace := ["math/bits.Add64"], apart := false }
def WeightTimesSaid : Prop := weightTimesRow.holds Try.pinned (OpenSpec.ofChange weightTimesSpec)

/-- ITS FALSE NEIGHBOUR: 'it returns false'. Refute it at one input. -/
def weightTimesWrong : ChangeSpec := { name := "weightTimes", fn := fun _ => fun
  | [d1, d2] => { results := [.lit (.bool false)], args := [d1, d2] }
  | _ => none }
def WeightTimesWrongFalsely : Prop := weightTimesRow.holds Try.pinned (OpenSpec.ofChange weightTimesWrong)

/-- 'milepostlaw03.WeightLess': WHATEVER THE INPUT: true; the input reads as it did. -/
def weightLessSpec : ChangeSpec := { name := "weightLess", fn := fun _ => fun
  | [d] => { results := [.lit (.bool true)], args := [d] }
  | _ => none }
def weightLessRow : OpenClaim := { program := "ytbmcdgpldghddaa", sum := "5fae71c30271f3a772ad70c9028aa392745f9b85c967b65c0c336af9d599e25c", func := "milepost/milepostlaw03.WeightLess", spec := "weightLess", inPlace := ["math/bits.Add64"], apart := false }
def WeightLessSaid : Prop := weightLessRow.holds Try.pinned (OpenSpec.ofChange weightLessSpec)

/-- ITS FALSE NEIGHBOUR: 'it returns false'. Refute it at one input. -/
def weightLessWrong : ChangeSpec := { name := "weightLess", fn := fun _ => fun
  | [d] => { results := [.lit (.bool false)], args := [d] }
  | _ => none }
def WeightLessWrongFalsely : Prop := weightLessRow.holds Try.pinned (OpenSpec.ofChange weightLessWrong)

/-- 'milepostlaw03.WeightLeast': WHATEVER THE INPUT: true; the input reads as it did. -/
def weightLeastSpec : ChangeSpec := { name := "weightLeast", fn := fun _ => fun
  | [d] => { results := [.lit (.bool true)], args := [d] }
  | _ => none }
def weightLeastRow : OpenClaim := { program := "ytbmcdgpldghddaa", sum := "5fae71c30271f3a772ad70c9028aa392745f9b85c967b65c0c336af9d599e25c", func := "milepost/milepostlaw03.WeightLeast", spec := "weightLeast", inPlace := ["math/bits.Add64"], apart := false }
def WeightLeastSaid : Prop := weightLeastRow.holds Try.pinned (OpenSpec.ofChange weightLeastSpec)

/-- ITS FALSE NEIGHBOUR: 'it returns false'. Refute it at one input. -/
def weightLeastWrong : ChangeSpec := { name := "weightLeast", fn := fun _ => fun
  | [d] => { results := [.lit (.bool false)], args := [d] }
  | _ => none }
def WeightLeastWrongFalsely : Prop := weightLeastRow.holds Try.pinned (OpenSpec.ofChange weightLeastWrong)

/- THE SECOND FORM. 'bulk': how many values and letters a reading holds, each counted each time it is reached (what is shared counts as often as it is met; a slice's spare places count too). A statement '..UptoSaid' is the law's where the arguments, and the package variables that the reading takes, are together of bulk at most 1048576: NARROWER than '..Said'. Prove '..Said' where nothing that the law and all that it calls make is longer than what came in: it says more and counts as full. Else prove '..UptoSaid'. A law counts once. -/
mutual
def uptoBulk {H : Type} : DataW H → Nat
  | .lit (.string bytes) => bytes.length + 1
  | .lit _ => 1
  | .nil => 1
  | .ptr d => uptoBulk d + 1
  | .slice elems spare => uptoBulkAll elems + uptoBulkAll spare + 1
  | .agg parts => uptoBulkAll parts + 1
  | .iface _ d => uptoBulk d + 1
  | .map entries => uptoBulkEntries entries + 1
  | .held _ => 1
def uptoBulkAll {H : Type} : List (DataW H) → Nat
  | [] => 0
  | d :: r => uptoBulk d + uptoBulkAll r
def uptoBulkEntries {H : Type} : List (Lit × DataW H) → Nat
  | [] => 0
  | x :: r => uptoBulkEntry x + uptoBulkEntries r
def uptoBulkEntry {H : Type} : Lit × DataW H → Nat
  | (.string bytes, d) => bytes.length + uptoBulk d + 1
  | (_, d) => uptoBulk d + 1
 end
def uptoSmall : (H : Type) → List (DataW H) → Bool := fun _ ds => decide (uptoBulkAll ds ≤ 1048576)
def OpenSpec.upto (s : _root_.Go.ChangeSpec) : _root_.Go.OpenSpec := { _root_.Go.OpenSpec.ofChange s with cond := some uptoSmall }

/-- 'milepostlaw03.WeightAdds', WHERE WHAT IT READS IS OF BULK AT MOST 1048576: true; the input reads as it did. -/
def weightAddsUptoRow : OpenClaim := { program := "ytbmcdgpldghddaa", sum := "5fae71c30271f3a772ad70c9028aa392745f9b85c967b65c0c336af9d599e25c", func := "milepost/milepostlaw03.WeightAdds", spec := "weightAdds", inPlace := ["math/bits.Add64"], apart := false, narrowed := true }
def WeightAddsUptoSaid : Prop := weightAddsUptoRow.holds Try.pinned (OpenSpec.upto weightAddsSpec)

/-- 'milepostlaw03.WeightBetter', WHERE WHAT IT READS IS OF BULK AT MOST 1048576: true; the input reads as it did. -/
def weightBetterUptoRow : OpenClaim := { program := "ytbmcdgpldghddaa", sum := "5fae71c30271f3a772ad70c9028aa392745f9b85c967b65c0c336af9d599e25c", func := "milepost/milepostlaw03.WeightBetter", spec := "weightBetter", inPlace := ["math/bits.Add64"], apart := false, narrowed := true }
def WeightBetterUptoSaid : Prop := weightBetterUptoRow.holds Try.pinned (OpenSpec.upto weightBetterSpec)

/-- 'milepostlaw03.WeightOrder', WHERE WHAT IT READS IS OF BULK AT MOST 1048576: true; the input reads as it did. -/
def weightOrderUptoRow : OpenClaim := { program := "ytbmcdgpldghddaa", sum := "5fae71c30271f3a772ad70c9028aa392745f9b85c967b65c0c336af9d599e25c", func := "milepost/milepostlaw03.WeightOrder", spec := "weightOrder", inPlace := ["math/bits.Add64"], apart := false, narrowed := true }
def WeightOrderUptoSaid : Prop := weightOrderUptoRow.holds Try.pinned (OpenSpec.upto weightOrderSpec)

/-- 'milepostlaw03.WeightSums', WHERE WHAT IT READS IS OF BULK AT MOST 1048576: true; the input reads as it did. -/
def weightSumsUptoRow : OpenClaim := { program := "ytbmcdgpldghddaa", sum := "5fae71c30271f3a772ad70c9028aa392745f9b85c967b65c0c336af9d599e25c", func := "milepost/milepostlaw03.WeightSums", spec := "weightSums", inPlace := ["math/bits.Add64"], apart := false, narrowed := true }
def WeightSumsUptoSaid : Prop := weightSumsUptoRow.holds Try.pinned (OpenSpec.upto weightSumsSpec)

/-- 'milepostlaw03.WeightGroups', WHERE WHAT IT READS IS OF BULK AT MOST 1048576: true; the input reads as it did. -/
def weightGroupsUptoRow : OpenClaim := { program := "ytbmcdgpldghddaa", sum := "5fae71c30271f3a772ad70c9028aa392745f9b85c967b65c0c336af9d599e25c", func := "milepost/milepostlaw03.WeightGroups", spec := "weightGroups", inPlace := ["math/bits.Add64"], apart := false, narrowed := true }
def WeightGroupsUptoSaid : Prop := weightGroupsUptoRow.holds Try.pinned (OpenSpec.upto weightGroupsSpec)

/-- 'milepostlaw03.WeightTimes', WHERE WHAT IT READS IS OF BULK AT MOST 1048576: true; the input reads as it did. -/
def weightTimesUptoRow : OpenClaim := { program := "ytbmcdgpldghddaa", sum := "5fae71c30271f3a772ad70c9028aa392745f9b85c967b65c0c336af9d599e25c", func := "milepost/milepostlaw03.WeightTimes", spec := "weightTimes", inPlace := ["math/bits.Add64"], apart := false, narrowed := true }
def WeightTimesUptoSaid : Prop := weightTimesUptoRow.holds Try.pinned (OpenSpec.upto weightTimesSpec)

/-- 'milepostlaw03.WeightLess', WHERE WHAT IT READS IS OF BULK AT MOST 1048576: true; the input reads as it did. -/
def weightLessUptoRow : OpenClaim := { program := "ytbmcdgpldghddaa", sum := "5fae71c30271f3a772ad70c9028aa392745f9b85c967b65c0c336af9d599e25c", func := "milepost/milepostlaw03.WeightLess", spec := "weightLess", inPlace := ["math/bits.Add64"], apart := false, narrowed := true }
def WeightLessUptoSaid : Prop := weightLessUptoRow.holds Try.pinned (OpenSpec.upto weightLessSpec)

/-- 'milepostlaw03.WeightLeast', WHERE WHAT IT READS IS OF BULK AT MOST 1048576: true; the input reads as it did. -/
def weightLeastUptoRow : OpenClaim := { program := "ytbmcdgpldghddaa", sum := "5fae71c30271f3a772ad70c9028aa392745f9b85c967b65c0c336af9d599e25c", func := "milepost/milepostlaw03.WeightLeast", spec := "weightLeast", inPlace := ["math/bits.Add64"], apart := false, narrowed := true }
def WeightLeastUptoSaid : Prop := weightLeastUptoRow.holds Try.pinned (OpenSpec.upto weightLeastSpec)

end Rows
end Go.Proofs.Ytbmcdgpldghddaa
