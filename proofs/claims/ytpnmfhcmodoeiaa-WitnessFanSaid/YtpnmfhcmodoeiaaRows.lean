/-
  No cell of these rows narrows 'for every input' (looked for: loops, veiled, ifaces, maps, wideKeys, modest, calm, conditions, laid).
  DERIVED. THE GIVEN ROWS OF THIS SEAT. 8 by the template 'for every input the law returns true; each argument reads behind the call as it read before'; 0 by the template 'total and deterministic' (their statements: YtpnmfhcmodoeiaaTotals.lean).
  GIVEN WITH THE SEED: the statements are not yours to turn. If you find one false, say at which input.
  Laid BY PROGRAM, IN A SANDBOX (cutbox-rows.mjs): the forced cells as the released guide's own fill.sh prints them over the translation 9ae4acb3134bd017… (all of the seat's roots in one cut). By AI agents, Wed Nov 11 2026. No macro, syntax, notation, axiom, sorry.
-/
import Derived.Test.YtpnmfhcmodoeiaaChecked
import GoSem.Claim
import GoSem.ClaimJoined
import GoSem.ClaimMapViews
import Derived.JoinedTies
import Derived.KernelRfl
namespace Go.Proofs.Ytpnmfhcmodoeiaa
/- THE CELL 'sum', in the pinned program and in every row, IS THE sha256 OF THE DUMP (.gsa) THAT YtpnmfhcmodoeiaaProg.lean LOADS. Nothing in Lean hashes anything: it is a label: what it is worth is what the hold of that sum in a sandbox is worth. -/
noncomputable def Try.pinned : Pinned := { name := "ytpnmfhcmodoeiaa", sum := "9ae4acb3134bd01702c5d47c3bfbc1a3736c57b7728d63aa0a2cc697af909fdb", checked := Try.checked }
namespace Rows
def none {H : Type} : Left H := { results := [], args := [] }

/-- 'milepostlaw14.WitnessFinds': WHATEVER THE INPUT: true; the input reads as it did. -/
def witnessFindsSpec : ChangeSpec := { name := "witnessFinds", fn := fun _ => fun
  | [d1, d2] => { results := [.lit (.bool true)], args := [d1, d2] }
  | _ => none }
def witnessFindsRow : OpenClaim := { program := "ytpnmfhcmodoeiaa", sum := "9ae4acb3134bd01702c5d47c3bfbc1a3736c57b7728d63aa0a2cc697af909fdb", func := "milepost/milepostlaw14.WitnessFinds", spec := "witnessFinds", inPlace := ["math/bits.Add64"], unfollowed := true, recurses := true, apart := false }
def WitnessFindsSaid : Prop := witnessFindsRow.holds Try.pinned (OpenSpec.ofChange witnessFindsSpec)

/-- ITS FALSE NEIGHBOUR: 'it returns false'. Refute it at one input. -/
def witnessFindsWrong : ChangeSpec := { name := "witnessFinds", fn := fun _ => fun
  | [d1, d2] => { results := [.lit (.bool false)], args := [d1, d2] }
  | _ => none }
def WitnessFindsWrongFalsely : Prop := witnessFindsRow.holds Try.pinned (OpenSpec.ofChange witnessFindsWrong)

/-- 'milepostlaw14.WitnessWays': WHATEVER THE INPUT: true; the input reads as it did. -/
def witnessWaysSpec : ChangeSpec := { name := "witnessWays", fn := fun _ => fun
  | [d1, d2] => { results := [.lit (.bool true)], args := [d1, d2] }
  | _ => none }
def witnessWaysRow : OpenClaim := { program := "ytpnmfhcmodoeiaa", sum := "9ae4acb3134bd01702c5d47c3bfbc1a3736c57b7728d63aa0a2cc697af909fdb", func := "milepost/milepostlaw14.WitnessWays", spec := "witnessWays", inPlace := ["math/bits.Add64"], unfollowed := true, recurses := true, apart := false }
def WitnessWaysSaid : Prop := witnessWaysRow.holds Try.pinned (OpenSpec.ofChange witnessWaysSpec)

/-- ITS FALSE NEIGHBOUR: 'it returns false'. Refute it at one input. -/
def witnessWaysWrong : ChangeSpec := { name := "witnessWays", fn := fun _ => fun
  | [d1, d2] => { results := [.lit (.bool false)], args := [d1, d2] }
  | _ => none }
def WitnessWaysWrongFalsely : Prop := witnessWaysRow.holds Try.pinned (OpenSpec.ofChange witnessWaysWrong)

/-- 'milepostlaw14.WitnessMore': WHATEVER THE INPUT: true; the input reads as it did. -/
def witnessMoreSpec : ChangeSpec := { name := "witnessMore", fn := fun _ => fun
  | [d1, d2, d3] => { results := [.lit (.bool true)], args := [d1, d2, d3] }
  | _ => none }
def witnessMoreRow : OpenClaim := { program := "ytpnmfhcmodoeiaa", sum := "9ae4acb3134bd01702c5d47c3bfbc1a3736c57b7728d63aa0a2cc697af909fdb", func := "milepost/milepostlaw14.WitnessMore", spec := "witnessMore", inPlace := ["math/bits.Add64"], unfollowed := true, recurses := true, apart := false }
def WitnessMoreSaid : Prop := witnessMoreRow.holds Try.pinned (OpenSpec.ofChange witnessMoreSpec)

/-- ITS FALSE NEIGHBOUR: 'it returns false'. Refute it at one input. -/
def witnessMoreWrong : ChangeSpec := { name := "witnessMore", fn := fun _ => fun
  | [d1, d2, d3] => { results := [.lit (.bool false)], args := [d1, d2, d3] }
  | _ => none }
def WitnessMoreWrongFalsely : Prop := witnessMoreRow.holds Try.pinned (OpenSpec.ofChange witnessMoreWrong)

/-- 'milepostlaw14.WitnessFan': WHATEVER THE INPUT: true; the input reads as it did. -/
def witnessFanSpec : ChangeSpec := { name := "witnessFan", fn := fun _ => fun
  | [d1, d2] => { results := [.lit (.bool true)], args := [d1, d2] }
  | _ => none }
def witnessFanRow : OpenClaim := { program := "ytpnmfhcmodoeiaa", sum := "9ae4acb3134bd01702c5d47c3bfbc1a3736c57b7728d63aa0a2cc697af909fdb", func := "milepost/milepostlaw14.WitnessFan", spec := "witnessFan", inPlace := ["math/bits.Add64"], unfollowed := true, recurses := true, apart := false }
def WitnessFanSaid : Prop := witnessFanRow.holds Try.pinned (OpenSpec.ofChange witnessFanSpec)

/-- ITS FALSE NEIGHBOUR: 'it returns false'. Refute it at one input. -/
def witnessFanWrong : ChangeSpec := { name := "witnessFan", fn := fun _ => fun
  | [d1, d2] => { results := [.lit (.bool false)], args := [d1, d2] }
  | _ => none }
def WitnessFanWrongFalsely : Prop := witnessFanRow.holds Try.pinned (OpenSpec.ofChange witnessFanWrong)

/-- 'milepostlaw14.WitnessNil': WHATEVER THE INPUT: true; the input reads as it did. -/
def witnessNilSpec : ChangeSpec := { name := "witnessNil", fn := fun _ => fun
  | [d1, d2] => { results := [.lit (.bool true)], args := [d1, d2] }
  | _ => none }
def witnessNilRow : OpenClaim := { program := "ytpnmfhcmodoeiaa", sum := "9ae4acb3134bd01702c5d47c3bfbc1a3736c57b7728d63aa0a2cc697af909fdb", func := "milepost/milepostlaw14.WitnessNil", spec := "witnessNil", inPlace := ["math/bits.Add64"], unfollowed := true, recurses := true, apart := false }
def WitnessNilSaid : Prop := witnessNilRow.holds Try.pinned (OpenSpec.ofChange witnessNilSpec)

/-- ITS FALSE NEIGHBOUR: 'it returns false'. Refute it at one input. -/
def witnessNilWrong : ChangeSpec := { name := "witnessNil", fn := fun _ => fun
  | [d1, d2] => { results := [.lit (.bool false)], args := [d1, d2] }
  | _ => none }
def WitnessNilWrongFalsely : Prop := witnessNilRow.holds Try.pinned (OpenSpec.ofChange witnessNilWrong)

/-- 'milepostlaw14.WitnessRoads': WHATEVER THE INPUT: true; the input reads as it did. -/
def witnessRoadsSpec : ChangeSpec := { name := "witnessRoads", fn := fun _ => fun
  | [d] => { results := [.lit (.bool true)], args := [d] }
  | _ => none }
def witnessRoadsRow : OpenClaim := { program := "ytpnmfhcmodoeiaa", sum := "9ae4acb3134bd01702c5d47c3bfbc1a3736c57b7728d63aa0a2cc697af909fdb", func := "milepost/milepostlaw14.WitnessRoads", spec := "witnessRoads", inPlace := ["math/bits.Add64"], unfollowed := true, recurses := true, apart := false }
def WitnessRoadsSaid : Prop := witnessRoadsRow.holds Try.pinned (OpenSpec.ofChange witnessRoadsSpec)

/-- ITS FALSE NEIGHBOUR: 'it returns false'. Refute it at one input. -/
def witnessRoadsWrong : ChangeSpec := { name := "witnessRoads", fn := fun _ => fun
  | [d] => { results := [.lit (.bool false)], args := [d] }
  | _ => none }
def WitnessRoadsWrongFalsely : Prop := witnessRoadsRow.holds Try.pinned (OpenSpec.ofChange witnessRoadsWrong)

/-- 'milepostlaw14.WitnessSelf': WHATEVER THE INPUT: true; the input reads as it did. -/
def witnessSelfSpec : ChangeSpec := { name := "witnessSelf", fn := fun _ => fun
  | [d1, d2] => { results := [.lit (.bool true)], args := [d1, d2] }
  | _ => none }
def witnessSelfRow : OpenClaim := { program := "ytpnmfhcmodoeiaa", sum := "9ae4acb3134bd01702c5d47c3bfbc1a3736c57b7728d63aa0a2cc697af909fdb", func := "milepost/milepostlaw14.WitnessSelf", spec := "witnessSelf", inPlace := ["math/bits.Add64"], unfollowed := true, recurses := true, apart := false }
def WitnessSelfSaid : Prop := witnessSelfRow.holds Try.pinned (OpenSpec.ofChange witnessSelfSpec)

/-- ITS FALSE NEIGHBOUR: 'it returns false'. Refute it at one input. -/
def witnessSelfWrong : ChangeSpec := { name := "witnessSelf", fn := fun _ => fun
  | [d1, d2] => { results := [.lit (.bool false)], args := [d1, d2] }
  | _ => none }
def WitnessSelfWrongFalsely : Prop := witnessSelfRow.holds Try.pinned (OpenSpec.ofChange witnessSelfWrong)

/-- 'milepostlaw14.WitnessForks': WHATEVER THE INPUT: true; the input reads as it did. -/
def witnessForksSpec : ChangeSpec := { name := "witnessForks", fn := fun _ => fun
  | [d1, d2] => { results := [.lit (.bool true)], args := [d1, d2] }
  | _ => none }
def witnessForksRow : OpenClaim := { program := "ytpnmfhcmodoeiaa", sum := "9ae4acb3134bd01702c5d47c3bfbc1a3736c57b7728d63aa0a2cc697af909fdb", func := "milepost/milepostlaw14.WitnessForks", spec := "witnessForks", inPlace := ["math/bits.Add64"], unfollowed := true, recurses := true, apart := false }
def WitnessForksSaid : Prop := witnessForksRow.holds Try.pinned (OpenSpec.ofChange witnessForksSpec)

/-- ITS FALSE NEIGHBOUR: 'it returns false'. Refute it at one input. -/
def witnessForksWrong : ChangeSpec := { name := "witnessForks", fn := fun _ => fun
  | [d1, d2] => { results := [.lit (.bool false)], args := [d1, d2] }
  | _ => none }
def WitnessForksWrongFalsely : Prop := witnessForksRow.holds Try.pinned (OpenSpec.ofChange witnessForksWrong)

/- THE SECOND FORM. 'bulk': how many values and letters a reading holds, each counted each time it is reached (what is shared counts as often as it is met; a slice's spare places count too). A statement '..UptoSaid' is the law's where the arguments, and the package variables that the reading takes, are together of bulk at most 1048576: NARROWER than '..Said'. Prove '..Said' where nothing that the law and all that it calls make is longer than what came in: it says more and counts as full. Else prove '..UptoSaid'. A law counts once. -/
mutual
def uptoBulk {H : Type} : DataW H → Nat
  | .lit (.string bytes) => bytes.length + 1
  | .lit _ => 1
  | .nil => 1
  | .ptr d => uptoBulk d + 1
  | .slice elems spare => uptoBulkAll elems + uptoBulkAll spare + 1
  | .agg parts => uptoBulkAll parts + 1
  | .iface _ d => uptoBulk d + 1
  | .map entries => uptoBulkEntries entries + 1
  | .held _ => 1
def uptoBulkAll {H : Type} : List (DataW H) → Nat
  | [] => 0
  | d :: r => uptoBulk d + uptoBulkAll r
def uptoBulkEntries {H : Type} : List (Lit × DataW H) → Nat
  | [] => 0
  | x :: r => uptoBulkEntry x + uptoBulkEntries r
def uptoBulkEntry {H : Type} : Lit × DataW H → Nat
  | (.string bytes, d) => bytes.length + uptoBulk d + 1
  | (_, d) => uptoBulk d + 1
 end
def uptoSmall : (H : Type) → List (DataW H) → Bool := fun _ ds => decide (uptoBulkAll ds ≤ 1048576)
def OpenSpec.upto (s : _root_.Go.ChangeSpec) : _root_.Go.OpenSpec := { _root_.Go.OpenSpec.ofChange s with cond := some uptoSmall }

/-- 'milepostlaw14.WitnessFinds', WHERE WHAT IT READS IS OF BULK AT MOST 1048576: true; the input reads as it did. -/
def witnessFindsUptoRow : OpenClaim := { program := "ytpnmfhcmodoeiaa", sum := "9ae4acb3134bd01702c5d47c3bfbc1a3736c57b7728d63aa0a2cc697af909fdb", func := "milepost/milepostlaw14.WitnessFinds", spec := "witnessFinds", inPlace := ["math/bits.Add64"], unfollowed := true, recurses := true, apart := false, narrowed := true }
def WitnessFindsUptoSaid : Prop := witnessFindsUptoRow.holds Try.pinned (OpenSpec.upto witnessFindsSpec)

/-- 'milepostlaw14.WitnessWays', WHERE WHAT IT READS IS OF BULK AT MOST 1048576: true; the input reads as it did. -/
def witnessWaysUptoRow : OpenClaim := { program := "ytpnmfhcmodoeiaa", sum := "9ae4acb3134bd01702c5d47c3bfbc1a3736c57b7728d63aa0a2cc697af909fdb", func := "milepost/milepostlaw14.WitnessWays", spec := "witnessWays", inPlace := ["math/bits.Add64"], unfollowed := true, recurses := true, apart := false, narrowed := true }
def WitnessWaysUptoSaid : Prop := witnessWaysUptoRow.holds Try.pinned (OpenSpec.upto witnessWaysSpec)

/-- 'milepostlaw14.WitnessMore', WHERE WHAT IT READS IS OF BULK AT MOST 1048576: true; the input reads as it did. -/
def witnessMoreUptoRow : OpenClaim := { program := "ytpnmfhcmodoeiaa", sum := "9ae4acb3134bd01702c5d47c3bfbc1a3736c57b7728d63aa0a2cc697af909fdb", func := "milepost/milepostlaw14.WitnessMore", spec := "witnessMore", inPlace := ["math/bits.Add64"], unfollowed := true, recurses := true, apart := false, narrowed := true }
def WitnessMoreUptoSaid : Prop := witnessMoreUptoRow.holds Try.pinned (OpenSpec.upto witnessMoreSpec)

/-- 'milepostlaw14.WitnessFan', WHERE WHAT IT READS IS OF BULK AT MOST 1048576: true; the input reads as it did. -/
def witnessFanUptoRow : OpenClaim := { program := "ytpnmfhcmodoeiaa", sum := "9ae4acb3134bd01702c5d47c3bfbc1a3736c57b7728d63aa0a2cc697af909fdb", func := "milepost/milepostlaw14.WitnessFan", spec := "witnessFan", inPlace := ["math/bits.Add64"], unfollowed := true, recurses := true, apart := false, narrowed := true }
def WitnessFanUptoSaid : Prop := witnessFanUptoRow.holds Try.pinned (OpenSpec.upto witnessFanSpec)

/-- 'milepostlaw14.WitnessNil', WHERE WHAT IT READS IS OF BULK AT MOST 1048576: true; the input reads as it did. -/
def witnessNilUptoRow : OpenClaim := { program := "ytpnmfhcmodoeiaa", sum := "9ae4acb3134bd01702c5d47c3bfbc1a3736c57b7728d63aa0a2cc697af909fdb", func := "milepost/milepostlaw14.WitnessNil", spec := "witnessNil", inPlace := ["math/bits.Add64"], unfollowed := true, recurses := true, apart := false, narrowed := true }
def WitnessNilUptoSaid : Prop := witnessNilUptoRow.holds Try.pinned (OpenSpec.upto witnessNilSpec)

/-- 'milepostlaw14.WitnessRoads', WHERE WHAT IT READS IS OF BULK AT MOST 1048576: true; the input reads as it did. -/
def witnessRoadsUptoRow : OpenClaim := { program := "ytpnmfhcmodoeiaa", sum := "9ae4acb3134bd01702c5d47c3bfbc1a3736c57b7728d63aa0a2cc697af909fdb", func := "milepost/milepostlaw14.WitnessRoads", spec := "witnessRoads", inPlace := ["math/bits.Add64"], unfollowed := true, recurses := true, apart := false, narrowed := true }
def WitnessRoadsUptoSaid : Prop := witnessRoadsUptoRow.holds Try.pinned (OpenSpec.upto witnessRoadsSpec)

/-- 'milepostlaw14.WitnessSelf', WHERE WHAT IT READS IS OF BULK AT MOST 1048576: true; the input reads as it did. -/
def witnessSelfUptoRow : OpenClaim := { program := "ytpnmfhcmodoeiaa", sum := "9ae4acb3134bd01702c5d47c3bfbc1a3736c57b7728d63aa0a2cc697af909fdb", func := "milepost/milepostlaw14.WitnessSelf", spec := "witnessSelf", inPlace := ["math/bits.Add64"], unfollowed := true, recurses := true, apart := false, narrowed := true }
def WitnessSelfUptoSaid : Prop := witnessSelfUptoRow.holds Try.pinned (OpenSpec.upto witnessSelfSpec)

/-- 'milepostlaw14.WitnessForks', WHERE WHAT IT READS IS OF BULK AT MOST 1048576: true; the input reads as it did. -/
def witnessForksUptoRow : OpenClaim := { program := "ytpnmfhcmodoeiaa", sum := "9ae4acb3134bd01702c5d47c3bfbc1a3736c57b7728d63aa0a2cc697af909fdb", func := "milepost/milepostlaw14.WitnessForks", spec := "witnessForks", inPlace := ["math/bits.Add64"], unfollowed := true, recurses := true, apart := false, narrowed := true }
def WitnessForksUptoSaid : Prop := witnessForksUptoRow.holds Try.pinned (OpenSpec.upto witnessForksSpec)

end Rows
end Go.Proofs.Ytpnmfhcmodoeiaa
