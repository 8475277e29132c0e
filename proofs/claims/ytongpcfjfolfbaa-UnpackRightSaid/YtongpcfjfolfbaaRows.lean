/-
  No cell of these rows narrows 'for every input' (looked for: loops, veiled, ifaces, maps, wideKeys, modest, calm, conditions, laid).
  DERIVED. THE GIVEN ROWS OF THIS SEAT. 9 by the template 'for every input the law returns true; each argument reads behind the call as it read before'; 0 by the template 'total and deterministic' (their statements: YtongpcfjfolfbaaTotals.lean).
  GIVEN WITH THE SEED: the statements are not yours to turn. If you find one false, say at which input.
  Laid BY PROGRAM, IN A SANDBOX (cutbox-rows.mjs): the forced cells as the released guide's own fill.sh prints them over the translation d449fdd86347badc… (all of the seat's roots in one cut). By AI agents, Wed Nov 11 2026. No macro, syntax, notation, axiom, sorry.
-/
import Derived.Test.YtongpcfjfolfbaaChecked
import GoSem.Claim
import GoSem.ClaimJoined
import GoSem.ClaimMapViews
import Derived.JoinedTies
import Derived.KernelRfl
namespace Go.Proofs.Ytongpcfjfolfbaa
/- THE CELL 'sum', in the pinned program and in every row, IS THE sha256 OF THE DUMP (.gsa) THAT YtongpcfjfolfbaaProg.lean LOADS. Nothing in Lean hashes anything: it is a label: what it is worth is what the hold of that sum in a sandbox is worth. -/
noncomputable def Try.pinned : Pinned := { name := "ytongpcfjfolfbaa", sum := "d449fdd86347badcacfb2e1c561ea04661e370b7749535b903adb1270827639f", checked := Try.checked }
namespace Rows
def none {H : Type} : Left H := { results := [], args := [] }

/-- 'milepostlaw22.UnpackWays': WHATEVER THE INPUT: true; the input reads as it did. -/
def unpackWaysSpec : ChangeSpec := { name := "unpackWays", fn := fun _ => fun
  | [d1, d2, d3] => { results := [.lit (.bool true)], args := [d1, d2, d3] }
  | _ => none }
def unpackWaysRow : OpenClaim := { program := "ytongpcfjfolfbaa", sum := "d449fdd86347badcacfb2e1c561ea04661e370b7749535b903adb1270827639f", func := "milepost/milepostlaw22.UnpackWays", spec := "unpackWays", inPlace := ["math/bits.Add64"], unfollowed := true, recurses := true, apart := false }
def UnpackWaysSaid : Prop := unpackWaysRow.holds Try.pinned (OpenSpec.ofChange unpackWaysSpec)

/-- ITS FALSE NEIGHBOUR: 'it returns false'. Refute it at one input. -/
def unpackWaysWrong : ChangeSpec := { name := "unpackWays", fn := fun _ => fun
  | [d1, d2, d3] => { results := [.lit (.bool false)], args := [d1, d2, d3] }
  | _ => none }
def UnpackWaysWrongFalsely : Prop := unpackWaysRow.holds Try.pinned (OpenSpec.ofChange unpackWaysWrong)

/-- 'milepostlaw22.UnpackSums': WHATEVER THE INPUT: true; the input reads as it did. -/
def unpackSumsSpec : ChangeSpec := { name := "unpackSums", fn := fun _ => fun
  | [d] => { results := [.lit (.bool true)], args := [d] }
  | _ => none }
def unpackSumsRow : OpenClaim := { program := "ytongpcfjfolfbaa", sum := "d449fdd86347badcacfb2e1c561ea04661e370b7749535b903adb1270827639f", func := "milepost/milepostlaw22.UnpackSums", spec := "unpackSums", inPlace := ["math/bits.Add64"], unfollowed := true, recurses := true, apart := false }
def UnpackSumsSaid : Prop := unpackSumsRow.holds Try.pinned (OpenSpec.ofChange unpackSumsSpec)

/-- ITS FALSE NEIGHBOUR: 'it returns false'. Refute it at one input. -/
def unpackSumsWrong : ChangeSpec := { name := "unpackSums", fn := fun _ => fun
  | [d] => { results := [.lit (.bool false)], args := [d] }
  | _ => none }
def UnpackSumsWrongFalsely : Prop := unpackSumsRow.holds Try.pinned (OpenSpec.ofChange unpackSumsWrong)

/-- 'milepostlaw22.UnpackRight': WHATEVER THE INPUT: true; the input reads as it did. -/
def unpackRightSpec : ChangeSpec := { name := "unpackRight", fn := fun _ => fun
  | [d1, d2, d3] => { results := [.lit (.bool true)], args := [d1, d2, d3] }
  | _ => none }
def unpackRightRow : OpenClaim := { program := "ytongpcfjfolfbaa", sum := "d449fdd86347badcacfb2e1c561ea04661e370b7749535b903adb1270827639f", func := "milepost/milepostlaw22.UnpackRight", spec := "unpackRight", inPlace := ["math/bits.Add64"], unfollowed := true, recurses := true, apart := false }
def UnpackRightSaid : Prop := unpackRightRow.holds Try.pinned (OpenSpec.ofChange unpackRightSpec)

/-- ITS FALSE NEIGHBOUR: 'it returns false'. Refute it at one input. -/
def unpackRightWrong : ChangeSpec := { name := "unpackRight", fn := fun _ => fun
  | [d1, d2, d3] => { results := [.lit (.bool false)], args := [d1, d2, d3] }
  | _ => none }
def UnpackRightWrongFalsely : Prop := unpackRightRow.holds Try.pinned (OpenSpec.ofChange unpackRightWrong)

/-- 'milepostlaw22.UnpackDeep': WHATEVER THE INPUT: true; the input reads as it did. -/
def unpackDeepSpec : ChangeSpec := { name := "unpackDeep", fn := fun _ => fun
  | [d1, d2, d3] => { results := [.lit (.bool true)], args := [d1, d2, d3] }
  | _ => none }
def unpackDeepRow : OpenClaim := { program := "ytongpcfjfolfbaa", sum := "d449fdd86347badcacfb2e1c561ea04661e370b7749535b903adb1270827639f", func := "milepost/milepostlaw22.UnpackDeep", spec := "unpackDeep", inPlace := ["math/bits.Add64"], unfollowed := true, recurses := true, apart := false }
def UnpackDeepSaid : Prop := unpackDeepRow.holds Try.pinned (OpenSpec.ofChange unpackDeepSpec)

/-- ITS FALSE NEIGHBOUR: 'it returns false'. Refute it at one input. -/
def unpackDeepWrong : ChangeSpec := { name := "unpackDeep", fn := fun _ => fun
  | [d1, d2, d3] => { results := [.lit (.bool false)], args := [d1, d2, d3] }
  | _ => none }
def UnpackDeepWrongFalsely : Prop := unpackDeepRow.holds Try.pinned (OpenSpec.ofChange unpackDeepWrong)

/-- 'milepostlaw22.UnpackFull': WHATEVER THE INPUT: true; the input reads as it did. -/
def unpackFullSpec : ChangeSpec := { name := "unpackFull", fn := fun _ => fun
  | [d1, d2] => { results := [.lit (.bool true)], args := [d1, d2] }
  | _ => none }
def unpackFullRow : OpenClaim := { program := "ytongpcfjfolfbaa", sum := "d449fdd86347badcacfb2e1c561ea04661e370b7749535b903adb1270827639f", func := "milepost/milepostlaw22.UnpackFull", spec := "unpackFull", inPlace := ["math/bits.Add64"], unfollowed := true, recurses := true, apart := false }
def UnpackFullSaid : Prop := unpackFullRow.holds Try.pinned (OpenSpec.ofChange unpackFullSpec)

/-- ITS FALSE NEIGHBOUR: 'it returns false'. Refute it at one input. -/
def unpackFullWrong : ChangeSpec := { name := "unpackFull", fn := fun _ => fun
  | [d1, d2] => { results := [.lit (.bool false)], args := [d1, d2] }
  | _ => none }
def UnpackFullWrongFalsely : Prop := unpackFullRow.holds Try.pinned (OpenSpec.ofChange unpackFullWrong)

/-- 'milepostlaw22.UnpackMany': WHATEVER THE INPUT: true; the input reads as it did. -/
def unpackManySpec : ChangeSpec := { name := "unpackMany", fn := fun _ => fun
  | [d1, d2] => { results := [.lit (.bool true)], args := [d1, d2] }
  | _ => none }
def unpackManyRow : OpenClaim := { program := "ytongpcfjfolfbaa", sum := "d449fdd86347badcacfb2e1c561ea04661e370b7749535b903adb1270827639f", func := "milepost/milepostlaw22.UnpackMany", spec := "unpackMany", inPlace := ["math/bits.Add64"], unfollowed := true, recurses := true, apart := false }
def UnpackManySaid : Prop := unpackManyRow.holds Try.pinned (OpenSpec.ofChange unpackManySpec)

/-- ITS FALSE NEIGHBOUR: 'it returns false'. Refute it at one input. -/
def unpackManyWrong : ChangeSpec := { name := "unpackMany", fn := fun _ => fun
  | [d1, d2] => { results := [.lit (.bool false)], args := [d1, d2] }
  | _ => none }
def UnpackManyWrongFalsely : Prop := unpackManyRow.holds Try.pinned (OpenSpec.ofChange unpackManyWrong)

/-- 'milepostlaw22.UnpackNil': WHATEVER THE INPUT: true; the input reads as it did. -/
def unpackNilSpec : ChangeSpec := { name := "unpackNil", fn := fun _ => fun
  | [d1, d2] => { results := [.lit (.bool true)], args := [d1, d2] }
  | _ => none }
def unpackNilRow : OpenClaim := { program := "ytongpcfjfolfbaa", sum := "d449fdd86347badcacfb2e1c561ea04661e370b7749535b903adb1270827639f", func := "milepost/milepostlaw22.UnpackNil", spec := "unpackNil", inPlace := ["math/bits.Add64"], unfollowed := true, recurses := true, apart := false }
def UnpackNilSaid : Prop := unpackNilRow.holds Try.pinned (OpenSpec.ofChange unpackNilSpec)

/-- ITS FALSE NEIGHBOUR: 'it returns false'. Refute it at one input. -/
def unpackNilWrong : ChangeSpec := { name := "unpackNil", fn := fun _ => fun
  | [d1, d2] => { results := [.lit (.bool false)], args := [d1, d2] }
  | _ => none }
def UnpackNilWrongFalsely : Prop := unpackNilRow.holds Try.pinned (OpenSpec.ofChange unpackNilWrong)

/-- 'milepostlaw22.UnpackJoins': WHATEVER THE INPUT: true; the input reads as it did. -/
def unpackJoinsSpec : ChangeSpec := { name := "unpackJoins", fn := fun _ => fun
  | [d1, d2] => { results := [.lit (.bool true)], args := [d1, d2] }
  | _ => none }
def unpackJoinsRow : OpenClaim := { program := "ytongpcfjfolfbaa", sum := "d449fdd86347badcacfb2e1c561ea04661e370b7749535b903adb1270827639f", func := "milepost/milepostlaw22.UnpackJoins", spec := "unpackJoins", inPlace := ["math/bits.Add64"], unfollowed := true, recurses := true, apart := false }
def UnpackJoinsSaid : Prop := unpackJoinsRow.holds Try.pinned (OpenSpec.ofChange unpackJoinsSpec)

/-- ITS FALSE NEIGHBOUR: 'it returns false'. Refute it at one input. -/
def unpackJoinsWrong : ChangeSpec := { name := "unpackJoins", fn := fun _ => fun
  | [d1, d2] => { results := [.lit (.bool false)], args := [d1, d2] }
  | _ => none }
def UnpackJoinsWrongFalsely : Prop := unpackJoinsRow.holds Try.pinned (OpenSpec.ofChange unpackJoinsWrong)

/-- 'milepostlaw22.UnpackLone': WHATEVER THE INPUT: true; the input reads as it did. -/
def unpackLoneSpec : ChangeSpec := { name := "unpackLone", fn := fun _ => fun
  | [d1, d2, d3] => { results := [.lit (.bool true)], args := [d1, d2, d3] }
  | _ => none }
def unpackLoneRow : OpenClaim := { program := "ytongpcfjfolfbaa", sum := "d449fdd86347badcacfb2e1c561ea04661e370b7749535b903adb1270827639f", func := "milepost/milepostlaw22.UnpackLone", spec := "unpackLone", inPlace := ["math/bits.Add64"], unfollowed := true, recurses := true, apart := false }
def UnpackLoneSaid : Prop := unpackLoneRow.holds Try.pinned (OpenSpec.ofChange unpackLoneSpec)

/-- ITS FALSE NEIGHBOUR: 'it returns false'. Refute it at one input. -/
def unpackLoneWrong : ChangeSpec := { name := "unpackLone", fn := fun _ => fun
  | [d1, d2, d3] => { results := [.lit (.bool false)], args := [d1, d2, d3] }
  | _ => none }
def UnpackLoneWrongFalsely : Prop := unpackLoneRow.holds Try.pinned (OpenSpec.ofChange unpackLoneWrong)

/- THE SECOND FORM. 'bulk': how many values and letters a reading holds, each counted each time it is reached (what is shared counts as often as it is met; a slice's spare places count too). A statement '..UptoSaid' is the law's where the arguments, and the package variables that the reading takes, are together of bulk at most 1048576: NARROWER than '..Said'. Prove '..Said' where nothing that the law and all that it calls make is longer than what came in: it says more and counts as full. Else prove '..UptoSaid'. A law counts once. -/
mutual
def uptoBulk {H : Type} : DataW H → Nat
  | .lit (.string bytes) => bytes.length + 1
  | .lit _ => 1
  | .nil => 1
  | .ptr d => uptoBulk d + 1
  | .slice elems spare => uptoBulkAll elems + uptoBulkAll spare + 1
  | .agg parts => uptoBulkAll parts + 1
  | .iface _ d => uptoBulk d + 1
  | .map entries => uptoBulkEntries entries + 1
  | .held _ => 1
def uptoBulkAll {H : Type} : List (DataW H) → Nat
  | [] => 0
  | d :: r => uptoBulk d + uptoBulkAll r
def uptoBulkEntries {H : Type} : List (Lit × DataW H) → Nat
  | [] => 0
  | x :: r => uptoBulkEntry x + uptoBulkEntries r
def uptoBulkEntry {H : Type} : Lit × DataW H → Nat
  | (.string bytes, d) => bytes.length + uptoBulk d + 1
  | (_, d) => uptoBulk d + 1
 end
def uptoSmall : (H : Type) → List (DataW H) → Bool := fun _ ds => decide (uptoBulkAll ds ≤ 1048576)
def OpenSpec.upto (s : _root_.Go.ChangeSpec) : _root_.Go.OpenSpec := { _root_.Go.OpenSpec.ofChange s with cond := some uptoSmall }

/-- 'milepostlaw22.UnpackWays', WHERE WHAT IT READS IS OF BULK AT MOST 1048576: true; the input reads as it did. -/
def unpackWaysUptoRow : OpenClaim := { program := "ytongpcfjfolfbaa", sum := "d449fdd86347badcacfb2e1c561ea04661e370b7749535b903adb1270827639f", func := "milepost/milepostlaw22.UnpackWays", spec := "unpackWays", inPlace := ["math/bits.Add64"], unfollowed := true, recurses := true, apart := false, narrowed := true }
def UnpackWaysUptoSaid : Prop := unpackWaysUptoRow.holds Try.pinned (OpenSpec.upto unpackWaysSpec)

/-- 'milepostlaw22.UnpackSums', WHERE WHAT IT READS IS OF BULK AT MOST 1048576: true; the input reads as it did. -/
def unpackSumsUptoRow : OpenClaim := { program := "ytongpcfjfolfbaa", sum := "d449fdd86347badcacfb2e1c561ea04661e370b7749535b903adb1270827639f", func := "milepost/milepostlaw22.UnpackSums", spec := "unpackSums", inPlace := ["math/bits.Add64"], unfollowed := true, recurses := true, apart := false, narrowed := true }
def UnpackSumsUptoSaid : Prop := unpackSumsUptoRow.holds Try.pinned (OpenSpec.upto unpackSumsSpec)

/-- 'milepostlaw22.UnpackRight', WHERE WHAT IT READS IS OF BULK AT MOST 1048576: true; the input reads as it did. -/
def unpackRightUptoRow : OpenClaim := { program := "ytongpcfjfolfbaa", sum := "d449fdd86347badcacfb2e1c561ea04661e370b7749535b903adb1270827639f", func := "milepost/milepostlaw22.UnpackRight", spec := "unpackRight", inPlace := ["math/bits.Add64"], unfollowed := true, recurses := true, apart := false, narrowed := true }
def UnpackRightUptoSaid : Prop := unpackRightUptoRow.holds Try.pinned (OpenSpec.upto unpackRightSpec)

/-- 'milepostlaw22.UnpackDeep', WHERE WHAT IT READS IS OF BULK AT MOST 1048576: true; the input reads as it did. -/
def unpackDeepUptoRow : OpenClaim := { program := "ytongpcfjfolfbaa", sum := "d449fdd86347badcacfb2e1c561ea04661e370b7749535b903adb1270827639f", func := "milepost/milepostlaw22.UnpackDeep", spec := "unpackDeep", inPlace := ["math/bits.Add64"], unfollowed := true, recurses := true, apart := false, narrowed := true }
def UnpackDeepUptoSaid : Prop := unpackDeepUptoRow.holds Try.pinned (OpenSpec.upto unpackDeepSpec)

/-- 'milepostlaw22.UnpackFull', WHERE WHAT IT READS IS OF BULK AT MOST 1048576: true; the input reads as it did. -/
def unpackFullUptoRow : OpenClaim := { program := "ytongpcfjfolfbaa", sum := "d449fdd86347badcacfb2e1c561ea04661e370b7749535b903adb1270827639f", func := "milepost/milepostlaw22.UnpackFull", spec := "unpackFull", inPlace := ["math/bits.Add64"], unfollowed := true, recurses := true, apart := false, narrowed := true }
def UnpackFullUptoSaid : Prop := unpackFullUptoRow.holds Try.pinned (OpenSpec.upto unpackFullSpec)

/-- 'milepostlaw22.UnpackMany', WHERE WHAT IT READS IS OF BULK AT MOST 1048576: true; the input reads as it did. -/
def unpackManyUptoRow : OpenClaim := { program := "ytongpcfjfolfbaa", sum := "d449fdd86347badcacfb2e1c561ea04661e370b7749535b903adb1270827639f", func := "milepost/milepostlaw22.UnpackMany", spec := "unpackMany", inPlace := ["math/bits.Add64"], unfollowed := true, recurses := true, apart := false, narrowed := true }
def UnpackManyUptoSaid : Prop := unpackManyUptoRow.holds Try.pinned (OpenSpec.upto unpackManySpec)

/-- 'milepostlaw22.UnpackNil', WHERE WHAT IT READS IS OF BULK AT MOST 1048576: true; the input reads as it did. -/
def unpackNilUptoRow : OpenClaim := { program := "ytongpcfjfolfbaa", sum := "d449fdd86347badcacfb2e1c561ea04661e370b7749535b903adb1270827639f", func := "milepost/milepostlaw22.UnpackNil", spec := "unpackNil", inPlace := ["math/bits.Add64"], unfollowed := true, recurses := true, apart := false, narrowed := true }
def UnpackNilUptoSaid : Prop := unpackNilUptoRow.holds Try.pinned (OpenSpec.upto unpackNilSpec)

/-- 'milepostlaw22.UnpackJoins', WHERE WHAT IT READS IS OF BULK AT MOST 1048576: true; the input reads as it did. -/
def unpackJoinsUptoRow : OpenClaim := { program := "ytongpcfjfolfbaa", sum := "d449fdd86347badcacfb2e1c561ea04661e370b7749535b903adb1270827639f", func := "milepost/milepostlaw22.UnpackJoins", spec := "unpackJoins", inPlace := ["math/bits.Add64"], unfollowed := true, recurses := true, apart := false, narrowed := true }
def UnpackJoinsUptoSaid : Prop := unpackJoinsUptoRow.holds Try.pinned (OpenSpec.upto unpackJoinsSpec)

/-- 'milepostlaw22.UnpackLone', WHERE WHAT IT READS IS OF BULK AT MOST 1048576: true; the input reads as it did. -/
def unpackLoneUptoRow : OpenClaim := { program := "ytongpcfjfolfbaa", sum := "d449fdd86347badcacfb2e1c561ea04661e370b7749535b903adb1270827639f", func := "milepost/milepostlaw22.UnpackLone", spec := "unpackLone", inPlace := ["math/bits.Add64"], unfollowed := true, recurses := true, apart := false, narrowed := true }
def UnpackLoneUptoSaid : Prop := unpackLoneUptoRow.holds Try.pinned (OpenSpec.upto unpackLoneSpec)

end Rows
end Go.Proofs.Ytongpcfjfolfbaa
