/-
  No cell of these rows narrows 'for every input' (looked for: loops, veiled, ifaces, maps, wideKeys, modest, calm, conditions, laid).
  DERIVED. THE GIVEN ROWS OF THIS SEAT. 6 by the template 'for every input the law returns true; each argument reads behind the call as it read before'; 0 by the template 'total and deterministic' (their statements: YtajepjfohdlgdaaTotals.lean).
  GIVEN WITH THE SEED: the statements are not yours to turn. If you find one false, say at which input.
  Laid BY PROGRAM, IN A SANDBOX (cutbox-rows.mjs): the forced cells as the released guide's own fill.sh prints them over the translation 9cc05a046b83a284… (all of the seat's roots in one cut). By AI agents, Wed Nov 11 2026. No macro, syntax, notation, axiom, sorry.
-/
import Derived.Test.YtajepjfohdlgdaaChecked
import GoSem.Claim
import GoSem.ClaimJoined
import GoSem.ClaimMapViews
import Derived.JoinedTies
import Derived.KernelRfl
namespace Go.Proofs.Ytajepjfohdlgdaa
/- THE CELL 'sum', in the pinned program and in every row, IS THE sha256 OF THE DUMP (.gsa) THAT YtajepjfohdlgdaaProg.lean LOADS. Nothing in Lean hashes anything: it is a label: what it is worth is what the hold of that sum in a sandbox is worth. -/
noncomputable def Try.pinned : Pinned := { name := "ytajepjfohdlgdaa", sum := "9cc05a046b83a28408e457490b7e143d213e642668ad64e8d9003a3cf90fd64a", checked := Try.checked }
namespace Rows
def none {H : Type} : Left H := { results := [], args := [] }

/-- 'milepostlaw21.MeetMeets': WHATEVER THE INPUT: true; the input reads as it did. -/
def meetMeetsSpec : ChangeSpec := { name := "meetMeets", fn := fun _ => fun
  | [d1, d2] => { results := [.lit (.bool true)], args := [d1, d2] }
  | _ => none }
def meetMeetsRow : OpenClaim := { program := "ytajepjfohdlgdaa", sum := "9cc05a046b83a28408e457490b7e143d213e642668ad64e8d9003a3cf90fd64a", func := "milepost/milepostlaw21.MeetMeets", spec := "meetMeets", inPlace := ["math/bits.Add64"], unfollowed := true, recurses := true, apart := false }
def MeetMeetsSaid : Prop := meetMeetsRow.holds Try.pinned (OpenSpec.ofChange meetMeetsSpec)

/-- ITS FALSE NEIGHBOUR: 'it returns false'. Refute it at one input. -/
def meetMeetsWrong : ChangeSpec := { name := "meetMeets", fn := fun _ => fun
  | [d1, d2] => { results := [.lit (.bool false)], args := [d1, d2] }
  | _ => none }
def MeetMeetsWrongFalsely : Prop := meetMeetsRow.holds Try.pinned (OpenSpec.ofChange meetMeetsWrong)

/-- 'milepostlaw21.MeetLeast': WHATEVER THE INPUT: true; the input reads as it did. -/
def meetLeastSpec : ChangeSpec := { name := "meetLeast", fn := fun _ => fun
  | [d1, d2] => { results := [.lit (.bool true)], args := [d1, d2] }
  | _ => none }
def meetLeastRow : OpenClaim := { program := "ytajepjfohdlgdaa", sum := "9cc05a046b83a28408e457490b7e143d213e642668ad64e8d9003a3cf90fd64a", func := "milepost/milepostlaw21.MeetLeast", spec := "meetLeast", inPlace := ["math/bits.Add64"], unfollowed := true, recurses := true, apart := false }
def MeetLeastSaid : Prop := meetLeastRow.holds Try.pinned (OpenSpec.ofChange meetLeastSpec)

/-- ITS FALSE NEIGHBOUR: 'it returns false'. Refute it at one input. -/
def meetLeastWrong : ChangeSpec := { name := "meetLeast", fn := fun _ => fun
  | [d1, d2] => { results := [.lit (.bool false)], args := [d1, d2] }
  | _ => none }
def MeetLeastWrongFalsely : Prop := meetLeastRow.holds Try.pinned (OpenSpec.ofChange meetLeastWrong)

/-- 'milepostlaw21.MeetMore': WHATEVER THE INPUT: true; the input reads as it did. -/
def meetMoreSpec : ChangeSpec := { name := "meetMore", fn := fun _ => fun
  | [d] => { results := [.lit (.bool true)], args := [d] }
  | _ => none }
def meetMoreRow : OpenClaim := { program := "ytajepjfohdlgdaa", sum := "9cc05a046b83a28408e457490b7e143d213e642668ad64e8d9003a3cf90fd64a", func := "milepost/milepostlaw21.MeetMore", spec := "meetMore", inPlace := ["math/bits.Add64"], unfollowed := true, recurses := true, apart := false }
def MeetMoreSaid : Prop := meetMoreRow.holds Try.pinned (OpenSpec.ofChange meetMoreSpec)

/-- ITS FALSE NEIGHBOUR: 'it returns false'. Refute it at one input. -/
def meetMoreWrong : ChangeSpec := { name := "meetMore", fn := fun _ => fun
  | [d] => { results := [.lit (.bool false)], args := [d] }
  | _ => none }
def MeetMoreWrongFalsely : Prop := meetMoreRow.holds Try.pinned (OpenSpec.ofChange meetMoreWrong)

/-- 'milepostlaw21.MeetOne': WHATEVER THE INPUT: true; the input reads as it did. -/
def meetOneSpec : ChangeSpec := { name := "meetOne", fn := fun _ => fun
  | [d1, d2] => { results := [.lit (.bool true)], args := [d1, d2] }
  | _ => none }
def meetOneRow : OpenClaim := { program := "ytajepjfohdlgdaa", sum := "9cc05a046b83a28408e457490b7e143d213e642668ad64e8d9003a3cf90fd64a", func := "milepost/milepostlaw21.MeetOne", spec := "meetOne", inPlace := ["math/bits.Add64"], unfollowed := true, recurses := true, apart := false }
def MeetOneSaid : Prop := meetOneRow.holds Try.pinned (OpenSpec.ofChange meetOneSpec)

/-- ITS FALSE NEIGHBOUR: 'it returns false'. Refute it at one input. -/
def meetOneWrong : ChangeSpec := { name := "meetOne", fn := fun _ => fun
  | [d1, d2] => { results := [.lit (.bool false)], args := [d1, d2] }
  | _ => none }
def MeetOneWrongFalsely : Prop := meetOneRow.holds Try.pinned (OpenSpec.ofChange meetOneWrong)

/-- 'milepostlaw21.MeetWrong': WHATEVER THE INPUT: true; the input reads as it did. -/
def meetWrongSpec : ChangeSpec := { name := "meetWrong", fn := fun _ => fun
  | [d1, d2, d3] => { results := [.lit (.bool true)], args := [d1, d2, d3] }
  | _ => none }
def meetWrongRow : OpenClaim := { program := "ytajepjfohdlgdaa", sum := "9cc05a046b83a28408e457490b7e143d213e642668ad64e8d9003a3cf90fd64a", func := "milepost/milepostlaw21.MeetWrong", spec := "meetWrong", inPlace := ["math/bits.Add64"], unfollowed := true, recurses := true, apart := false }
def MeetWrongSaid : Prop := meetWrongRow.holds Try.pinned (OpenSpec.ofChange meetWrongSpec)

/-- ITS FALSE NEIGHBOUR: 'it returns false'. Refute it at one input. -/
def meetWrongWrong : ChangeSpec := { name := "meetWrong", fn := fun _ => fun
  | [d1, d2, d3] => { results := [.lit (.bool false)], args := [d1, d2, d3] }
  | _ => none }
def MeetWrongWrongFalsely : Prop := meetWrongRow.holds Try.pinned (OpenSpec.ofChange meetWrongWrong)

/-- 'milepostlaw21.MeetSelf': WHATEVER THE INPUT: true; the input reads as it did. -/
def meetSelfSpec : ChangeSpec := { name := "meetSelf", fn := fun _ => fun
  | [d] => { results := [.lit (.bool true)], args := [d] }
  | _ => none }
def meetSelfRow : OpenClaim := { program := "ytajepjfohdlgdaa", sum := "9cc05a046b83a28408e457490b7e143d213e642668ad64e8d9003a3cf90fd64a", func := "milepost/milepostlaw21.MeetSelf", spec := "meetSelf", inPlace := ["math/bits.Add64"], unfollowed := true, recurses := true, apart := false }
def MeetSelfSaid : Prop := meetSelfRow.holds Try.pinned (OpenSpec.ofChange meetSelfSpec)

/-- ITS FALSE NEIGHBOUR: 'it returns false'. Refute it at one input. -/
def meetSelfWrong : ChangeSpec := { name := "meetSelf", fn := fun _ => fun
  | [d] => { results := [.lit (.bool false)], args := [d] }
  | _ => none }
def MeetSelfWrongFalsely : Prop := meetSelfRow.holds Try.pinned (OpenSpec.ofChange meetSelfWrong)

/- THE SECOND FORM. 'bulk': how many values and letters a reading holds, each counted each time it is reached (what is shared counts as often as it is met; a slice's spare places count too). A statement '..UptoSaid' is the law's where the arguments, and the package variables that the reading takes, are together of bulk at most 1048576: NARROWER than '..Said'. Prove '..Said' where nothing that the law and all that it calls make is longer than what came in: it says more and counts as full. Else prove '..UptoSaid'. A law counts once. -/
mutual
def uptoBulk {H : Type} : DataW H → Nat
  | .lit (.string bytes) => bytes.length + 1
  | .lit _ => 1
  | .nil => 1
  | .ptr d => uptoBulk d + 1
  | .slice elems spare => uptoBulkAll elems + uptoBulkAll spare + 1
  | .agg parts => uptoBulkAll parts + 1
  | .iface _ d => uptoBulk d + 1
  | .map entries => uptoBulkEntries entries + 1
  | .held _ => 1
def uptoBulkAll {H : Type} : List (DataW H) → Nat
  | [] => 0
  | d :: r => uptoBulk d + uptoBulkAll r
def uptoBulkEntries {H : Type} : List (Lit × DataW H) → Nat
  | [] => 0
  | x :: r => uptoBulkEntry x + uptoBulkEntries r
def uptoBulkEntry {H : Type} : Lit × DataW H → Nat
  | (.string bytes, d) => bytes.length + uptoBulk d + 1
  | (_, d) => uptoBulk d + 1
 end
def uptoSmall : (H : Type) → List (DataW H) → Bool := fun _ ds => decide (uptoBulkAll ds ≤ 1048576)
def OpenSpec.upto (s : _root_.Go.ChangeSpec) : _root_.Go.OpenSpec := { _root_.Go.OpenSpec.ofChange s with cond := some uptoSmall }

/-- 'milepostlaw21.MeetMeets', WHERE WHAT IT READS IS OF BULK AT MOST 1048576: true; the input reads as it did. -/
def meetMeetsUptoRow : OpenClaim := { program := "ytajepjfohdlgdaa", sum := "9cc05a046b83a28408e457490b7e143d213e642668ad64e8d9003a3cf90fd64a", func := "milepost/milepostlaw21.MeetMeets", spec := "meetMeets", inPlace := ["math/bits.Add64"], unfollowed := true, recurses := true, apart := false, narrowed := true }
def MeetMeetsUptoSaid : Prop := meetMeetsUptoRow.holds Try.pinned (OpenSpec.upto meetMeetsSpec)

/-- 'milepostlaw21.MeetLeast', WHERE WHAT IT READS IS OF BULK AT MOST 1048576: true; the input reads as it did. -/
def meetLeastUptoRow : OpenClaim := { program := "ytajepjfohdlgdaa", sum := "9cc05a046b83a28408e457490b7e143d213e642668ad64e8d9003a3cf90fd64a", func := "milepost/milepostlaw21.MeetLeast", spec := "meetLeast", inPlace := ["math/bits.Add64"], unfollowed := true, recurses := true, apart := false, narrowed := true }
def MeetLeastUptoSaid : Prop := meetLeastUptoRow.holds Try.pinned (OpenSpec.upto meetLeastSpec)

/-- 'milepostlaw21.MeetMore', WHERE WHAT IT READS IS OF BULK AT MOST 1048576: true; the input reads as it did. -/
def meetMoreUptoRow : OpenClaim := { program := "ytajepjfohdlgdaa", sum := "9cc05a046b83a28408e457490b7e143d213e642668ad64e8d9003a3cf90fd64a", func := "milepost/milepostlaw21.MeetMore", spec := "meetMore", inPlace := ["math/bits.Add64"], unfollowed := true, recurses := true, apart := false, narrowed := true }
def MeetMoreUptoSaid : Prop := meetMoreUptoRow.holds Try.pinned (OpenSpec.upto meetMoreSpec)

/-- 'milepostlaw21.MeetOne', WHERE WHAT IT READS IS OF BULK AT MOST 1048576: true; the input reads as it did. -/
def meetOneUptoRow : OpenClaim := { program := "ytajepjfohdlgdaa", sum := "9cc05a046b83a28408e457490b7e143d213e642668ad64e8d9003a3cf90fd64a", func := "milepost/milepostlaw21.MeetOne", spec := "meetOne", inPlace := ["math/bits.Add64"], unfollowed := true, recurses := true, apart := false, narrowed := true }
def MeetOneUptoSaid : Prop := meetOneUptoRow.holds Try.pinned (OpenSpec.upto meetOneSpec)

/-- 'milepostlaw21.MeetWrong', WHERE WHAT IT READS IS OF BULK AT MOST 1048576: true; the input reads as it did. -/
def meetWrongUptoRow : OpenClaim := { program := "ytajepjfohdlgdaa", sum := "9cc05a046b83a28408e457490b7e143d213e642668ad64e8d9003a3cf90fd64a", func := "milepost/milepostlaw21.MeetWrong", spec := "meetWrong", inPlace := ["math/bits.Add64"], unfollowed := true, recurses := true, apart := false, narrowed := true }
def MeetWrongUptoSaid : Prop := meetWrongUptoRow.holds Try.pinned (OpenSpec.upto meetWrongSpec)

/-- 'milepostlaw21.MeetSelf', WHERE WHAT IT READS IS OF BULK AT MOST 1048576: true; the input reads as it did. -/
def meetSelfUptoRow : OpenClaim := { program := "ytajepjfohdlgdaa", sum := "9cc05a046b83a28408e457490b7e143d213e642668ad64e8d9003a3cf90fd64a", func := "milepost/milepostlaw21.MeetSelf", spec := "meetSelf", inPlace := ["math/bits.Add64"], unfollowed := true, recurses := true, apart := false, narrowed := true }
def MeetSelfUptoSaid : Prop := meetSelfUptoRow.holds Try.pinned (OpenSpec.upto meetSelfSpec)

end Rows
end Go.Proofs.Ytajepjfohdlgdaa
