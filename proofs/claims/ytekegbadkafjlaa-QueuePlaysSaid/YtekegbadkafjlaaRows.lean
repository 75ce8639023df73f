/-
  No cell of these rows narrows 'for every input' (looked for: loops, veiled, ifaces, maps, wideKeys, modest, calm, conditions, laid).
  DERIVED. THE GIVEN ROWS OF THIS SEAT. 8 by the template 'for every input the law returns true; each argument reads behind the call as it read before'; 0 by the template 'total and deterministic' (their statements: YtekegbadkafjlaaTotals.lean).
  GIVEN WITH THE SEED: the statements are not yours to turn. If you find one false, say at which input.
  Laid BY PROGRAM, IN A SANDBOX (cutbox-rows.mjs): the forced cells as the released guide's own fill.sh prints them over the translation 5626aa86ea39e733… (all of the seat's roots in one cut). By AI agents, Wed Nov 11 2026. No macro, syntax, notation, axiom, sorry.
-/
import Derived.Test.YtekegbadkafjlaaChecked
import GoSem.Claim
import GoSem.ClaimJoined
import GoSem.ClaimMapViews
import Derived.JoinedTies
import Derived.KernelRfl
namespace Go.Proofs.Ytekegbadkafjlaa
/- THE CELL 'sum', in the pinned program and in every row, IS THE sha256 OF THE DUMP (.gsa) THAT YtekegbadkafjlaaProg.lean LOADS. Nothing in Lean hashes anything: it is a label: what it is worth is what the hold of that sum in a sandbox is worth. -/
noncomputable def Try.pinned : Pinned := { name := "ytekegbadkafjlaa", sum := "5626aa86ea39e73398085d0a67c2aeb0e11dba8456511ed1962a84091e2847a9", checked := Try.checked }
namespace Rows
def none {H : Type} : Left H := { results := [], args := [] }

/-- 'braidworklaw11.DrawCoefs': WHATEVER THE INPUT: true; the input reads as it did. -/
def drawCoefsSpec : ChangeSpec := { name := "drawCoefs", fn := fun _ => fun
  | [d1, d2, d3] => { results := [.lit (.bool true)], args := [d1, d2, d3] }
  | _ => none }
def drawCoefsRow : OpenClaim := { program := "ytekegbadkafjlaa", sum := "5626aa86ea39e73398085d0a67c2aeb0e11dba8456511ed1962a84091e2847a9", func := "braidwork/braidworklaw11.DrawCoefs", spec := "drawCoefs", unfollowed := true, recurses := true, apart := false }
def DrawCoefsSaid : Prop := drawCoefsRow.holds Try.pinned (OpenSpec.ofChange drawCoefsSpec)

/-- ITS FALSE NEIGHBOUR: 'it returns false'. Refute it at one input. -/
def drawCoefsWrong : ChangeSpec := { name := "drawCoefs", fn := fun _ => fun
  | [d1, d2, d3] => { results := [.lit (.bool false)], args := [d1, d2, d3] }
  | _ => none }
def DrawCoefsWrongFalsely : Prop := drawCoefsRow.holds Try.pinned (OpenSpec.ofChange drawCoefsWrong)

/-- 'braidworklaw11.DrawTurns': WHATEVER THE INPUT: true; the input reads as it did. -/
def drawTurnsSpec : ChangeSpec := { name := "drawTurns", fn := fun _ => fun
  | [d1, d2, d3] => { results := [.lit (.bool true)], args := [d1, d2, d3] }
  | _ => none }
def drawTurnsRow : OpenClaim := { program := "ytekegbadkafjlaa", sum := "5626aa86ea39e73398085d0a67c2aeb0e11dba8456511ed1962a84091e2847a9", func := "braidwork/braidworklaw11.DrawTurns", spec := "drawTurns", unfollowed := true, recurses := true, apart := false }
def DrawTurnsSaid : Prop := drawTurnsRow.holds Try.pinned (OpenSpec.ofChange drawTurnsSpec)

/-- ITS FALSE NEIGHBOUR: 'it returns false'. Refute it at one input. -/
def drawTurnsWrong : ChangeSpec := { name := "drawTurns", fn := fun _ => fun
  | [d1, d2, d3] => { results := [.lit (.bool false)], args := [d1, d2, d3] }
  | _ => none }
def DrawTurnsWrongFalsely : Prop := drawTurnsRow.holds Try.pinned (OpenSpec.ofChange drawTurnsWrong)

/-- 'braidworklaw11.DrawKnown': WHATEVER THE INPUT: true; the input reads as it did. -/
def drawKnownSpec : ChangeSpec := { name := "drawKnown", fn := fun _ => fun
  | [] => { results := [.lit (.bool true)], args := [] }
  | _ => none }
def drawKnownRow : OpenClaim := { program := "ytekegbadkafjlaa", sum := "5626aa86ea39e73398085d0a67c2aeb0e11dba8456511ed1962a84091e2847a9", func := "braidwork/braidworklaw11.DrawKnown", spec := "drawKnown", unfollowed := true, recurses := true, apart := false }
def DrawKnownSaid : Prop := drawKnownRow.holds Try.pinned (OpenSpec.ofChange drawKnownSpec)

/-- ITS FALSE NEIGHBOUR: 'it returns false'. Refute it at one input. -/
def drawKnownWrong : ChangeSpec := { name := "drawKnown", fn := fun _ => fun
  | [] => { results := [.lit (.bool false)], args := [] }
  | _ => none }
def DrawKnownWrongFalsely : Prop := drawKnownRow.holds Try.pinned (OpenSpec.ofChange drawKnownWrong)

/-- 'braidworklaw11.DrawUnits': WHATEVER THE INPUT: true; the input reads as it did. -/
def drawUnitsSpec : ChangeSpec := { name := "drawUnits", fn := fun _ => fun
  | [d1, d2] => { results := [.lit (.bool true)], args := [d1, d2] }
  | _ => none }
def drawUnitsRow : OpenClaim := { program := "ytekegbadkafjlaa", sum := "5626aa86ea39e73398085d0a67c2aeb0e11dba8456511ed1962a84091e2847a9", func := "braidwork/braidworklaw11.DrawUnits", spec := "drawUnits", unfollowed := true, recurses := true, apart := false }
def DrawUnitsSaid : Prop := drawUnitsRow.holds Try.pinned (OpenSpec.ofChange drawUnitsSpec)

/-- ITS FALSE NEIGHBOUR: 'it returns false'. Refute it at one input. -/
def drawUnitsWrong : ChangeSpec := { name := "drawUnits", fn := fun _ => fun
  | [d1, d2] => { results := [.lit (.bool false)], args := [d1, d2] }
  | _ => none }
def DrawUnitsWrongFalsely : Prop := drawUnitsRow.holds Try.pinned (OpenSpec.ofChange drawUnitsWrong)

/-- 'braidworklaw05.QueueOrder': WHATEVER THE INPUT: true; the input reads as it did. -/
def queueOrderSpec : ChangeSpec := { name := "queueOrder", fn := fun _ => fun
  | [d1, d2, d3] => { results := [.lit (.bool true)], args := [d1, d2, d3] }
  | _ => none }
def queueOrderRow : OpenClaim := { program := "ytekegbadkafjlaa", sum := "5626aa86ea39e73398085d0a67c2aeb0e11dba8456511ed1962a84091e2847a9", func := "braidwork/braidworklaw05.QueueOrder", spec := "queueOrder", apart := false }
def QueueOrderSaid : Prop := queueOrderRow.holds Try.pinned (OpenSpec.ofChange queueOrderSpec)

/-- ITS FALSE NEIGHBOUR: 'it returns false'. Refute it at one input. -/
def queueOrderWrong : ChangeSpec := { name := "queueOrder", fn := fun _ => fun
  | [d1, d2, d3] => { results := [.lit (.bool false)], args := [d1, d2, d3] }
  | _ => none }
def QueueOrderWrongFalsely : Prop := queueOrderRow.holds Try.pinned (OpenSpec.ofChange queueOrderWrong)

/-- 'braidworklaw05.QueueKnown': WHATEVER THE INPUT: true; the input reads as it did. -/
def queueKnownSpec : ChangeSpec := { name := "queueKnown", fn := fun _ => fun
  | [] => { results := [.lit (.bool true)], args := [] }
  | _ => none }
def queueKnownRow : OpenClaim := { program := "ytekegbadkafjlaa", sum := "5626aa86ea39e73398085d0a67c2aeb0e11dba8456511ed1962a84091e2847a9", func := "braidwork/braidworklaw05.QueueKnown", spec := "queueKnown", apart := false }
def QueueKnownSaid : Prop := queueKnownRow.holds Try.pinned (OpenSpec.ofChange queueKnownSpec)

/-- ITS FALSE NEIGHBOUR: 'it returns false'. Refute it at one input. -/
def queueKnownWrong : ChangeSpec := { name := "queueKnown", fn := fun _ => fun
  | [] => { results := [.lit (.bool false)], args := [] }
  | _ => none }
def QueueKnownWrongFalsely : Prop := queueKnownRow.holds Try.pinned (OpenSpec.ofChange queueKnownWrong)

/-- 'braidworklaw05.QueuePlays': WHATEVER THE INPUT: true; the input reads as it did. -/
def queuePlaysSpec : ChangeSpec := { name := "queuePlays", fn := fun _ => fun
  | [d1, d2] => { results := [.lit (.bool true)], args := [d1, d2] }
  | _ => none }
def queuePlaysRow : OpenClaim := { program := "ytekegbadkafjlaa", sum := "5626aa86ea39e73398085d0a67c2aeb0e11dba8456511ed1962a84091e2847a9", func := "braidwork/braidworklaw05.QueuePlays", spec := "queuePlays", apart := false }
def QueuePlaysSaid : Prop := queuePlaysRow.holds Try.pinned (OpenSpec.ofChange queuePlaysSpec)

/-- ITS FALSE NEIGHBOUR: 'it returns false'. Refute it at one input. -/
def queuePlaysWrong : ChangeSpec := { name := "queuePlays", fn := fun _ => fun
  | [d1, d2] => { results := [.lit (.bool false)], args := [d1, d2] }
  | _ => none }
def QueuePlaysWrongFalsely : Prop := queuePlaysRow.holds Try.pinned (OpenSpec.ofChange queuePlaysWrong)

/-- 'braidworklaw05.QueueTwo': WHATEVER THE INPUT: true; the input reads as it did. -/
def queueTwoSpec : ChangeSpec := { name := "queueTwo", fn := fun _ => fun
  | [d1, d2, d3] => { results := [.lit (.bool true)], args := [d1, d2, d3] }
  | _ => none }
def queueTwoRow : OpenClaim := { program := "ytekegbadkafjlaa", sum := "5626aa86ea39e73398085d0a67c2aeb0e11dba8456511ed1962a84091e2847a9", func := "braidwork/braidworklaw05.QueueTwo", spec := "queueTwo", apart := false }
def QueueTwoSaid : Prop := queueTwoRow.holds Try.pinned (OpenSpec.ofChange queueTwoSpec)

/-- ITS FALSE NEIGHBOUR: 'it returns false'. Refute it at one input. -/
def queueTwoWrong : ChangeSpec := { name := "queueTwo", fn := fun _ => fun
  | [d1, d2, d3] => { results := [.lit (.bool false)], args := [d1, d2, d3] }
  | _ => none }
def QueueTwoWrongFalsely : Prop := queueTwoRow.holds Try.pinned (OpenSpec.ofChange queueTwoWrong)

/- THE SECOND FORM. 'bulk': how many values and letters a reading holds, each counted each time it is reached (what is shared counts as often as it is met; a slice's spare places count too). A statement '..UptoSaid' is the law's where the arguments, and the package variables that the reading takes, are together of bulk at most 1048576: NARROWER than '..Said'. Prove '..Said' where nothing that the law and all that it calls make is longer than what came in: it says more and counts as full. Else prove '..UptoSaid'. A law counts once. -/
mutual
def uptoBulk {H : Type} : DataW H → Nat
  | .lit (.string bytes) => bytes.length + 1
  | .lit _ => 1
  | .nil => 1
  | .ptr d => uptoBulk d + 1
  | .slice elems spare => uptoBulkAll elems + uptoBulkAll spare + 1
  | .agg parts => uptoBulkAll parts + 1
  | .iface _ d => uptoBulk d + 1
  | .map entries => uptoBulkEntries entries + 1
  | .held _ => 1
def uptoBulkAll {H : Type} : List (DataW H) → Nat
  | [] => 0
  | d :: r => uptoBulk d + uptoBulkAll r
def uptoBulkEntries {H : Type} : List (Lit × DataW H) → Nat
  | [] => 0
  | x :: r => uptoBulkEntry x + uptoBulkEntries r
def uptoBulkEntry {H : Type} : Lit × DataW H → Nat
  | (.string bytes, d) => bytes.length + uptoBulk d + 1
  | (_, d) => uptoBulk d + 1
 end
def uptoSmall : (H : Type) → List (DataW H) → Bool := fun _ ds => decide (uptoBulkAll ds ≤ 1048576)
def OpenSpec.upto (s : _root_.Go.ChangeSpec) : _root_.Go.OpenSpec := { _root_.Go.OpenSpec.ofChange s with cond := some uptoSmall }

/-- 'braidworklaw11.DrawCoefs', WHERE WHAT IT READS IS OF BULK AT MOST 1048576: true; the input reads as it did. -/
def drawCoefsUptoRow : OpenClaim := { program := "ytekegbadkafjlaa", sum := "5626aa86ea39e73398085d0a67c2aeb0e11dba8456511ed1962a84091e2847a9", func := "braidwork/braidworklaw11.DrawCoefs", spec := "drawCoefs", unfollowed := true, recurses := true, apart := false, narrowed := true }
def DrawCoefsUptoSaid : Prop := drawCoefsUptoRow.holds Try.pinned (OpenSpec.upto drawCoefsSpec)

/-- 'braidworklaw11.DrawTurns', WHERE WHAT IT READS IS OF BULK AT MOST 1048576: true; the input reads as it did. -/
def drawTurnsUptoRow : OpenClaim := { program := "ytekegbadkafjlaa", sum := "5626aa86ea39e73398085d0a67c2aeb0e11dba8456511ed1962a84091e2847a9", func := "braidwork/braidworklaw11.DrawTurns", spec := "drawTurns", unfollowed := true, recurses := true, apart := false, narrowed := true }
def DrawTurnsUptoSaid : Prop := drawTurnsUptoRow.holds Try.pinned (OpenSpec.upto drawTurnsSpec)

/-- 'braidworklaw11.DrawKnown', WHERE WHAT IT READS IS OF BULK AT MOST 1048576: true; the input reads as it did. -/
def drawKnownUptoRow : OpenClaim := { program := "ytekegbadkafjlaa", sum := "5626aa86ea39e73398085d0a67c2aeb0e11dba8456511ed1962a84091e2847a9", func := "braidwork/braidworklaw11.DrawKnown", spec := "drawKnown", unfollowed := true, recurses := true, apart := false, narrowed := true }
def DrawKnownUptoSaid : Prop := drawKnownUptoRow.holds Try.pinned (OpenSpec.upto drawKnownSpec)

/-- 'braidworklaw11.DrawUnits', WHERE WHAT IT READS IS OF BULK AT MOST 1048576: true; the input reads as it did. -/
def drawUnitsUptoRow : OpenClaim := { program := "ytekegbadkafjlaa", sum := "5626aa86ea39e73398085d0a67c2aeb0e11dba8456511ed1962a84091e2847a9", func := "braidwork/braidworklaw11.DrawUnits", spec := "drawUnits", unfollowed := true, recurses := true, apart := false, narrowed := true }
def DrawUnitsUptoSaid : Prop := drawUnitsUptoRow.holds Try.pinned (OpenSpec.upto drawUnitsSpec)

/-- 'braidworklaw05.QueueOrder', WHERE WHAT IT READS IS OF BULK AT MOST 1048576: true; the input reads as it did. -/
def queueOrderUptoRow : OpenClaim := { program := "ytekegbadkafjlaa", sum := "5626aa86ea39e73398085d0a67c2aeb0e11dba8456511ed1962a84091e2847a9", func := "braidwork/braidworklaw05.QueueOrder", spec := "queueOrder", apart := false, narrowed := true }
def QueueOrderUptoSaid : Prop := queueOrderUptoRow.holds Try.pinned (OpenSpec.upto queueOrderSpec)

/-- 'braidworklaw05.QueueKnown', WHERE WHAT IT READS IS OF BULK AT MOST 1048576: true; the input reads as it did. -/
def queueKnownUptoRow : OpenClaim := { program := "ytekegbadkafjlaa", sum := "5626aa86ea39e73398085d0a67c2aeb0e11dba8456511ed1962a84091e2847a9", func := "braidwork/braidworklaw05.QueueKnown", spec := "queueKnown", apart := false, narrowed := true }
def QueueKnownUptoSaid : Prop := queueKnownUptoRow.holds Try.pinned (OpenSpec.upto queueKnownSpec)

/-- 'braidworklaw05.QueuePlays', WHERE WHAT IT READS IS OF BULK AT MOST 1048576: true; the input reads as it did. -/
def queuePlaysUptoRow : OpenClaim := { program := "ytekegbadkafjlaa", sum := "5626aa86ea39e73398085d0a67c2aeb0e11dba8456511ed1962a84091e2847a9", func := "braidwork/braidworklaw05.QueuePlays", spec := "queuePlays", apart := false, narrowed := true }
def QueuePlaysUptoSaid : Prop := queuePlaysUptoRow.holds Try.pinned (OpenSpec.upto queuePlaysSpec)

/-- 'braidworklaw05.QueueTwo', WHERE WHAT IT READS IS OF BULK AT MOST 1048576: true; the input reads as it did. -/
def queueTwoUptoRow : OpenClaim := { program := "ytekegbadkafjlaa", sum := "5626aa86ea39e73398085d0a67c2aeb0e11dba8456511ed1962a84091e2847a9", func := "braidwork/braidworklaw05.QueueTwo", spec := "queueTwo", apart := false, narrowed := true }
def QueueTwoUptoSaid : Prop := queueTwoUptoRow.holds Try.pinned (OpenSpec.upto queueTwoSpec)

end Rows
end Go.Proofs.Ytekegbadkafjlaa
