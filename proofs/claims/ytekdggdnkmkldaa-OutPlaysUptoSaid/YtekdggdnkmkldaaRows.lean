/-
  No cell of these rows narrows 'for every input' (looked for: loops, veiled, ifaces, maps, wideKeys, modest, calm, conditions, laid).
  DERIVED. THE GIVEN ROWS OF THIS SEAT. 5 by the template 'for every input the law returns true; each argument reads behind the call as it read before'; 0 by the template 'total and deterministic' (their statements: YtekdggdnkmkldaaTotals.lean).
  GIVEN WITH THE SEED: the statements are not yours to turn. If you find one false, say at which input.
  Laid BY PROGRAM, IN A SANDBOX (cutbox-rows.mjs): the forced cells as the released guide's own fill.sh prints them over the translation 3a7197776a0b003c… (all of the seat's roots in one cut). By AI agents, Wed Nov 11 2026. No macro, syntax, notation, axiom, sorry.
-/
import Derived.Test.YtekdggdnkmkldaaChecked
import GoSem.Claim
import GoSem.ClaimJoined
import GoSem.ClaimMapViews
import Derived.JoinedTies
import Derived.KernelRfl
namespace Go.Proofs.Ytekdggdnkmkldaa
/- THE CELL 'sum', in the pinned program and in every row, IS THE sha256 OF THE DUMP (.gsa) THAT YtekdggdnkmkldaaProg.lean LOADS. Nothing in Lean hashes anything: it is a label: what it is worth is what the hold of that sum in a sandbox is worth. -/
noncomputable def Try.pinned : Pinned := { name := "ytekdggdnkmkldaa", sum := "3a7197776a0b003c71e1546f143f6770fded502fbf2478cef11bb8c9536616d4", checked := Try.checked }
namespace Rows
def none {H : Type} : Left H := { results := [], args := [] }

/-- 'braidworklaw22.LinkKnown': WHATEVER THE INPUT: true; the input reads as it did. -/
def linkKnownSpec : ChangeSpec := { name := "linkKnown", fn := fun _ => fun
  | [] => { results := [.lit (.bool true)], args := [] }
  | _ => none }
def linkKnownRow : OpenClaim := { program := "ytekdggdnkmkldaa", sum := "3a7197776a0b003c71e1546f143f6770fded502fbf2478cef11bb8c9536616d4", func := "braidwork/braidworklaw22.LinkKnown", spec := "linkKnown", unfollowed := true, recurses := true, plainKeys := false, apart := false }
def LinkKnownSaid : Prop := linkKnownRow.holds Try.pinned (OpenSpec.ofChange linkKnownSpec)

/-- ITS FALSE NEIGHBOUR: 'it returns false'. Refute it at one input. -/
def linkKnownWrong : ChangeSpec := { name := "linkKnown", fn := fun _ => fun
  | [] => { results := [.lit (.bool false)], args := [] }
  | _ => none }
def LinkKnownWrongFalsely : Prop := linkKnownRow.holds Try.pinned (OpenSpec.ofChange linkKnownWrong)

/-- 'braidworklaw22.LinkRound': WHATEVER THE INPUT: true; the input reads as it did. -/
def linkRoundSpec : ChangeSpec := { name := "linkRound", fn := fun _ => fun
  | [d] => { results := [.lit (.bool true)], args := [d] }
  | _ => none }
def linkRoundRow : OpenClaim := { program := "ytekdggdnkmkldaa", sum := "3a7197776a0b003c71e1546f143f6770fded502fbf2478cef11bb8c9536616d4", func := "braidwork/braidworklaw22.LinkRound", spec := "linkRound", unfollowed := true, recurses := true, plainKeys := false, apart := false }
def LinkRoundSaid : Prop := linkRoundRow.holds Try.pinned (OpenSpec.ofChange linkRoundSpec)

/-- ITS FALSE NEIGHBOUR: 'it returns false'. Refute it at one input. -/
def linkRoundWrong : ChangeSpec := { name := "linkRound", fn := fun _ => fun
  | [d] => { results := [.lit (.bool false)], args := [d] }
  | _ => none }
def LinkRoundWrongFalsely : Prop := linkRoundRow.holds Try.pinned (OpenSpec.ofChange linkRoundWrong)

/-- 'braidworklaw22.OutPlays': WHATEVER THE INPUT: true; the input reads as it did. -/
def outPlaysSpec : ChangeSpec := { name := "outPlays", fn := fun _ => fun
  | [d1, d2, d3] => { results := [.lit (.bool true)], args := [d1, d2, d3] }
  | _ => none }
def outPlaysRow : OpenClaim := { program := "ytekdggdnkmkldaa", sum := "3a7197776a0b003c71e1546f143f6770fded502fbf2478cef11bb8c9536616d4", func := "braidwork/braidworklaw22.OutPlays", spec := "outPlays", unfollowed := true, recurses := true, plainKeys := false, apart := false }
def OutPlaysSaid : Prop := outPlaysRow.holds Try.pinned (OpenSpec.ofChange outPlaysSpec)

/-- ITS FALSE NEIGHBOUR: 'it returns false'. Refute it at one input. -/
def outPlaysWrong : ChangeSpec := { name := "outPlays", fn := fun _ => fun
  | [d1, d2, d3] => { results := [.lit (.bool false)], args := [d1, d2, d3] }
  | _ => none }
def OutPlaysWrongFalsely : Prop := outPlaysRow.holds Try.pinned (OpenSpec.ofChange outPlaysWrong)

/-- 'braidworklaw22.InGrants': WHATEVER THE INPUT: true; the input reads as it did. -/
def inGrantsSpec : ChangeSpec := { name := "inGrants", fn := fun _ => fun
  | [d1, d2] => { results := [.lit (.bool true)], args := [d1, d2] }
  | _ => none }
def inGrantsRow : OpenClaim := { program := "ytekdggdnkmkldaa", sum := "3a7197776a0b003c71e1546f143f6770fded502fbf2478cef11bb8c9536616d4", func := "braidwork/braidworklaw22.InGrants", spec := "inGrants", unfollowed := true, recurses := true, plainKeys := false, apart := false }
def InGrantsSaid : Prop := inGrantsRow.holds Try.pinned (OpenSpec.ofChange inGrantsSpec)

/-- ITS FALSE NEIGHBOUR: 'it returns false'. Refute it at one input. -/
def inGrantsWrong : ChangeSpec := { name := "inGrants", fn := fun _ => fun
  | [d1, d2] => { results := [.lit (.bool false)], args := [d1, d2] }
  | _ => none }
def InGrantsWrongFalsely : Prop := inGrantsRow.holds Try.pinned (OpenSpec.ofChange inGrantsWrong)

/-- 'braidworklaw22.LinkBounds': WHATEVER THE INPUT: true; the input reads as it did. -/
def linkBoundsSpec : ChangeSpec := { name := "linkBounds", fn := fun _ => fun
  | [d1, d2] => { results := [.lit (.bool true)], args := [d1, d2] }
  | _ => none }
def linkBoundsRow : OpenClaim := { program := "ytekdggdnkmkldaa", sum := "3a7197776a0b003c71e1546f143f6770fded502fbf2478cef11bb8c9536616d4", func := "braidwork/braidworklaw22.LinkBounds", spec := "linkBounds", unfollowed := true, recurses := true, plainKeys := false, apart := false }
def LinkBoundsSaid : Prop := linkBoundsRow.holds Try.pinned (OpenSpec.ofChange linkBoundsSpec)

/-- ITS FALSE NEIGHBOUR: 'it returns false'. Refute it at one input. -/
def linkBoundsWrong : ChangeSpec := { name := "linkBounds", fn := fun _ => fun
  | [d1, d2] => { results := [.lit (.bool false)], args := [d1, d2] }
  | _ => none }
def LinkBoundsWrongFalsely : Prop := linkBoundsRow.holds Try.pinned (OpenSpec.ofChange linkBoundsWrong)

/- THE SECOND FORM. 'bulk': how many values and letters a reading holds, each counted each time it is reached (what is shared counts as often as it is met; a slice's spare places count too). A statement '..UptoSaid' is the law's where the arguments, and the package variables that the reading takes, are together of bulk at most 1048576: NARROWER than '..Said'. Prove '..Said' where nothing that the law and all that it calls make is longer than what came in: it says more and counts as full. Else prove '..UptoSaid'. A law counts once. -/
mutual
def uptoBulk {H : Type} : DataW H → Nat
  | .lit (.string bytes) => bytes.length + 1
  | .lit _ => 1
  | .nil => 1
  | .ptr d => uptoBulk d + 1
  | .slice elems spare => uptoBulkAll elems + uptoBulkAll spare + 1
  | .agg parts => uptoBulkAll parts + 1
  | .iface _ d => uptoBulk d + 1
  | .map entries => uptoBulkEntries entries + 1
  | .held _ => 1
def uptoBulkAll {H : Type} : List (DataW H) → Nat
  | [] => 0
  | d :: r => uptoBulk d + uptoBulkAll r
def uptoBulkEntries {H : Type} : List (Lit × DataW H) → Nat
  | [] => 0
  | x :: r => uptoBulkEntry x + uptoBulkEntries r
def uptoBulkEntry {H : Type} : Lit × DataW H → Nat
  | (.string bytes, d) => bytes.length + uptoBulk d + 1
  | (_, d) => uptoBulk d + 1
 end
def uptoSmall : (H : Type) → List (DataW H) → Bool := fun _ ds => decide (uptoBulkAll ds ≤ 1048576)
def OpenSpec.upto (s : _root_.Go.ChangeSpec) : _root_.Go.OpenSpec := { _root_.Go.OpenSpec.ofChange s with cond := some uptoSmall }

/-- 'braidworklaw22.LinkKnown', WHERE WHAT IT READS IS OF BULK AT MOST 1048576: true; the input reads as it did. -/
def linkKnownUptoRow : OpenClaim := { program := "ytekdggdnkmkldaa", sum := "3a7197776a0b003c71e1546f143f6770fded502fbf2478cef11bb8c9536616d4", func := "braidwork/braidworklaw22.LinkKnown", spec := "linkKnown", unfollowed := true, recurses := true, plainKeys := false, apart := false, narrowed := true }
def LinkKnownUptoSaid : Prop := linkKnownUptoRow.holds Try.pinned (OpenSpec.upto linkKnownSpec)

/-- 'braidworklaw22.LinkRound', WHERE WHAT IT READS IS OF BULK AT MOST 1048576: true; the input reads as it did. -/
def linkRoundUptoRow : OpenClaim := { program := "ytekdggdnkmkldaa", sum := "3a7197776a0b003c71e1546f143f6770fded502fbf2478cef11bb8c9536616d4", func := "braidwork/braidworklaw22.LinkRound", spec := "linkRound", unfollowed := true, recurses := true, plainKeys := false, apart := false, narrowed := true }
def LinkRoundUptoSaid : Prop := linkRoundUptoRow.holds Try.pinned (OpenSpec.upto linkRoundSpec)

/-- 'braidworklaw22.OutPlays', WHERE WHAT IT READS IS OF BULK AT MOST 1048576: true; the input reads as it did. -/
def outPlaysUptoRow : OpenClaim := { program := "ytekdggdnkmkldaa", sum := "3a7197776a0b003c71e1546f143f6770fded502fbf2478cef11bb8c9536616d4", func := "braidwork/braidworklaw22.OutPlays", spec := "outPlays", unfollowed := true, recurses := true, plainKeys := false, apart := false, narrowed := true }
def OutPlaysUptoSaid : Prop := outPlaysUptoRow.holds Try.pinned (OpenSpec.upto outPlaysSpec)

/-- 'braidworklaw22.InGrants', WHERE WHAT IT READS IS OF BULK AT MOST 1048576: true; the input reads as it did. -/
def inGrantsUptoRow : OpenClaim := { program := "ytekdggdnkmkldaa", sum := "3a7197776a0b003c71e1546f143f6770fded502fbf2478cef11bb8c9536616d4", func := "braidwork/braidworklaw22.InGrants", spec := "inGrants", unfollowed := true, recurses := true, plainKeys := false, apart := false, narrowed := true }
def InGrantsUptoSaid : Prop := inGrantsUptoRow.holds Try.pinned (OpenSpec.upto inGrantsSpec)

/-- 'braidworklaw22.LinkBounds', WHERE WHAT IT READS IS OF BULK AT MOST 1048576: true; the input reads as it did. -/
def linkBoundsUptoRow : OpenClaim := { program := "ytekdggdnkmkldaa", sum := "3a7197776a0b003c71e1546f143f6770fded502fbf2478cef11bb8c9536616d4", func := "braidwork/braidworklaw22.LinkBounds", spec := "linkBounds", unfollowed := true, recurses := true, plainKeys := false, apart := false, narrowed := true }
def LinkBoundsUptoSaid : Prop := linkBoundsUptoRow.holds Try.pinned (OpenSpec.upto linkBoundsSpec)

end Rows
end Go.Proofs.Ytekdggdnkmkldaa
