/-
  No cell of these rows narrows 'for every input' (looked for: loops, veiled, ifaces, maps, wideKeys, modest, calm, conditions, laid).
  DERIVED. THE GIVEN ROWS OF THIS SEAT. 19 by the template 'for every input the law returns true; each argument reads behind the call as it read before'; 0 by the template 'total and deterministic' (their statements: YthfddcgfmpicmaaTotals.lean).
  GIVEN WITH THE SEED: the statements are not yours to turn. If you find one false, say at which input.
  Laid BY PROGRAM, IN A SANDBOX (cutbox-rows.mjs): the forced cells as the released guide's own fill.sh prints them over the translation 4975f94ab1749890… (all of the seat's roots in one cut). By AI agents, Wed Nov 11 2026. No macro, syntax, notation, axiom, sorry.
-/
import Derived.Test.YthfddcgfmpicmaaChecked
import GoSem.Claim
import GoSem.ClaimJoined
import GoSem.ClaimMapViews
import Derived.JoinedTies
import Derived.KernelRfl
namespace Go.Proofs.Ythfddcgfmpicmaa
/- THE CELL 'sum', in the pinned program and in every row, IS THE sha256 OF THE DUMP (.gsa) THAT YthfddcgfmpicmaaProg.lean LOADS. Nothing in Lean hashes anything: it is a label: what it is worth is what the hold of that sum in a sandbox is worth. -/
noncomputable def Try.pinned : Pinned := { name := "ythfddcgfmpicmaa", sum := "4975f94ab174989027354dbb98628eeeb03c337e2805fc63c554b2e94f9036a7", checked := Try.checked }
namespace Rows
def none {H : Type} : Left H := { results := [], args := [] }

/-- 'braidworklaw18.RanksWants': WHATEVER THE INPUT: true; the input reads as it did. -/
def ranksWantsSpec : ChangeSpec := { name := "ranksWants", fn := fun _ => fun
  | [d1, d2, d3, d4, d5, d6] => { results := [.lit (.bool true)], args := [d1, d2, d3, d4, d5, d6] }
  | _ => none }
def ranksWantsRow : OpenClaim := { program := "ythfddcgfmpicmaa", sum := "4975f94ab174989027354dbb98628eeeb03c337e2805fc63c554b2e94f9036a7", func := "braidwork/braidworklaw18.RanksWants", spec := "ranksWants", unfollowed := true, recurses := true, plainKeys := false, apart := false }
def RanksWantsSaid : Prop := ranksWantsRow.holds Try.pinned (OpenSpec.ofChange ranksWantsSpec)

/-- ITS FALSE NEIGHBOUR: 'it returns false'. Refute it at one input. -/
def ranksWantsWrong : ChangeSpec := { name := "ranksWants", fn := fun _ => fun
  | [d1, d2, d3, d4, d5, d6] => { results := [.lit (.bool false)], args := [d1, d2, d3, d4, d5, d6] }
  | _ => none }
def RanksWantsWrongFalsely : Prop := ranksWantsRow.holds Try.pinned (OpenSpec.ofChange ranksWantsWrong)

/-- 'braidworklaw22.LinkKnown': WHATEVER THE INPUT: true; the input reads as it did. -/
def linkKnownSpec : ChangeSpec := { name := "linkKnown", fn := fun _ => fun
  | [] => { results := [.lit (.bool true)], args := [] }
  | _ => none }
def linkKnownRow : OpenClaim := { program := "ythfddcgfmpicmaa", sum := "4975f94ab174989027354dbb98628eeeb03c337e2805fc63c554b2e94f9036a7", func := "braidwork/braidworklaw22.LinkKnown", spec := "linkKnown", unfollowed := true, recurses := true, plainKeys := false, apart := false }
def LinkKnownSaid : Prop := linkKnownRow.holds Try.pinned (OpenSpec.ofChange linkKnownSpec)

/-- ITS FALSE NEIGHBOUR: 'it returns false'. Refute it at one input. -/
def linkKnownWrong : ChangeSpec := { name := "linkKnown", fn := fun _ => fun
  | [] => { results := [.lit (.bool false)], args := [] }
  | _ => none }
def LinkKnownWrongFalsely : Prop := linkKnownRow.holds Try.pinned (OpenSpec.ofChange linkKnownWrong)

/-- 'braidworklaw18.RanksPlays': WHATEVER THE INPUT: true; the input reads as it did. -/
def ranksPlaysSpec : ChangeSpec := { name := "ranksPlays", fn := fun _ => fun
  | [d1, d2, d3, d4] => { results := [.lit (.bool true)], args := [d1, d2, d3, d4] }
  | _ => none }
def ranksPlaysRow : OpenClaim := { program := "ythfddcgfmpicmaa", sum := "4975f94ab174989027354dbb98628eeeb03c337e2805fc63c554b2e94f9036a7", func := "braidwork/braidworklaw18.RanksPlays", spec := "ranksPlays", unfollowed := true, recurses := true, plainKeys := false, apart := false }
def RanksPlaysSaid : Prop := ranksPlaysRow.holds Try.pinned (OpenSpec.ofChange ranksPlaysSpec)

/-- ITS FALSE NEIGHBOUR: 'it returns false'. Refute it at one input. -/
def ranksPlaysWrong : ChangeSpec := { name := "ranksPlays", fn := fun _ => fun
  | [d1, d2, d3, d4] => { results := [.lit (.bool false)], args := [d1, d2, d3, d4] }
  | _ => none }
def RanksPlaysWrongFalsely : Prop := ranksPlaysRow.holds Try.pinned (OpenSpec.ofChange ranksPlaysWrong)

/-- 'braidworklaw18.RanksLatest': WHATEVER THE INPUT: true; the input reads as it did. -/
def ranksLatestSpec : ChangeSpec := { name := "ranksLatest", fn := fun _ => fun
  | [d1, d2] => { results := [.lit (.bool true)], args := [d1, d2] }
  | _ => none }
def ranksLatestRow : OpenClaim := { program := "ythfddcgfmpicmaa", sum := "4975f94ab174989027354dbb98628eeeb03c337e2805fc63c554b2e94f9036a7", func := "braidwork/braidworklaw18.RanksLatest", spec := "ranksLatest", unfollowed := true, recurses := true, plainKeys := false, apart := false }
def RanksLatestSaid : Prop := ranksLatestRow.holds Try.pinned (OpenSpec.ofChange ranksLatestSpec)

/-- ITS FALSE NEIGHBOUR: 'it returns false'. Refute it at one input. -/
def ranksLatestWrong : ChangeSpec := { name := "ranksLatest", fn := fun _ => fun
  | [d1, d2] => { results := [.lit (.bool false)], args := [d1, d2] }
  | _ => none }
def RanksLatestWrongFalsely : Prop := ranksLatestRow.holds Try.pinned (OpenSpec.ofChange ranksLatestWrong)

/-- 'braidworklaw18.RanksKnown': WHATEVER THE INPUT: true; the input reads as it did. -/
def ranksKnownSpec : ChangeSpec := { name := "ranksKnown", fn := fun _ => fun
  | [] => { results := [.lit (.bool true)], args := [] }
  | _ => none }
def ranksKnownRow : OpenClaim := { program := "ythfddcgfmpicmaa", sum := "4975f94ab174989027354dbb98628eeeb03c337e2805fc63c554b2e94f9036a7", func := "braidwork/braidworklaw18.RanksKnown", spec := "ranksKnown", unfollowed := true, recurses := true, plainKeys := false, apart := false }
def RanksKnownSaid : Prop := ranksKnownRow.holds Try.pinned (OpenSpec.ofChange ranksKnownSpec)

/-- ITS FALSE NEIGHBOUR: 'it returns false'. Refute it at one input. -/
def ranksKnownWrong : ChangeSpec := { name := "ranksKnown", fn := fun _ => fun
  | [] => { results := [.lit (.bool false)], args := [] }
  | _ => none }
def RanksKnownWrongFalsely : Prop := ranksKnownRow.holds Try.pinned (OpenSpec.ofChange ranksKnownWrong)

/-- 'braidworklaw16.CreditPlays': WHATEVER THE INPUT: true; the input reads as it did. -/
def creditPlaysSpec : ChangeSpec := { name := "creditPlays", fn := fun _ => fun
  | [d1, d2, d3] => { results := [.lit (.bool true)], args := [d1, d2, d3] }
  | _ => none }
def creditPlaysRow : OpenClaim := { program := "ythfddcgfmpicmaa", sum := "4975f94ab174989027354dbb98628eeeb03c337e2805fc63c554b2e94f9036a7", func := "braidwork/braidworklaw16.CreditPlays", spec := "creditPlays", unfollowed := true, recurses := true, plainKeys := false, apart := false }
def CreditPlaysSaid : Prop := creditPlaysRow.holds Try.pinned (OpenSpec.ofChange creditPlaysSpec)

/-- ITS FALSE NEIGHBOUR: 'it returns false'. Refute it at one input. -/
def creditPlaysWrong : ChangeSpec := { name := "creditPlays", fn := fun _ => fun
  | [d1, d2, d3] => { results := [.lit (.bool false)], args := [d1, d2, d3] }
  | _ => none }
def CreditPlaysWrongFalsely : Prop := creditPlaysRow.holds Try.pinned (OpenSpec.ofChange creditPlaysWrong)

/-- 'braidworklaw16.CreditNever': WHATEVER THE INPUT: true; the input reads as it did. -/
def creditNeverSpec : ChangeSpec := { name := "creditNever", fn := fun _ => fun
  | [d] => { results := [.lit (.bool true)], args := [d] }
  | _ => none }
def creditNeverRow : OpenClaim := { program := "ythfddcgfmpicmaa", sum := "4975f94ab174989027354dbb98628eeeb03c337e2805fc63c554b2e94f9036a7", func := "braidwork/braidworklaw16.CreditNever", spec := "creditNever", unfollowed := true, recurses := true, plainKeys := false, apart := false }
def CreditNeverSaid : Prop := creditNeverRow.holds Try.pinned (OpenSpec.ofChange creditNeverSpec)

/-- ITS FALSE NEIGHBOUR: 'it returns false'. Refute it at one input. -/
def creditNeverWrong : ChangeSpec := { name := "creditNever", fn := fun _ => fun
  | [d] => { results := [.lit (.bool false)], args := [d] }
  | _ => none }
def CreditNeverWrongFalsely : Prop := creditNeverRow.holds Try.pinned (OpenSpec.ofChange creditNeverWrong)

/-- 'braidworklaw16.CreditGoes': WHATEVER THE INPUT: true; the input reads as it did. -/
def creditGoesSpec : ChangeSpec := { name := "creditGoes", fn := fun _ => fun
  | [d1, d2, d3, d4, d5, d6] => { results := [.lit (.bool true)], args := [d1, d2, d3, d4, d5, d6] }
  | _ => none }
def creditGoesRow : OpenClaim := { program := "ythfddcgfmpicmaa", sum := "4975f94ab174989027354dbb98628eeeb03c337e2805fc63c554b2e94f9036a7", func := "braidwork/braidworklaw16.CreditGoes", spec := "creditGoes", unfollowed := true, recurses := true, plainKeys := false, apart := false }
def CreditGoesSaid : Prop := creditGoesRow.holds Try.pinned (OpenSpec.ofChange creditGoesSpec)

/-- ITS FALSE NEIGHBOUR: 'it returns false'. Refute it at one input. -/
def creditGoesWrong : ChangeSpec := { name := "creditGoes", fn := fun _ => fun
  | [d1, d2, d3, d4, d5, d6] => { results := [.lit (.bool false)], args := [d1, d2, d3, d4, d5, d6] }
  | _ => none }
def CreditGoesWrongFalsely : Prop := creditGoesRow.holds Try.pinned (OpenSpec.ofChange creditGoesWrong)

/-- 'braidworklaw16.CreditRises': WHATEVER THE INPUT: true; the input reads as it did. -/
def creditRisesSpec : ChangeSpec := { name := "creditRises", fn := fun _ => fun
  | [d] => { results := [.lit (.bool true)], args := [d] }
  | _ => none }
def creditRisesRow : OpenClaim := { program := "ythfddcgfmpicmaa", sum := "4975f94ab174989027354dbb98628eeeb03c337e2805fc63c554b2e94f9036a7", func := "braidwork/braidworklaw16.CreditRises", spec := "creditRises", unfollowed := true, recurses := true, plainKeys := false, apart := false }
def CreditRisesSaid : Prop := creditRisesRow.holds Try.pinned (OpenSpec.ofChange creditRisesSpec)

/-- ITS FALSE NEIGHBOUR: 'it returns false'. Refute it at one input. -/
def creditRisesWrong : ChangeSpec := { name := "creditRises", fn := fun _ => fun
  | [d] => { results := [.lit (.bool false)], args := [d] }
  | _ => none }
def CreditRisesWrongFalsely : Prop := creditRisesRow.holds Try.pinned (OpenSpec.ofChange creditRisesWrong)

/-- 'braidworklaw16.CreditWindow': WHATEVER THE INPUT: true; the input reads as it did. -/
def creditWindowSpec : ChangeSpec := { name := "creditWindow", fn := fun _ => fun
  | [d1, d2] => { results := [.lit (.bool true)], args := [d1, d2] }
  | _ => none }
def creditWindowRow : OpenClaim := { program := "ythfddcgfmpicmaa", sum := "4975f94ab174989027354dbb98628eeeb03c337e2805fc63c554b2e94f9036a7", func := "braidwork/braidworklaw16.CreditWindow", spec := "creditWindow", unfollowed := true, recurses := true, plainKeys := false, apart := false }
def CreditWindowSaid : Prop := creditWindowRow.holds Try.pinned (OpenSpec.ofChange creditWindowSpec)

/-- ITS FALSE NEIGHBOUR: 'it returns false'. Refute it at one input. -/
def creditWindowWrong : ChangeSpec := { name := "creditWindow", fn := fun _ => fun
  | [d1, d2] => { results := [.lit (.bool false)], args := [d1, d2] }
  | _ => none }
def CreditWindowWrongFalsely : Prop := creditWindowRow.holds Try.pinned (OpenSpec.ofChange creditWindowWrong)

/-- 'braidworklaw16.CreditKnown': WHATEVER THE INPUT: true; the input reads as it did. -/
def creditKnownSpec : ChangeSpec := { name := "creditKnown", fn := fun _ => fun
  | [] => { results := [.lit (.bool true)], args := [] }
  | _ => none }
def creditKnownRow : OpenClaim := { program := "ythfddcgfmpicmaa", sum := "4975f94ab174989027354dbb98628eeeb03c337e2805fc63c554b2e94f9036a7", func := "braidwork/braidworklaw16.CreditKnown", spec := "creditKnown", unfollowed := true, recurses := true, plainKeys := false, apart := false }
def CreditKnownSaid : Prop := creditKnownRow.holds Try.pinned (OpenSpec.ofChange creditKnownSpec)

/-- ITS FALSE NEIGHBOUR: 'it returns false'. Refute it at one input. -/
def creditKnownWrong : ChangeSpec := { name := "creditKnown", fn := fun _ => fun
  | [] => { results := [.lit (.bool false)], args := [] }
  | _ => none }
def CreditKnownWrongFalsely : Prop := creditKnownRow.holds Try.pinned (OpenSpec.ofChange creditKnownWrong)

/-- 'braidworklaw21.SchedTurns': WHATEVER THE INPUT: true; the input reads as it did. -/
def schedTurnsSpec : ChangeSpec := { name := "schedTurns", fn := fun _ => fun
  | [d1, d2, d3] => { results := [.lit (.bool true)], args := [d1, d2, d3] }
  | _ => none }
def schedTurnsRow : OpenClaim := { program := "ythfddcgfmpicmaa", sum := "4975f94ab174989027354dbb98628eeeb03c337e2805fc63c554b2e94f9036a7", func := "braidwork/braidworklaw21.SchedTurns", spec := "schedTurns", unfollowed := true, recurses := true, plainKeys := false, apart := false }
def SchedTurnsSaid : Prop := schedTurnsRow.holds Try.pinned (OpenSpec.ofChange schedTurnsSpec)

/-- ITS FALSE NEIGHBOUR: 'it returns false'. Refute it at one input. -/
def schedTurnsWrong : ChangeSpec := { name := "schedTurns", fn := fun _ => fun
  | [d1, d2, d3] => { results := [.lit (.bool false)], args := [d1, d2, d3] }
  | _ => none }
def SchedTurnsWrongFalsely : Prop := schedTurnsRow.holds Try.pinned (OpenSpec.ofChange schedTurnsWrong)

/-- 'braidworklaw21.SchedFair': WHATEVER THE INPUT: true; the input reads as it did. -/
def schedFairSpec : ChangeSpec := { name := "schedFair", fn := fun _ => fun
  | [d1, d2, d3, d4, d5] => { results := [.lit (.bool true)], args := [d1, d2, d3, d4, d5] }
  | _ => none }
def schedFairRow : OpenClaim := { program := "ythfddcgfmpicmaa", sum := "4975f94ab174989027354dbb98628eeeb03c337e2805fc63c554b2e94f9036a7", func := "braidwork/braidworklaw21.SchedFair", spec := "schedFair", unfollowed := true, recurses := true, plainKeys := false, apart := false }
def SchedFairSaid : Prop := schedFairRow.holds Try.pinned (OpenSpec.ofChange schedFairSpec)

/-- ITS FALSE NEIGHBOUR: 'it returns false'. Refute it at one input. -/
def schedFairWrong : ChangeSpec := { name := "schedFair", fn := fun _ => fun
  | [d1, d2, d3, d4, d5] => { results := [.lit (.bool false)], args := [d1, d2, d3, d4, d5] }
  | _ => none }
def SchedFairWrongFalsely : Prop := schedFairRow.holds Try.pinned (OpenSpec.ofChange schedFairWrong)

/-- 'braidworklaw21.SchedOrder': WHATEVER THE INPUT: true; the input reads as it did. -/
def schedOrderSpec : ChangeSpec := { name := "schedOrder", fn := fun _ => fun
  | [d1, d2, d3] => { results := [.lit (.bool true)], args := [d1, d2, d3] }
  | _ => none }
def schedOrderRow : OpenClaim := { program := "ythfddcgfmpicmaa", sum := "4975f94ab174989027354dbb98628eeeb03c337e2805fc63c554b2e94f9036a7", func := "braidwork/braidworklaw21.SchedOrder", spec := "schedOrder", unfollowed := true, recurses := true, plainKeys := false, apart := false }
def SchedOrderSaid : Prop := schedOrderRow.holds Try.pinned (OpenSpec.ofChange schedOrderSpec)

/-- ITS FALSE NEIGHBOUR: 'it returns false'. Refute it at one input. -/
def schedOrderWrong : ChangeSpec := { name := "schedOrder", fn := fun _ => fun
  | [d1, d2, d3] => { results := [.lit (.bool false)], args := [d1, d2, d3] }
  | _ => none }
def SchedOrderWrongFalsely : Prop := schedOrderRow.holds Try.pinned (OpenSpec.ofChange schedOrderWrong)

/-- 'braidworklaw21.SchedKnown': WHATEVER THE INPUT: true; the input reads as it did. -/
def schedKnownSpec : ChangeSpec := { name := "schedKnown", fn := fun _ => fun
  | [] => { results := [.lit (.bool true)], args := [] }
  | _ => none }
def schedKnownRow : OpenClaim := { program := "ythfddcgfmpicmaa", sum := "4975f94ab174989027354dbb98628eeeb03c337e2805fc63c554b2e94f9036a7", func := "braidwork/braidworklaw21.SchedKnown", spec := "schedKnown", unfollowed := true, recurses := true, plainKeys := false, apart := false }
def SchedKnownSaid : Prop := schedKnownRow.holds Try.pinned (OpenSpec.ofChange schedKnownSpec)

/-- ITS FALSE NEIGHBOUR: 'it returns false'. Refute it at one input. -/
def schedKnownWrong : ChangeSpec := { name := "schedKnown", fn := fun _ => fun
  | [] => { results := [.lit (.bool false)], args := [] }
  | _ => none }
def SchedKnownWrongFalsely : Prop := schedKnownRow.holds Try.pinned (OpenSpec.ofChange schedKnownWrong)

/-- 'braidworklaw22.LinkRound': WHATEVER THE INPUT: true; the input reads as it did. -/
def linkRoundSpec : ChangeSpec := { name := "linkRound", fn := fun _ => fun
  | [d] => { results := [.lit (.bool true)], args := [d] }
  | _ => none }
def linkRoundRow : OpenClaim := { program := "ythfddcgfmpicmaa", sum := "4975f94ab174989027354dbb98628eeeb03c337e2805fc63c554b2e94f9036a7", func := "braidwork/braidworklaw22.LinkRound", spec := "linkRound", unfollowed := true, recurses := true, plainKeys := false, apart := false }
def LinkRoundSaid : Prop := linkRoundRow.holds Try.pinned (OpenSpec.ofChange linkRoundSpec)

/-- ITS FALSE NEIGHBOUR: 'it returns false'. Refute it at one input. -/
def linkRoundWrong : ChangeSpec := { name := "linkRound", fn := fun _ => fun
  | [d] => { results := [.lit (.bool false)], args := [d] }
  | _ => none }
def LinkRoundWrongFalsely : Prop := linkRoundRow.holds Try.pinned (OpenSpec.ofChange linkRoundWrong)

/-- 'braidworklaw22.OutPlays': WHATEVER THE INPUT: true; the input reads as it did. -/
def outPlaysSpec : ChangeSpec := { name := "outPlays", fn := fun _ => fun
  | [d1, d2, d3] => { results := [.lit (.bool true)], args := [d1, d2, d3] }
  | _ => none }
def outPlaysRow : OpenClaim := { program := "ythfddcgfmpicmaa", sum := "4975f94ab174989027354dbb98628eeeb03c337e2805fc63c554b2e94f9036a7", func := "braidwork/braidworklaw22.OutPlays", spec := "outPlays", unfollowed := true, recurses := true, plainKeys := false, apart := false }
def OutPlaysSaid : Prop := outPlaysRow.holds Try.pinned (OpenSpec.ofChange outPlaysSpec)

/-- ITS FALSE NEIGHBOUR: 'it returns false'. Refute it at one input. -/
def outPlaysWrong : ChangeSpec := { name := "outPlays", fn := fun _ => fun
  | [d1, d2, d3] => { results := [.lit (.bool false)], args := [d1, d2, d3] }
  | _ => none }
def OutPlaysWrongFalsely : Prop := outPlaysRow.holds Try.pinned (OpenSpec.ofChange outPlaysWrong)

/-- 'braidworklaw22.InGrants': WHATEVER THE INPUT: true; the input reads as it did. -/
def inGrantsSpec : ChangeSpec := { name := "inGrants", fn := fun _ => fun
  | [d1, d2] => { results := [.lit (.bool true)], args := [d1, d2] }
  | _ => none }
def inGrantsRow : OpenClaim := { program := "ythfddcgfmpicmaa", sum := "4975f94ab174989027354dbb98628eeeb03c337e2805fc63c554b2e94f9036a7", func := "braidwork/braidworklaw22.InGrants", spec := "inGrants", unfollowed := true, recurses := true, plainKeys := false, apart := false }
def InGrantsSaid : Prop := inGrantsRow.holds Try.pinned (OpenSpec.ofChange inGrantsSpec)

/-- ITS FALSE NEIGHBOUR: 'it returns false'. Refute it at one input. -/
def inGrantsWrong : ChangeSpec := { name := "inGrants", fn := fun _ => fun
  | [d1, d2] => { results := [.lit (.bool false)], args := [d1, d2] }
  | _ => none }
def InGrantsWrongFalsely : Prop := inGrantsRow.holds Try.pinned (OpenSpec.ofChange inGrantsWrong)

/-- 'braidworklaw22.LinkBounds': WHATEVER THE INPUT: true; the input reads as it did. -/
def linkBoundsSpec : ChangeSpec := { name := "linkBounds", fn := fun _ => fun
  | [d1, d2] => { results := [.lit (.bool true)], args := [d1, d2] }
  | _ => none }
def linkBoundsRow : OpenClaim := { program := "ythfddcgfmpicmaa", sum := "4975f94ab174989027354dbb98628eeeb03c337e2805fc63c554b2e94f9036a7", func := "braidwork/braidworklaw22.LinkBounds", spec := "linkBounds", unfollowed := true, recurses := true, plainKeys := false, apart := false }
def LinkBoundsSaid : Prop := linkBoundsRow.holds Try.pinned (OpenSpec.ofChange linkBoundsSpec)

/-- ITS FALSE NEIGHBOUR: 'it returns false'. Refute it at one input. -/
def linkBoundsWrong : ChangeSpec := { name := "linkBounds", fn := fun _ => fun
  | [d1, d2] => { results := [.lit (.bool false)], args := [d1, d2] }
  | _ => none }
def LinkBoundsWrongFalsely : Prop := linkBoundsRow.holds Try.pinned (OpenSpec.ofChange linkBoundsWrong)

/- THE SECOND FORM. 'bulk': how many values and letters a reading holds, each counted each time it is reached (what is shared counts as often as it is met; a slice's spare places count too). A statement '..UptoSaid' is the law's where the arguments, and the package variables that the reading takes, are together of bulk at most 1048576: NARROWER than '..Said'. Prove '..Said' where nothing that the law and all that it calls make is longer than what came in: it says more and counts as full. Else prove '..UptoSaid'. A law counts once. -/
mutual
def uptoBulk {H : Type} : DataW H → Nat
  | .lit (.string bytes) => bytes.length + 1
  | .lit _ => 1
  | .nil => 1
  | .ptr d => uptoBulk d + 1
  | .slice elems spare => uptoBulkAll elems + uptoBulkAll spare + 1
  | .agg parts => uptoBulkAll parts + 1
  | .iface _ d => uptoBulk d + 1
  | .map entries => uptoBulkEntries entries + 1
  | .held _ => 1
def uptoBulkAll {H : Type} : List (DataW H) → Nat
  | [] => 0
  | d :: r => uptoBulk d + uptoBulkAll r
def uptoBulkEntries {H : Type} : List (Lit × DataW H) → Nat
  | [] => 0
  | x :: r => uptoBulkEntry x + uptoBulkEntries r
def uptoBulkEntry {H : Type} : Lit × DataW H → Nat
  | (.string bytes, d) => bytes.length + uptoBulk d + 1
  | (_, d) => uptoBulk d + 1
 end
def uptoSmall : (H : Type) → List (DataW H) → Bool := fun _ ds => decide (uptoBulkAll ds ≤ 1048576)
def OpenSpec.upto (s : _root_.Go.ChangeSpec) : _root_.Go.OpenSpec := { _root_.Go.OpenSpec.ofChange s with cond := some uptoSmall }

/-- 'braidworklaw18.RanksWants', WHERE WHAT IT READS IS OF BULK AT MOST 1048576: true; the input reads as it did. -/
def ranksWantsUptoRow : OpenClaim := { program := "ythfddcgfmpicmaa", sum := "4975f94ab174989027354dbb98628eeeb03c337e2805fc63c554b2e94f9036a7", func := "braidwork/braidworklaw18.RanksWants", spec := "ranksWants", unfollowed := true, recurses := true, plainKeys := false, apart := false, narrowed := true }
def RanksWantsUptoSaid : Prop := ranksWantsUptoRow.holds Try.pinned (OpenSpec.upto ranksWantsSpec)

/-- 'braidworklaw22.LinkKnown', WHERE WHAT IT READS IS OF BULK AT MOST 1048576: true; the input reads as it did. -/
def linkKnownUptoRow : OpenClaim := { program := "ythfddcgfmpicmaa", sum := "4975f94ab174989027354dbb98628eeeb03c337e2805fc63c554b2e94f9036a7", func := "braidwork/braidworklaw22.LinkKnown", spec := "linkKnown", unfollowed := true, recurses := true, plainKeys := false, apart := false, narrowed := true }
def LinkKnownUptoSaid : Prop := linkKnownUptoRow.holds Try.pinned (OpenSpec.upto linkKnownSpec)

/-- 'braidworklaw18.RanksPlays', WHERE WHAT IT READS IS OF BULK AT MOST 1048576: true; the input reads as it did. -/
def ranksPlaysUptoRow : OpenClaim := { program := "ythfddcgfmpicmaa", sum := "4975f94ab174989027354dbb98628eeeb03c337e2805fc63c554b2e94f9036a7", func := "braidwork/braidworklaw18.RanksPlays", spec := "ranksPlays", unfollowed := true, recurses := true, plainKeys := false, apart := false, narrowed := true }
def RanksPlaysUptoSaid : Prop := ranksPlaysUptoRow.holds Try.pinned (OpenSpec.upto ranksPlaysSpec)

/-- 'braidworklaw18.RanksLatest', WHERE WHAT IT READS IS OF BULK AT MOST 1048576: true; the input reads as it did. -/
def ranksLatestUptoRow : OpenClaim := { program := "ythfddcgfmpicmaa", sum := "4975f94ab174989027354dbb98628eeeb03c337e2805fc63c554b2e94f9036a7", func := "braidwork/braidworklaw18.RanksLatest", spec := "ranksLatest", unfollowed := true, recurses := true, plainKeys := false, apart := false, narrowed := true }
def RanksLatestUptoSaid : Prop := ranksLatestUptoRow.holds Try.pinned (OpenSpec.upto ranksLatestSpec)

/-- 'braidworklaw18.RanksKnown', WHERE WHAT IT READS IS OF BULK AT MOST 1048576: true; the input reads as it did. -/
def ranksKnownUptoRow : OpenClaim := { program := "ythfddcgfmpicmaa", sum := "4975f94ab174989027354dbb98628eeeb03c337e2805fc63c554b2e94f9036a7", func := "braidwork/braidworklaw18.RanksKnown", spec := "ranksKnown", unfollowed := true, recurses := true, plainKeys := false, apart := false, narrowed := true }
def RanksKnownUptoSaid : Prop := ranksKnownUptoRow.holds Try.pinned (OpenSpec.upto ranksKnownSpec)

/-- 'braidworklaw16.CreditPlays', WHERE WHAT IT READS IS OF BULK AT MOST 1048576: true; the input reads as it did. -/
def creditPlaysUptoRow : OpenClaim := { program := "ythfddcgfmpicmaa", sum := "4975f94ab174989027354dbb98628eeeb03c337e2805fc63c554b2e94f9036a7", func := "braidwork/braidworklaw16.CreditPlays", spec := "creditPlays", unfollowed := true, recurses := true, plainKeys := false, apart := false, narrowed := true }
def CreditPlaysUptoSaid : Prop := creditPlaysUptoRow.holds Try.pinned (OpenSpec.upto creditPlaysSpec)

/-- 'braidworklaw16.CreditNever', WHERE WHAT IT READS IS OF BULK AT MOST 1048576: true; the input reads as it did. -/
def creditNeverUptoRow : OpenClaim := { program := "ythfddcgfmpicmaa", sum := "4975f94ab174989027354dbb98628eeeb03c337e2805fc63c554b2e94f9036a7", func := "braidwork/braidworklaw16.CreditNever", spec := "creditNever", unfollowed := true, recurses := true, plainKeys := false, apart := false, narrowed := true }
def CreditNeverUptoSaid : Prop := creditNeverUptoRow.holds Try.pinned (OpenSpec.upto creditNeverSpec)

/-- 'braidworklaw16.CreditGoes', WHERE WHAT IT READS IS OF BULK AT MOST 1048576: true; the input reads as it did. -/
def creditGoesUptoRow : OpenClaim := { program := "ythfddcgfmpicmaa", sum := "4975f94ab174989027354dbb98628eeeb03c337e2805fc63c554b2e94f9036a7", func := "braidwork/braidworklaw16.CreditGoes", spec := "creditGoes", unfollowed := true, recurses := true, plainKeys := false, apart := false, narrowed := true }
def CreditGoesUptoSaid : Prop := creditGoesUptoRow.holds Try.pinned (OpenSpec.upto creditGoesSpec)

/-- 'braidworklaw16.CreditRises', WHERE WHAT IT READS IS OF BULK AT MOST 1048576: true; the input reads as it did. -/
def creditRisesUptoRow : OpenClaim := { program := "ythfddcgfmpicmaa", sum := "4975f94ab174989027354dbb98628eeeb03c337e2805fc63c554b2e94f9036a7", func := "braidwork/braidworklaw16.CreditRises", spec := "creditRises", unfollowed := true, recurses := true, plainKeys := false, apart := false, narrowed := true }
def CreditRisesUptoSaid : Prop := creditRisesUptoRow.holds Try.pinned (OpenSpec.upto creditRisesSpec)

/-- 'braidworklaw16.CreditWindow', WHERE WHAT IT READS IS OF BULK AT MOST 1048576: true; the input reads as it did. -/
def creditWindowUptoRow : OpenClaim := { program := "ythfddcgfmpicmaa", sum := "4975f94ab174989027354dbb98628eeeb03c337e2805fc63c554b2e94f9036a7", func := "braidwork/braidworklaw16.CreditWindow", spec := "creditWindow", unfollowed := true, recurses := true, plainKeys := false, apart := false, narrowed := true }
def CreditWindowUptoSaid : Prop := creditWindowUptoRow.holds Try.pinned (OpenSpec.upto creditWindowSpec)

/-- 'braidworklaw16.CreditKnown', WHERE WHAT IT READS IS OF BULK AT MOST 1048576: true; the input reads as it did. -/
def creditKnownUptoRow : OpenClaim := { program := "ythfddcgfmpicmaa", sum := "4975f94ab174989027354dbb98628eeeb03c337e2805fc63c554b2e94f9036a7", func := "braidwork/braidworklaw16.CreditKnown", spec := "creditKnown", unfollowed := true, recurses := true, plainKeys := false, apart := false, narrowed := true }
def CreditKnownUptoSaid : Prop := creditKnownUptoRow.holds Try.pinned (OpenSpec.upto creditKnownSpec)

/-- 'braidworklaw21.SchedTurns', WHERE WHAT IT READS IS OF BULK AT MOST 1048576: true; the input reads as it did. -/
def schedTurnsUptoRow : OpenClaim := { program := "ythfddcgfmpicmaa", sum := "4975f94ab174989027354dbb98628eeeb03c337e2805fc63c554b2e94f9036a7", func := "braidwork/braidworklaw21.SchedTurns", spec := "schedTurns", unfollowed := true, recurses := true, plainKeys := false, apart := false, narrowed := true }
def SchedTurnsUptoSaid : Prop := schedTurnsUptoRow.holds Try.pinned (OpenSpec.upto schedTurnsSpec)

/-- 'braidworklaw21.SchedFair', WHERE WHAT IT READS IS OF BULK AT MOST 1048576: true; the input reads as it did. -/
def schedFairUptoRow : OpenClaim := { program := "ythfddcgfmpicmaa", sum := "4975f94ab174989027354dbb98628eeeb03c337e2805fc63c554b2e94f9036a7", func := "braidwork/braidworklaw21.SchedFair", spec := "schedFair", unfollowed := true, recurses := true, plainKeys := false, apart := false, narrowed := true }
def SchedFairUptoSaid : Prop := schedFairUptoRow.holds Try.pinned (OpenSpec.upto schedFairSpec)

/-- 'braidworklaw21.SchedOrder', WHERE WHAT IT READS IS OF BULK AT MOST 1048576: true; the input reads as it did. -/
def schedOrderUptoRow : OpenClaim := { program := "ythfddcgfmpicmaa", sum := "4975f94ab174989027354dbb98628eeeb03c337e2805fc63c554b2e94f9036a7", func := "braidwork/braidworklaw21.SchedOrder", spec := "schedOrder", unfollowed := true, recurses := true, plainKeys := false, apart := false, narrowed := true }
def SchedOrderUptoSaid : Prop := schedOrderUptoRow.holds Try.pinned (OpenSpec.upto schedOrderSpec)

/-- 'braidworklaw21.SchedKnown', WHERE WHAT IT READS IS OF BULK AT MOST 1048576: true; the input reads as it did. -/
def schedKnownUptoRow : OpenClaim := { program := "ythfddcgfmpicmaa", sum := "4975f94ab174989027354dbb98628eeeb03c337e2805fc63c554b2e94f9036a7", func := "braidwork/braidworklaw21.SchedKnown", spec := "schedKnown", unfollowed := true, recurses := true, plainKeys := false, apart := false, narrowed := true }
def SchedKnownUptoSaid : Prop := schedKnownUptoRow.holds Try.pinned (OpenSpec.upto schedKnownSpec)

/-- 'braidworklaw22.LinkRound', WHERE WHAT IT READS IS OF BULK AT MOST 1048576: true; the input reads as it did. -/
def linkRoundUptoRow : OpenClaim := { program := "ythfddcgfmpicmaa", sum := "4975f94ab174989027354dbb98628eeeb03c337e2805fc63c554b2e94f9036a7", func := "braidwork/braidworklaw22.LinkRound", spec := "linkRound", unfollowed := true, recurses := true, plainKeys := false, apart := false, narrowed := true }
def LinkRoundUptoSaid : Prop := linkRoundUptoRow.holds Try.pinned (OpenSpec.upto linkRoundSpec)

/-- 'braidworklaw22.OutPlays', WHERE WHAT IT READS IS OF BULK AT MOST 1048576: true; the input reads as it did. -/
def outPlaysUptoRow : OpenClaim := { program := "ythfddcgfmpicmaa", sum := "4975f94ab174989027354dbb98628eeeb03c337e2805fc63c554b2e94f9036a7", func := "braidwork/braidworklaw22.OutPlays", spec := "outPlays", unfollowed := true, recurses := true, plainKeys := false, apart := false, narrowed := true }
def OutPlaysUptoSaid : Prop := outPlaysUptoRow.holds Try.pinned (OpenSpec.upto outPlaysSpec)

/-- 'braidworklaw22.InGrants', WHERE WHAT IT READS IS OF BULK AT MOST 1048576: true; the input reads as it did. -/
def inGrantsUptoRow : OpenClaim := { program := "ythfddcgfmpicmaa", sum := "4975f94ab174989027354dbb98628eeeb03c337e2805fc63c554b2e94f9036a7", func := "braidwork/braidworklaw22.InGrants", spec := "inGrants", unfollowed := true, recurses := true, plainKeys := false, apart := false, narrowed := true }
def InGrantsUptoSaid : Prop := inGrantsUptoRow.holds Try.pinned (OpenSpec.upto inGrantsSpec)

/-- 'braidworklaw22.LinkBounds', WHERE WHAT IT READS IS OF BULK AT MOST 1048576: true; the input reads as it did. -/
def linkBoundsUptoRow : OpenClaim := { program := "ythfddcgfmpicmaa", sum := "4975f94ab174989027354dbb98628eeeb03c337e2805fc63c554b2e94f9036a7", func := "braidwork/braidworklaw22.LinkBounds", spec := "linkBounds", unfollowed := true, recurses := true, plainKeys := false, apart := false, narrowed := true }
def LinkBoundsUptoSaid : Prop := linkBoundsUptoRow.holds Try.pinned (OpenSpec.upto linkBoundsSpec)

end Rows
end Go.Proofs.Ythfddcgfmpicmaa
