/-
  No cell of these rows narrows 'for every input' (looked for: loops, veiled, ifaces, maps, wideKeys, modest, calm, conditions, laid).
  DERIVED. THE GIVEN ROWS OF THIS SEAT. 10 by the template 'for every input the law returns true; each argument reads behind the call as it read before'; 0 by the template 'total and deterministic' (their statements: YtpkaddpennafcaaTotals.lean).
  GIVEN WITH THE SEED: the statements are not yours to turn. If you find one false, say at which input.
  Laid BY PROGRAM, IN A SANDBOX (cutbox-rows.mjs): the forced cells as the released guide's own fill.sh prints them over the translation cae3035861ff921e… (all of the seat's roots in one cut). By AI agents, Wed Nov 11 2026. No macro, syntax, notation, axiom, sorry.
-/
import Derived.Test.YtpkaddpennafcaaChecked
import GoSem.Claim
import GoSem.ClaimJoined
import GoSem.ClaimMapViews
import Derived.JoinedTies
import Derived.KernelRfl
namespace Go.Proofs.Ytpkaddpennafcaa
/- THE CELL 'sum', in the pinned program and in every row, IS THE sha256 OF THE DUMP (.gsa) THAT YtpkaddpennafcaaProg.lean LOADS. Nothing in Lean hashes anything: it is a label: what it is worth is what the hold of that sum in a sandbox is worth. -/
noncomputable def Try.pinned : Pinned := { name := "ytpkaddpennafcaa", sum := "cae3035861ff921e1a46851b1f8fc14af565e3348c7eecd08d456012edf3abd9", checked := Try.checked }
namespace Rows
def none {H : Type} : Left H := { results := [], args := [] }

/-- 'braidworklaw18.RanksWants': WHATEVER THE INPUT: true; the input reads as it did. -/
def ranksWantsSpec : ChangeSpec := { name := "ranksWants", fn := fun _ => fun
  | [d1, d2, d3, d4, d5, d6] => { results := [.lit (.bool true)], args := [d1, d2, d3, d4, d5, d6] }
  | _ => none }
def ranksWantsRow : OpenClaim := { program := "ytpkaddpennafcaa", sum := "cae3035861ff921e1a46851b1f8fc14af565e3348c7eecd08d456012edf3abd9", func := "braidwork/braidworklaw18.RanksWants", spec := "ranksWants", unfollowed := true, recurses := true, plainKeys := false, apart := false }
def RanksWantsSaid : Prop := ranksWantsRow.holds Try.pinned (OpenSpec.ofChange ranksWantsSpec)

/-- ITS FALSE NEIGHBOUR: 'it returns false'. Refute it at one input. -/
def ranksWantsWrong : ChangeSpec := { name := "ranksWants", fn := fun _ => fun
  | [d1, d2, d3, d4, d5, d6] => { results := [.lit (.bool false)], args := [d1, d2, d3, d4, d5, d6] }
  | _ => none }
def RanksWantsWrongFalsely : Prop := ranksWantsRow.holds Try.pinned (OpenSpec.ofChange ranksWantsWrong)

/-- 'braidworklaw18.RanksPlays': WHATEVER THE INPUT: true; the input reads as it did. -/
def ranksPlaysSpec : ChangeSpec := { name := "ranksPlays", fn := fun _ => fun
  | [d1, d2, d3, d4] => { results := [.lit (.bool true)], args := [d1, d2, d3, d4] }
  | _ => none }
def ranksPlaysRow : OpenClaim := { program := "ytpkaddpennafcaa", sum := "cae3035861ff921e1a46851b1f8fc14af565e3348c7eecd08d456012edf3abd9", func := "braidwork/braidworklaw18.RanksPlays", spec := "ranksPlays", unfollowed := true, recurses := true, plainKeys := false, apart := false }
def RanksPlaysSaid : Prop := ranksPlaysRow.holds Try.pinned (OpenSpec.ofChange ranksPlaysSpec)

/-- ITS FALSE NEIGHBOUR: 'it returns false'. Refute it at one input. -/
def ranksPlaysWrong : ChangeSpec := { name := "ranksPlays", fn := fun _ => fun
  | [d1, d2, d3, d4] => { results := [.lit (.bool false)], args := [d1, d2, d3, d4] }
  | _ => none }
def RanksPlaysWrongFalsely : Prop := ranksPlaysRow.holds Try.pinned (OpenSpec.ofChange ranksPlaysWrong)

/-- 'braidworklaw18.RanksLatest': WHATEVER THE INPUT: true; the input reads as it did. -/
def ranksLatestSpec : ChangeSpec := { name := "ranksLatest", fn := fun _ => fun
  | [d1, d2] => { results := [.lit (.bool true)], args := [d1, d2] }
  | _ => none }
def ranksLatestRow : OpenClaim := { program := "ytpkaddpennafcaa", sum := "cae3035861ff921e1a46851b1f8fc14af565e3348c7eecd08d456012edf3abd9", func := "braidwork/braidworklaw18.RanksLatest", spec := "ranksLatest", unfollowed := true, recurses := true, plainKeys := false, apart := false }
def RanksLatestSaid : Prop := ranksLatestRow.holds Try.pinned (OpenSpec.ofChange ranksLatestSpec)

/-- ITS FALSE NEIGHBOUR: 'it returns false'. Refute it at one input. -/
def ranksLatestWrong : ChangeSpec := { name := "ranksLatest", fn := fun _ => fun
  | [d1, d2] => { results := [.lit (.bool false)], args := [d1, d2] }
  | _ => none }
def RanksLatestWrongFalsely : Prop := ranksLatestRow.holds Try.pinned (OpenSpec.ofChange ranksLatestWrong)

/-- 'braidworklaw18.RanksKnown': WHATEVER THE INPUT: true; the input reads as it did. -/
def ranksKnownSpec : ChangeSpec := { name := "ranksKnown", fn := fun _ => fun
  | [] => { results := [.lit (.bool true)], args := [] }
  | _ => none }
def ranksKnownRow : OpenClaim := { program := "ytpkaddpennafcaa", sum := "cae3035861ff921e1a46851b1f8fc14af565e3348c7eecd08d456012edf3abd9", func := "braidwork/braidworklaw18.RanksKnown", spec := "ranksKnown", unfollowed := true, recurses := true, plainKeys := false, apart := false }
def RanksKnownSaid : Prop := ranksKnownRow.holds Try.pinned (OpenSpec.ofChange ranksKnownSpec)

/-- ITS FALSE NEIGHBOUR: 'it returns false'. Refute it at one input. -/
def ranksKnownWrong : ChangeSpec := { name := "ranksKnown", fn := fun _ => fun
  | [] => { results := [.lit (.bool false)], args := [] }
  | _ => none }
def RanksKnownWrongFalsely : Prop := ranksKnownRow.holds Try.pinned (OpenSpec.ofChange ranksKnownWrong)

/-- 'braidworklaw16.CreditPlays': WHATEVER THE INPUT: true; the input reads as it did. -/
def creditPlaysSpec : ChangeSpec := { name := "creditPlays", fn := fun _ => fun
  | [d1, d2, d3] => { results := [.lit (.bool true)], args := [d1, d2, d3] }
  | _ => none }
def creditPlaysRow : OpenClaim := { program := "ytpkaddpennafcaa", sum := "cae3035861ff921e1a46851b1f8fc14af565e3348c7eecd08d456012edf3abd9", func := "braidwork/braidworklaw16.CreditPlays", spec := "creditPlays", unfollowed := true, recurses := true, plainKeys := false, apart := false }
def CreditPlaysSaid : Prop := creditPlaysRow.holds Try.pinned (OpenSpec.ofChange creditPlaysSpec)

/-- ITS FALSE NEIGHBOUR: 'it returns false'. Refute it at one input. -/
def creditPlaysWrong : ChangeSpec := { name := "creditPlays", fn := fun _ => fun
  | [d1, d2, d3] => { results := [.lit (.bool false)], args := [d1, d2, d3] }
  | _ => none }
def CreditPlaysWrongFalsely : Prop := creditPlaysRow.holds Try.pinned (OpenSpec.ofChange creditPlaysWrong)

/-- 'braidworklaw16.CreditNever': WHATEVER THE INPUT: true; the input reads as it did. -/
def creditNeverSpec : ChangeSpec := { name := "creditNever", fn := fun _ => fun
  | [d] => { results := [.lit (.bool true)], args := [d] }
  | _ => none }
def creditNeverRow : OpenClaim := { program := "ytpkaddpennafcaa", sum := "cae3035861ff921e1a46851b1f8fc14af565e3348c7eecd08d456012edf3abd9", func := "braidwork/braidworklaw16.CreditNever", spec := "creditNever", unfollowed := true, recurses := true, plainKeys := false, apart := false }
def CreditNeverSaid : Prop := creditNeverRow.holds Try.pinned (OpenSpec.ofChange creditNeverSpec)

/-- ITS FALSE NEIGHBOUR: 'it returns false'. Refute it at one input. -/
def creditNeverWrong : ChangeSpec := { name := "creditNever", fn := fun _ => fun
  | [d] => { results := [.lit (.bool false)], args := [d] }
  | _ => none }
def CreditNeverWrongFalsely : Prop := creditNeverRow.holds Try.pinned (OpenSpec.ofChange creditNeverWrong)

/-- 'braidworklaw16.CreditGoes': WHATEVER THE INPUT: true; the input reads as it did. -/
def creditGoesSpec : ChangeSpec := { name := "creditGoes", fn := fun _ => fun
  | [d1, d2, d3, d4, d5, d6] => { results := [.lit (.bool true)], args := [d1, d2, d3, d4, d5, d6] }
  | _ => none }
def creditGoesRow : OpenClaim := { program := "ytpkaddpennafcaa", sum := "cae3035861ff921e1a46851b1f8fc14af565e3348c7eecd08d456012edf3abd9", func := "braidwork/braidworklaw16.CreditGoes", spec := "creditGoes", unfollowed := true, recurses := true, plainKeys := false, apart := false }
def CreditGoesSaid : Prop := creditGoesRow.holds Try.pinned (OpenSpec.ofChange creditGoesSpec)

/-- ITS FALSE NEIGHBOUR: 'it returns false'. Refute it at one input. -/
def creditGoesWrong : ChangeSpec := { name := "creditGoes", fn := fun _ => fun
  | [d1, d2, d3, d4, d5, d6] => { results := [.lit (.bool false)], args := [d1, d2, d3, d4, d5, d6] }
  | _ => none }
def CreditGoesWrongFalsely : Prop := creditGoesRow.holds Try.pinned (OpenSpec.ofChange creditGoesWrong)

/-- 'braidworklaw16.CreditRises': WHATEVER THE INPUT: true; the input reads as it did. -/
def creditRisesSpec : ChangeSpec := { name := "creditRises", fn := fun _ => fun
  | [d] => { results := [.lit (.bool true)], args := [d] }
  | _ => none }
def creditRisesRow : OpenClaim := { program := "ytpkaddpennafcaa", sum := "cae3035861ff921e1a46851b1f8fc14af565e3348c7eecd08d456012edf3abd9", func := "braidwork/braidworklaw16.CreditRises", spec := "creditRises", unfollowed := true, recurses := true, plainKeys := false, apart := false }
def CreditRisesSaid : Prop := creditRisesRow.holds Try.pinned (OpenSpec.ofChange creditRisesSpec)

/-- ITS FALSE NEIGHBOUR: 'it returns false'. Refute it at one input. -/
def creditRisesWrong : ChangeSpec := { name := "creditRises", fn := fun _ => fun
  | [d] => { results := [.lit (.bool false)], args := [d] }
  | _ => none }
def CreditRisesWrongFalsely : Prop := creditRisesRow.holds Try.pinned (OpenSpec.ofChange creditRisesWrong)

/-- 'braidworklaw16.CreditWindow': WHATEVER THE INPUT: true; the input reads as it did. -/
def creditWindowSpec : ChangeSpec := { name := "creditWindow", fn := fun _ => fun
  | [d1, d2] => { results := [.lit (.bool true)], args := [d1, d2] }
  | _ => none }
def creditWindowRow : OpenClaim := { program := "ytpkaddpennafcaa", sum := "cae3035861ff921e1a46851b1f8fc14af565e3348c7eecd08d456012edf3abd9", func := "braidwork/braidworklaw16.CreditWindow", spec := "creditWindow", unfollowed := true, recurses := true, plainKeys := false, apart := false }
def CreditWindowSaid : Prop := creditWindowRow.holds Try.pinned (OpenSpec.ofChange creditWindowSpec)

/-- ITS FALSE NEIGHBOUR: 'it returns false'. Refute it at one input. -/
def creditWindowWrong : ChangeSpec := { name := "creditWindow", fn := fun _ => fun
  | [d1, d2] => { results := [.lit (.bool false)], args := [d1, d2] }
  | _ => none }
def CreditWindowWrongFalsely : Prop := creditWindowRow.holds Try.pinned (OpenSpec.ofChange creditWindowWrong)

/-- 'braidworklaw16.CreditKnown': WHATEVER THE INPUT: true; the input reads as it did. -/
def creditKnownSpec : ChangeSpec := { name := "creditKnown", fn := fun _ => fun
  | [] => { results := [.lit (.bool true)], args := [] }
  | _ => none }
def creditKnownRow : OpenClaim := { program := "ytpkaddpennafcaa", sum := "cae3035861ff921e1a46851b1f8fc14af565e3348c7eecd08d456012edf3abd9", func := "braidwork/braidworklaw16.CreditKnown", spec := "creditKnown", unfollowed := true, recurses := true, plainKeys := false, apart := false }
def CreditKnownSaid : Prop := creditKnownRow.holds Try.pinned (OpenSpec.ofChange creditKnownSpec)

/-- ITS FALSE NEIGHBOUR: 'it returns false'. Refute it at one input. -/
def creditKnownWrong : ChangeSpec := { name := "creditKnown", fn := fun _ => fun
  | [] => { results := [.lit (.bool false)], args := [] }
  | _ => none }
def CreditKnownWrongFalsely : Prop := creditKnownRow.holds Try.pinned (OpenSpec.ofChange creditKnownWrong)

/- THE SECOND FORM. 'bulk': how many values and letters a reading holds, each counted each time it is reached (what is shared counts as often as it is met; a slice's spare places count too). A statement '..UptoSaid' is the law's where the arguments, and the package variables that the reading takes, are together of bulk at most 1048576: NARROWER than '..Said'. Prove '..Said' where nothing that the law and all that it calls make is longer than what came in: it says more and counts as full. Else prove '..UptoSaid'. A law counts once. -/
mutual
def uptoBulk {H : Type} : DataW H → Nat
  | .lit (.string bytes) => bytes.length + 1
  | .lit _ => 1
  | .nil => 1
  | .ptr d => uptoBulk d + 1
  | .slice elems spare => uptoBulkAll elems + uptoBulkAll spare + 1
  | .agg parts => uptoBulkAll parts + 1
  | .iface _ d => uptoBulk d + 1
  | .map entries => uptoBulkEntries entries + 1
  | .held _ => 1
def uptoBulkAll {H : Type} : List (DataW H) → Nat
  | [] => 0
  | d :: r => uptoBulk d + uptoBulkAll r
def uptoBulkEntries {H : Type} : List (Lit × DataW H) → Nat
  | [] => 0
  | x :: r => uptoBulkEntry x + uptoBulkEntries r
def uptoBulkEntry {H : Type} : Lit × DataW H → Nat
  | (.string bytes, d) => bytes.length + uptoBulk d + 1
  | (_, d) => uptoBulk d + 1
 end
def uptoSmall : (H : Type) → List (DataW H) → Bool := fun _ ds => decide (uptoBulkAll ds ≤ 1048576)
def OpenSpec.upto (s : _root_.Go.ChangeSpec) : _root_.Go.OpenSpec := { _root_.Go.OpenSpec.ofChange s with cond := some uptoSmall }

/-- 'braidworklaw18.RanksWants', WHERE WHAT IT READS IS OF BULK AT MOST 1048576: true; the input reads as it did. -/
def ranksWantsUptoRow : OpenClaim := { program := "ytpkaddpennafcaa", sum := "cae3035861ff921e1a46851b1f8fc14af565e3348c7eecd08d456012edf3abd9", func := "braidwork/braidworklaw18.RanksWants", spec := "ranksWants", unfollowed := true, recurses := true, plainKeys := false, apart := false, narrowed := true }
def RanksWantsUptoSaid : Prop := ranksWantsUptoRow.holds Try.pinned (OpenSpec.upto ranksWantsSpec)

/-- 'braidworklaw18.RanksPlays', WHERE WHAT IT READS IS OF BULK AT MOST 1048576: true; the input reads as it did. -/
def ranksPlaysUptoRow : OpenClaim := { program := "ytpkaddpennafcaa", sum := "cae3035861ff921e1a46851b1f8fc14af565e3348c7eecd08d456012edf3abd9", func := "braidwork/braidworklaw18.RanksPlays", spec := "ranksPlays", unfollowed := true, recurses := true, plainKeys := false, apart := false, narrowed := true }
def RanksPlaysUptoSaid : Prop := ranksPlaysUptoRow.holds Try.pinned (OpenSpec.upto ranksPlaysSpec)

/-- 'braidworklaw18.RanksLatest', WHERE WHAT IT READS IS OF BULK AT MOST 1048576: true; the input reads as it did. -/
def ranksLatestUptoRow : OpenClaim := { program := "ytpkaddpennafcaa", sum := "cae3035861ff921e1a46851b1f8fc14af565e3348c7eecd08d456012edf3abd9", func := "braidwork/braidworklaw18.RanksLatest", spec := "ranksLatest", unfollowed := true, recurses := true, plainKeys := false, apart := false, narrowed := true }
def RanksLatestUptoSaid : Prop := ranksLatestUptoRow.holds Try.pinned (OpenSpec.upto ranksLatestSpec)

/-- 'braidworklaw18.RanksKnown', WHERE WHAT IT READS IS OF BULK AT MOST 1048576: true; the input reads as it did. -/
def ranksKnownUptoRow : OpenClaim := { program := "ytpkaddpennafcaa", sum := "cae3035861ff921e1a46851b1f8fc14af565e3348c7eecd08d456012edf3abd9", func := "braidwork/braidworklaw18.RanksKnown", spec := "ranksKnown", unfollowed := true, recurses := true, plainKeys := false, apart := false, narrowed := true }
def RanksKnownUptoSaid : Prop := ranksKnownUptoRow.holds Try.pinned (OpenSpec.upto ranksKnownSpec)

/-- 'braidworklaw16.CreditPlays', WHERE WHAT IT READS IS OF BULK AT MOST 1048576: true; the input reads as it did. -/
def creditPlaysUptoRow : OpenClaim := { program := "ytpkaddpennafcaa", sum := "cae3035861ff921e1a46851b1f8fc14af565e3348c7eecd08d456012edf3abd9", func := "braidwork/braidworklaw16.CreditPlays", spec := "creditPlays", unfollowed := true, recurses := true, plainKeys := false, apart := false, narrowed := true }
def CreditPlaysUptoSaid : Prop := creditPlaysUptoRow.holds Try.pinned (OpenSpec.upto creditPlaysSpec)

/-- 'braidworklaw16.CreditNever', WHERE WHAT IT READS IS OF BULK AT MOST 1048576: true; the input reads as it did. -/
def creditNeverUptoRow : OpenClaim := { program := "ytpkaddpennafcaa", sum := "cae3035861ff921e1a46851b1f8fc14af565e3348c7eecd08d456012edf3abd9", func := "braidwork/braidworklaw16.CreditNever", spec := "creditNever", unfollowed := true, recurses := true, plainKeys := false, apart := false, narrowed := true }
def CreditNeverUptoSaid : Prop := creditNeverUptoRow.holds Try.pinned (OpenSpec.upto creditNeverSpec)

/-- 'braidworklaw16.CreditGoes', WHERE WHAT IT READS IS OF BULK AT MOST 1048576: true; the input reads as it did. -/
def creditGoesUptoRow : OpenClaim := { program := "ytpkaddpennafcaa", sum := "cae3035861ff921e1a46851b1f8fc14af565e3348c7eecd08d456012edf3abd9", func := "braidwork/braidworklaw16.CreditGoes", spec := "creditGoes", unfollowed := true, recurses := true, plainKeys := false, apart := false, narrowed := true }
def CreditGoesUptoSaid : Prop := creditGoesUptoRow.holds Try.pinned (OpenSpec.upto creditGoesSpec)

/-- 'braidworklaw16.CreditRises', WHERE WHAT IT READS IS OF BULK AT MOST 1048576: true; the input reads as it did. -/
def creditRisesUptoRow : OpenClaim := { program := "ytpkaddpennafcaa", sum := "cae3035861ff921e1a46851b1f8fc14af565e3348c7eecd08d456012edf3abd9", func := "braidwork/braidworklaw16.CreditRises", spec := "creditRises", unfollowed := true, recurses := true, plainKeys := false, apart := false, narrowed := true }
def CreditRisesUptoSaid : Prop := creditRisesUptoRow.holds Try.pinned (OpenSpec.upto creditRisesSpec)

/-- 'braidworklaw16.CreditWindow', WHERE WHAT IT READS IS OF BULK AT MOST 1048576: true; the input reads as it did. -/
def creditWindowUptoRow : OpenClaim := { program := "ytpkaddpennafcaa", sum := "cae3035861ff921e1a46851b1f8fc14af565e3348c7eecd08d456012edf3abd9", func := "braidwork/braidworklaw16.CreditWindow", spec := "creditWindow", unfollowed := true, recurses := true, plainKeys := false, apart := false, narrowed := true }
def CreditWindowUptoSaid : Prop := creditWindowUptoRow.holds Try.pinned (OpenSpec.upto creditWindowSpec)

/-- 'braidworklaw16.CreditKnown', WHERE WHAT IT READS IS OF BULK AT MOST 1048576: true; the input reads as it did. -/
def creditKnownUptoRow : OpenClaim := { program := "ytpkaddpennafcaa", sum := "cae3035861ff921e1a46851b1f8fc14af565e3348c7eecd08d456012edf3abd9", func := "braidwork/braidworklaw16.CreditKnown", spec := "creditKnown", unfollowed := true, recurses := true, plainKeys := false, apart := false, narrowed := true }
def CreditKnownUptoSaid : Prop := creditKnownUptoRow.holds Try.pinned (OpenSpec.upto creditKnownSpec)

end Rows
end Go.Proofs.Ytpkaddpennafcaa
