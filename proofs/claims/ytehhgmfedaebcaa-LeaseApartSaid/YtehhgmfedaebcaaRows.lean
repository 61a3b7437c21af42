/-
  No cell of these rows narrows 'for every input' (looked for: loops, veiled, ifaces, maps, wideKeys, modest, calm, conditions, laid).
  DERIVED. THE GIVEN ROWS OF THIS SEAT. 11 by the template 'for every input the law returns true; each argument reads behind the call as it read before'; 0 by the template 'total and deterministic' (their statements: YtehhgmfedaebcaaTotals.lean).
  GIVEN WITH THE SEED: the statements are not yours to turn. If you find one false, say at which input.
  Laid BY PROGRAM, IN A SANDBOX (cutbox-rows.mjs): the forced cells as the released guide's own fill.sh prints them over the translation 48be39cc4f73df43… (all of the seat's roots in one cut). By AI agents, Wed Nov 11 2026. No macro, syntax, notation, axiom, sorry.
-/
import Derived.Test.YtehhgmfedaebcaaChecked
import GoSem.Claim
import GoSem.ClaimJoined
import GoSem.ClaimMapViews
import Derived.JoinedTies
import Derived.KernelRfl
namespace Go.Proofs.Ytehhgmfedaebcaa
/- THE CELL 'sum', in the pinned program and in every row, IS THE sha256 OF THE DUMP (.gsa) THAT YtehhgmfedaebcaaProg.lean LOADS. Nothing in Lean hashes anything: it is a label: what it is worth is what the hold of that sum in a sandbox is worth. -/
noncomputable def Try.pinned : Pinned := { name := "ytehhgmfedaebcaa", sum := "48be39cc4f73df43c34f91d35211f9b551cec48b330b96f8ceed33b3f660a3b8", checked := Try.checked }
namespace Rows
def none {H : Type} : Left H := { results := [], args := [] }

/-- 'dragomanlaw20.LeaseSpans': WHATEVER THE INPUT: true; the input reads as it did. -/
def leaseSpansSpec : ChangeSpec := { name := "leaseSpans", fn := fun _ => fun
  | [d] => { results := [.lit (.bool true)], args := [d] }
  | _ => none }
def leaseSpansRow : OpenClaim := { program := "ytehhgmfedaebcaa", sum := "48be39cc4f73df43c34f91d35211f9b551cec48b330b96f8ceed33b3f660a3b8", func := "dragoman/dragomanlaw20.LeaseSpans", spec := "leaseSpans", apart := false }
def LeaseSpansSaid : Prop := leaseSpansRow.holds Try.pinned (OpenSpec.ofChange leaseSpansSpec)

/-- ITS FALSE NEIGHBOUR: 'it returns false'. Refute it at one input. -/
def leaseSpansWrong : ChangeSpec := { name := "leaseSpans", fn := fun _ => fun
  | [d] => { results := [.lit (.bool false)], args := [d] }
  | _ => none }
def LeaseSpansWrongFalsely : Prop := leaseSpansRow.holds Try.pinned (OpenSpec.ofChange leaseSpansWrong)

/-- 'dragomanlaw20.LeaseRises': WHATEVER THE INPUT: true; the input reads as it did. -/
def leaseRisesSpec : ChangeSpec := { name := "leaseRises", fn := fun _ => fun
  | [d] => { results := [.lit (.bool true)], args := [d] }
  | _ => none }
def leaseRisesRow : OpenClaim := { program := "ytehhgmfedaebcaa", sum := "48be39cc4f73df43c34f91d35211f9b551cec48b330b96f8ceed33b3f660a3b8", func := "dragoman/dragomanlaw20.LeaseRises", spec := "leaseRises", apart := false }
def LeaseRisesSaid : Prop := leaseRisesRow.holds Try.pinned (OpenSpec.ofChange leaseRisesSpec)

/-- ITS FALSE NEIGHBOUR: 'it returns false'. Refute it at one input. -/
def leaseRisesWrong : ChangeSpec := { name := "leaseRises", fn := fun _ => fun
  | [d] => { results := [.lit (.bool false)], args := [d] }
  | _ => none }
def LeaseRisesWrongFalsely : Prop := leaseRisesRow.holds Try.pinned (OpenSpec.ofChange leaseRisesWrong)

/-- 'dragomanlaw20.LeaseKnown': WHATEVER THE INPUT: true; the input reads as it did. -/
def leaseKnownSpec : ChangeSpec := { name := "leaseKnown", fn := fun _ => fun
  | [] => { results := [.lit (.bool true)], args := [] }
  | _ => none }
def leaseKnownRow : OpenClaim := { program := "ytehhgmfedaebcaa", sum := "48be39cc4f73df43c34f91d35211f9b551cec48b330b96f8ceed33b3f660a3b8", func := "dragoman/dragomanlaw20.LeaseKnown", spec := "leaseKnown", apart := false }
def LeaseKnownSaid : Prop := leaseKnownRow.holds Try.pinned (OpenSpec.ofChange leaseKnownSpec)

/-- ITS FALSE NEIGHBOUR: 'it returns false'. Refute it at one input. -/
def leaseKnownWrong : ChangeSpec := { name := "leaseKnown", fn := fun _ => fun
  | [] => { results := [.lit (.bool false)], args := [] }
  | _ => none }
def LeaseKnownWrongFalsely : Prop := leaseKnownRow.holds Try.pinned (OpenSpec.ofChange leaseKnownWrong)

/-- 'dragomanlaw20.LeaseHolds': WHATEVER THE INPUT: true; the input reads as it did. -/
def leaseHoldsSpec : ChangeSpec := { name := "leaseHolds", fn := fun _ => fun
  | [d1, d2, d3] => { results := [.lit (.bool true)], args := [d1, d2, d3] }
  | _ => none }
def leaseHoldsRow : OpenClaim := { program := "ytehhgmfedaebcaa", sum := "48be39cc4f73df43c34f91d35211f9b551cec48b330b96f8ceed33b3f660a3b8", func := "dragoman/dragomanlaw20.LeaseHolds", spec := "leaseHolds", apart := false }
def LeaseHoldsSaid : Prop := leaseHoldsRow.holds Try.pinned (OpenSpec.ofChange leaseHoldsSpec)

/-- ITS FALSE NEIGHBOUR: 'it returns false'. Refute it at one input. -/
def leaseHoldsWrong : ChangeSpec := { name := "leaseHolds", fn := fun _ => fun
  | [d1, d2, d3] => { results := [.lit (.bool false)], args := [d1, d2, d3] }
  | _ => none }
def LeaseHoldsWrongFalsely : Prop := leaseHoldsRow.holds Try.pinned (OpenSpec.ofChange leaseHoldsWrong)

/-- 'dragomanlaw20.LeaseApart': WHATEVER THE INPUT: true; the input reads as it did. -/
def leaseApartSpec : ChangeSpec := { name := "leaseApart", fn := fun _ => fun
  | [d1, d2, d3, d4, d5] => { results := [.lit (.bool true)], args := [d1, d2, d3, d4, d5] }
  | _ => none }
def leaseApartRow : OpenClaim := { program := "ytehhgmfedaebcaa", sum := "48be39cc4f73df43c34f91d35211f9b551cec48b330b96f8ceed33b3f660a3b8", func := "dragoman/dragomanlaw20.LeaseApart", spec := "leaseApart", apart := false }
def LeaseApartSaid : Prop := leaseApartRow.holds Try.pinned (OpenSpec.ofChange leaseApartSpec)

/-- ITS FALSE NEIGHBOUR: 'it returns false'. Refute it at one input. -/
def leaseApartWrong : ChangeSpec := { name := "leaseApart", fn := fun _ => fun
  | [d1, d2, d3, d4, d5] => { results := [.lit (.bool false)], args := [d1, d2, d3, d4, d5] }
  | _ => none }
def LeaseApartWrongFalsely : Prop := leaseApartRow.holds Try.pinned (OpenSpec.ofChange leaseApartWrong)

/-- 'dragomanlaw06.ClockAsks': WHATEVER THE INPUT: true; the input reads as it did. -/
def clockAsksSpec : ChangeSpec := { name := "clockAsks", fn := fun _ => fun
  | [d1, d2] => { results := [.lit (.bool true)], args := [d1, d2] }
  | _ => none }
def clockAsksRow : OpenClaim := { program := "ytehhgmfedaebcaa", sum := "48be39cc4f73df43c34f91d35211f9b551cec48b330b96f8ceed33b3f660a3b8", func := "dragoman/dragomanlaw06.ClockAsks", spec := "clockAsks", apart := false }
def ClockAsksSaid : Prop := clockAsksRow.holds Try.pinned (OpenSpec.ofChange clockAsksSpec)

/-- ITS FALSE NEIGHBOUR: 'it returns false'. Refute it at one input. -/
def clockAsksWrong : ChangeSpec := { name := "clockAsks", fn := fun _ => fun
  | [d1, d2] => { results := [.lit (.bool false)], args := [d1, d2] }
  | _ => none }
def ClockAsksWrongFalsely : Prop := clockAsksRow.holds Try.pinned (OpenSpec.ofChange clockAsksWrong)

/-- 'dragomanlaw06.ClockPlays': WHATEVER THE INPUT: true; the input reads as it did. -/
def clockPlaysSpec : ChangeSpec := { name := "clockPlays", fn := fun _ => fun
  | [d1, d2] => { results := [.lit (.bool true)], args := [d1, d2] }
  | _ => none }
def clockPlaysRow : OpenClaim := { program := "ytehhgmfedaebcaa", sum := "48be39cc4f73df43c34f91d35211f9b551cec48b330b96f8ceed33b3f660a3b8", func := "dragoman/dragomanlaw06.ClockPlays", spec := "clockPlays", apart := false }
def ClockPlaysSaid : Prop := clockPlaysRow.holds Try.pinned (OpenSpec.ofChange clockPlaysSpec)

/-- ITS FALSE NEIGHBOUR: 'it returns false'. Refute it at one input. -/
def clockPlaysWrong : ChangeSpec := { name := "clockPlays", fn := fun _ => fun
  | [d1, d2] => { results := [.lit (.bool false)], args := [d1, d2] }
  | _ => none }
def ClockPlaysWrongFalsely : Prop := clockPlaysRow.holds Try.pinned (OpenSpec.ofChange clockPlaysWrong)

/-- 'dragomanlaw06.ClockSplits': WHATEVER THE INPUT: true; the input reads as it did. -/
def clockSplitsSpec : ChangeSpec := { name := "clockSplits", fn := fun _ => fun
  | [d1, d2, d3, d4] => { results := [.lit (.bool true)], args := [d1, d2, d3, d4] }
  | _ => none }
def clockSplitsRow : OpenClaim := { program := "ytehhgmfedaebcaa", sum := "48be39cc4f73df43c34f91d35211f9b551cec48b330b96f8ceed33b3f660a3b8", func := "dragoman/dragomanlaw06.ClockSplits", spec := "clockSplits", apart := false }
def ClockSplitsSaid : Prop := clockSplitsRow.holds Try.pinned (OpenSpec.ofChange clockSplitsSpec)

/-- ITS FALSE NEIGHBOUR: 'it returns false'. Refute it at one input. -/
def clockSplitsWrong : ChangeSpec := { name := "clockSplits", fn := fun _ => fun
  | [d1, d2, d3, d4] => { results := [.lit (.bool false)], args := [d1, d2, d3, d4] }
  | _ => none }
def ClockSplitsWrongFalsely : Prop := clockSplitsRow.holds Try.pinned (OpenSpec.ofChange clockSplitsWrong)

/-- 'dragomanlaw06.ClockNone': WHATEVER THE INPUT: true; the input reads as it did. -/
def clockNoneSpec : ChangeSpec := { name := "clockNone", fn := fun _ => fun
  | [d] => { results := [.lit (.bool true)], args := [d] }
  | _ => none }
def clockNoneRow : OpenClaim := { program := "ytehhgmfedaebcaa", sum := "48be39cc4f73df43c34f91d35211f9b551cec48b330b96f8ceed33b3f660a3b8", func := "dragoman/dragomanlaw06.ClockNone", spec := "clockNone", apart := false }
def ClockNoneSaid : Prop := clockNoneRow.holds Try.pinned (OpenSpec.ofChange clockNoneSpec)

/-- ITS FALSE NEIGHBOUR: 'it returns false'. Refute it at one input. -/
def clockNoneWrong : ChangeSpec := { name := "clockNone", fn := fun _ => fun
  | [d] => { results := [.lit (.bool false)], args := [d] }
  | _ => none }
def ClockNoneWrongFalsely : Prop := clockNoneRow.holds Try.pinned (OpenSpec.ofChange clockNoneWrong)

/-- 'dragomanlaw06.ClockBounds': WHATEVER THE INPUT: true; the input reads as it did. -/
def clockBoundsSpec : ChangeSpec := { name := "clockBounds", fn := fun _ => fun
  | [d1, d2, d3] => { results := [.lit (.bool true)], args := [d1, d2, d3] }
  | _ => none }
def clockBoundsRow : OpenClaim := { program := "ytehhgmfedaebcaa", sum := "48be39cc4f73df43c34f91d35211f9b551cec48b330b96f8ceed33b3f660a3b8", func := "dragoman/dragomanlaw06.ClockBounds", spec := "clockBounds", apart := false }
def ClockBoundsSaid : Prop := clockBoundsRow.holds Try.pinned (OpenSpec.ofChange clockBoundsSpec)

/-- ITS FALSE NEIGHBOUR: 'it returns false'. Refute it at one input. -/
def clockBoundsWrong : ChangeSpec := { name := "clockBounds", fn := fun _ => fun
  | [d1, d2, d3] => { results := [.lit (.bool false)], args := [d1, d2, d3] }
  | _ => none }
def ClockBoundsWrongFalsely : Prop := clockBoundsRow.holds Try.pinned (OpenSpec.ofChange clockBoundsWrong)

/-- 'dragomanlaw06.ClockLimits': WHATEVER THE INPUT: true; the input reads as it did. -/
def clockLimitsSpec : ChangeSpec := { name := "clockLimits", fn := fun _ => fun
  | [] => { results := [.lit (.bool true)], args := [] }
  | _ => none }
def clockLimitsRow : OpenClaim := { program := "ytehhgmfedaebcaa", sum := "48be39cc4f73df43c34f91d35211f9b551cec48b330b96f8ceed33b3f660a3b8", func := "dragoman/dragomanlaw06.ClockLimits", spec := "clockLimits", apart := false }
def ClockLimitsSaid : Prop := clockLimitsRow.holds Try.pinned (OpenSpec.ofChange clockLimitsSpec)

/-- ITS FALSE NEIGHBOUR: 'it returns false'. Refute it at one input. -/
def clockLimitsWrong : ChangeSpec := { name := "clockLimits", fn := fun _ => fun
  | [] => { results := [.lit (.bool false)], args := [] }
  | _ => none }
def ClockLimitsWrongFalsely : Prop := clockLimitsRow.holds Try.pinned (OpenSpec.ofChange clockLimitsWrong)

/- THE SECOND FORM. 'bulk': how many values and letters a reading holds, each counted each time it is reached (what is shared counts as often as it is met; a slice's spare places count too). A statement '..UptoSaid' is the law's where the arguments, and the package variables that the reading takes, are together of bulk at most 1048576: NARROWER than '..Said'. Prove '..Said' where nothing that the law and all that it calls make is longer than what came in: it says more and counts as full. Else prove '..UptoSaid'. A law counts once. -/
mutual
def uptoBulk {H : Type} : DataW H → Nat
  | .lit (.string bytes) => bytes.length + 1
  | .lit _ => 1
  | .nil => 1
  | .ptr d => uptoBulk d + 1
  | .slice elems spare => uptoBulkAll elems + uptoBulkAll spare + 1
  | .agg parts => uptoBulkAll parts + 1
  | .iface _ d => uptoBulk d + 1
  | .map entries => uptoBulkEntries entries + 1
  | .held _ => 1
def uptoBulkAll {H : Type} : List (DataW H) → Nat
  | [] => 0
  | d :: r => uptoBulk d + uptoBulkAll r
def uptoBulkEntries {H : Type} : List (Lit × DataW H) → Nat
  | [] => 0
  | x :: r => uptoBulkEntry x + uptoBulkEntries r
def uptoBulkEntry {H : Type} : Lit × DataW H → Nat
  | (.string bytes, d) => bytes.length + uptoBulk d + 1
  | (_, d) => uptoBulk d + 1
 end
def uptoSmall : (H : Type) → List (DataW H) → Bool := fun _ ds => decide (uptoBulkAll ds ≤ 1048576)
def OpenSpec.upto (s : _root_.Go.ChangeSpec) : _root_.Go.OpenSpec := { _root_.Go.OpenSpec.ofChange s with cond := some uptoSmall }

/-- 'dragomanlaw20.LeaseSpans', WHERE WHAT IT READS IS OF BULK AT MOST 1048576: true; the input reads as it did. -/
def leaseSpansUptoRow : OpenClaim := { program := "ytehhgmfedaebcaa", sum := "48be39cc4f73df43c34f91d35211f9b551cec48b330b96f8ceed33b3f660a3b8", func := "dragoman/dragomanlaw20.LeaseSpans", spec := "leaseSpans", apart := false, narrowed := true }
def LeaseSpansUptoSaid : Prop := leaseSpansUptoRow.holds Try.pinned (OpenSpec.upto leaseSpansSpec)

/-- 'dragomanlaw20.LeaseRises', WHERE WHAT IT READS IS OF BULK AT MOST 1048576: true; the input reads as it did. -/
def leaseRisesUptoRow : OpenClaim := { program := "ytehhgmfedaebcaa", sum := "48be39cc4f73df43c34f91d35211f9b551cec48b330b96f8ceed33b3f660a3b8", func := "dragoman/dragomanlaw20.LeaseRises", spec := "leaseRises", apart := false, narrowed := true }
def LeaseRisesUptoSaid : Prop := leaseRisesUptoRow.holds Try.pinned (OpenSpec.upto leaseRisesSpec)

/-- 'dragomanlaw20.LeaseKnown', WHERE WHAT IT READS IS OF BULK AT MOST 1048576: true; the input reads as it did. -/
def leaseKnownUptoRow : OpenClaim := { program := "ytehhgmfedaebcaa", sum := "48be39cc4f73df43c34f91d35211f9b551cec48b330b96f8ceed33b3f660a3b8", func := "dragoman/dragomanlaw20.LeaseKnown", spec := "leaseKnown", apart := false, narrowed := true }
def LeaseKnownUptoSaid : Prop := leaseKnownUptoRow.holds Try.pinned (OpenSpec.upto leaseKnownSpec)

/-- 'dragomanlaw20.LeaseHolds', WHERE WHAT IT READS IS OF BULK AT MOST 1048576: true; the input reads as it did. -/
def leaseHoldsUptoRow : OpenClaim := { program := "ytehhgmfedaebcaa", sum := "48be39cc4f73df43c34f91d35211f9b551cec48b330b96f8ceed33b3f660a3b8", func := "dragoman/dragomanlaw20.LeaseHolds", spec := "leaseHolds", apart := false, narrowed := true }
def LeaseHoldsUptoSaid : Prop := leaseHoldsUptoRow.holds Try.pinned (OpenSpec.upto leaseHoldsSpec)

/-- 'dragomanlaw20.LeaseApart', WHERE WHAT IT READS IS OF BULK AT MOST 1048576: true; the input reads as it did. -/
def leaseApartUptoRow : OpenClaim := { program := "ytehhgmfedaebcaa", sum := "48be39cc4f73df43c34f91d35211f9b551cec48b330b96f8ceed33b3f660a3b8", func := "dragoman/dragomanlaw20.LeaseApart", spec := "leaseApart", apart := false, narrowed := true }
def LeaseApartUptoSaid : Prop := leaseApartUptoRow.holds Try.pinned (OpenSpec.upto leaseApartSpec)

/-- 'dragomanlaw06.ClockAsks', WHERE WHAT IT READS IS OF BULK AT MOST 1048576: true; the input reads as it did. -/
def clockAsksUptoRow : OpenClaim := { program := "ytehhgmfedaebcaa", sum := "48be39cc4f73df43c34f91d35211f9b551cec48b330b96f8ceed33b3f660a3b8", func := "dragoman/dragomanlaw06.ClockAsks", spec := "clockAsks", apart := false, narrowed := true }
def ClockAsksUptoSaid : Prop := clockAsksUptoRow.holds Try.pinned (OpenSpec.upto clockAsksSpec)

/-- 'dragomanlaw06.ClockPlays', WHERE WHAT IT READS IS OF BULK AT MOST 1048576: true; the input reads as it did. -/
def clockPlaysUptoRow : OpenClaim := { program := "ytehhgmfedaebcaa", sum := "48be39cc4f73df43c34f91d35211f9b551cec48b330b96f8ceed33b3f660a3b8", func := "dragoman/dragomanlaw06.ClockPlays", spec := "clockPlays", apart := false, narrowed := true }
def ClockPlaysUptoSaid : Prop := clockPlaysUptoRow.holds Try.pinned (OpenSpec.upto clockPlaysSpec)

/-- 'dragomanlaw06.ClockSplits', WHERE WHAT IT READS IS OF BULK AT MOST 1048576: true; the input reads as it did. -/
def clockSplitsUptoRow : OpenClaim := { program := "ytehhgmfedaebcaa", sum := "48be39cc4f73df43c34f91d35211f9b551cec48b330b96f8ceed33b3f660a3b8", func := "dragoman/dragomanlaw06.ClockSplits", spec := "clockSplits", apart := false, narrowed := true }
def ClockSplitsUptoSaid : Prop := clockSplitsUptoRow.holds Try.pinned (OpenSpec.upto clockSplitsSpec)

/-- 'dragomanlaw06.ClockNone', WHERE WHAT IT READS IS OF BULK AT MOST 1048576: true; the input reads as it did. -/
def clockNoneUptoRow : OpenClaim := { program := "ytehhgmfedaebcaa", sum := "48be39cc4f73df43c34f91d35211f9b551cec48b330b96f8ceed33b3f660a3b8", func := "dragoman/dragomanlaw06.ClockNone", spec := "clockNone", apart := false, narrowed := true }
def ClockNoneUptoSaid : Prop := clockNoneUptoRow.holds Try.pinned (OpenSpec.upto clockNoneSpec)

/-- 'dragomanlaw06.ClockBounds', WHERE WHAT IT READS IS OF BULK AT MOST 1048576: true; the input reads as it did. -/
def clockBoundsUptoRow : OpenClaim := { program := "ytehhgmfedaebcaa", sum := "48be39cc4f73df43c34f91d35211f9b551cec48b330b96f8ceed33b3f660a3b8", func := "dragoman/dragomanlaw06.ClockBounds", spec := "clockBounds", apart := false, narrowed := true }
def ClockBoundsUptoSaid : Prop := clockBoundsUptoRow.holds Try.pinned (OpenSpec.upto clockBoundsSpec)

/-- 'dragomanlaw06.ClockLimits', WHERE WHAT IT READS IS OF BULK AT MOST 1048576: true; the input reads as it did. -/
def clockLimitsUptoRow : OpenClaim := { program := "ytehhgmfedaebcaa", sum := "48be39cc4f73df43c34f91d35211f9b551cec48b330b96f8ceed33b3f660a3b8", func := "dragoman/dragomanlaw06.ClockLimits", spec := "clockLimits", apart := false, narrowed := true }
def ClockLimitsUptoSaid : Prop := clockLimitsUptoRow.holds Try.pinned (OpenSpec.upto clockLimitsSpec)

end Rows
end Go.Proofs.Ytehhgmfedaebcaa
