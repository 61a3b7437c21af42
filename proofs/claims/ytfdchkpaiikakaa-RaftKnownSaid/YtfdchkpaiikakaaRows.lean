/-
  No cell of these rows narrows 'for every input' (looked for: loops, veiled, ifaces, maps, wideKeys, modest, calm, conditions, laid).
  DERIVED. THE GIVEN ROWS OF THIS SEAT. 4 by the template 'for every input the law returns true; each argument reads behind the call as it read before'; 0 by the template 'total and deterministic' (their statements: YtfdchkpaiikakaaTotals.lean).
  GIVEN WITH THE SEED: the statements are not yours to turn. If you find one false, say at which input.
  Laid BY PROGRAM, IN A SANDBOX (cutbox-rows.mjs): the forced cells as the released guide's own fill.sh prints them over the translation 17131b18e3476454… (all of the seat's roots in one cut). By AI agents, Wed Nov 11 2026. No macro, syntax, notation, axiom, sorry.
-/
import Derived.Test.YtfdchkpaiikakaaChecked
import GoSem.Claim
import GoSem.ClaimJoined
import GoSem.ClaimMapViews
import Derived.JoinedTies
import Derived.KernelRfl
namespace Go.Proofs.Ytfdchkpaiikakaa
/- THE CELL 'sum', in the pinned program and in every row, IS THE sha256 OF THE DUMP (.gsa) THAT YtfdchkpaiikakaaProg.lean LOADS. Nothing in Lean hashes anything: it is a label: what it is worth is what the hold of that sum in a sandbox is worth. -/
noncomputable def Try.pinned : Pinned := { name := "ytfdchkpaiikakaa", sum := "17131b18e3476454d8b1955ab271ad352b969247c1c97c6bf9adffb6e09aaf3c", checked := Try.checked }
namespace Rows
def none {H : Type} : Left H := { results := [], args := [] }

/-- 'dragomanlaw18.RaftSafe': WHATEVER THE INPUT: true; the input reads as it did. -/
def raftSafeSpec : ChangeSpec := { name := "raftSafe", fn := fun _ => fun
  | [d] => { results := [.lit (.bool true)], args := [d] }
  | _ => none }
def raftSafeRow : OpenClaim := { program := "ytfdchkpaiikakaa", sum := "17131b18e3476454d8b1955ab271ad352b969247c1c97c6bf9adffb6e09aaf3c", func := "dragoman/dragomanlaw18.RaftSafe", spec := "raftSafe", apart := false }
def RaftSafeSaid : Prop := raftSafeRow.holds Try.pinned (OpenSpec.ofChange raftSafeSpec)

/-- ITS FALSE NEIGHBOUR: 'it returns false'. Refute it at one input. -/
def raftSafeWrong : ChangeSpec := { name := "raftSafe", fn := fun _ => fun
  | [d] => { results := [.lit (.bool false)], args := [d] }
  | _ => none }
def RaftSafeWrongFalsely : Prop := raftSafeRow.holds Try.pinned (OpenSpec.ofChange raftSafeWrong)

/-- 'dragomanlaw18.RaftElects': WHATEVER THE INPUT: true; the input reads as it did. -/
def raftElectsSpec : ChangeSpec := { name := "raftElects", fn := fun _ => fun
  | [d] => { results := [.lit (.bool true)], args := [d] }
  | _ => none }
def raftElectsRow : OpenClaim := { program := "ytfdchkpaiikakaa", sum := "17131b18e3476454d8b1955ab271ad352b969247c1c97c6bf9adffb6e09aaf3c", func := "dragoman/dragomanlaw18.RaftElects", spec := "raftElects", apart := false }
def RaftElectsSaid : Prop := raftElectsRow.holds Try.pinned (OpenSpec.ofChange raftElectsSpec)

/-- ITS FALSE NEIGHBOUR: 'it returns false'. Refute it at one input. -/
def raftElectsWrong : ChangeSpec := { name := "raftElects", fn := fun _ => fun
  | [d] => { results := [.lit (.bool false)], args := [d] }
  | _ => none }
def RaftElectsWrongFalsely : Prop := raftElectsRow.holds Try.pinned (OpenSpec.ofChange raftElectsWrong)

/-- 'dragomanlaw18.RaftKnown': WHATEVER THE INPUT: true; the input reads as it did. -/
def raftKnownSpec : ChangeSpec := { name := "raftKnown", fn := fun _ => fun
  | [] => { results := [.lit (.bool true)], args := [] }
  | _ => none }
def raftKnownRow : OpenClaim := { program := "ytfdchkpaiikakaa", sum := "17131b18e3476454d8b1955ab271ad352b969247c1c97c6bf9adffb6e09aaf3c", func := "dragoman/dragomanlaw18.RaftKnown", spec := "raftKnown", apart := false }
def RaftKnownSaid : Prop := raftKnownRow.holds Try.pinned (OpenSpec.ofChange raftKnownSpec)

/-- ITS FALSE NEIGHBOUR: 'it returns false'. Refute it at one input. -/
def raftKnownWrong : ChangeSpec := { name := "raftKnown", fn := fun _ => fun
  | [] => { results := [.lit (.bool false)], args := [] }
  | _ => none }
def RaftKnownWrongFalsely : Prop := raftKnownRow.holds Try.pinned (OpenSpec.ofChange raftKnownWrong)

/-- 'dragomanlaw18.RaftPlays': WHATEVER THE INPUT: true; the input reads as it did. -/
def raftPlaysSpec : ChangeSpec := { name := "raftPlays", fn := fun _ => fun
  | [d1, d2] => { results := [.lit (.bool true)], args := [d1, d2] }
  | _ => none }
def raftPlaysRow : OpenClaim := { program := "ytfdchkpaiikakaa", sum := "17131b18e3476454d8b1955ab271ad352b969247c1c97c6bf9adffb6e09aaf3c", func := "dragoman/dragomanlaw18.RaftPlays", spec := "raftPlays", apart := false }
def RaftPlaysSaid : Prop := raftPlaysRow.holds Try.pinned (OpenSpec.ofChange raftPlaysSpec)

/-- ITS FALSE NEIGHBOUR: 'it returns false'. Refute it at one input. -/
def raftPlaysWrong : ChangeSpec := { name := "raftPlays", fn := fun _ => fun
  | [d1, d2] => { results := [.lit (.bool false)], args := [d1, d2] }
  | _ => none }
def RaftPlaysWrongFalsely : Prop := raftPlaysRow.holds Try.pinned (OpenSpec.ofChange raftPlaysWrong)

/- THE SECOND FORM. 'bulk': how many values and letters a reading holds, each counted each time it is reached (what is shared counts as often as it is met; a slice's spare places count too). A statement '..UptoSaid' is the law's where the arguments, and the package variables that the reading takes, are together of bulk at most 1048576: NARROWER than '..Said'. Prove '..Said' where nothing that the law and all that it calls make is longer than what came in: it says more and counts as full. Else prove '..UptoSaid'. A law counts once. -/
mutual
def uptoBulk {H : Type} : DataW H → Nat
  | .lit (.string bytes) => bytes.length + 1
  | .lit _ => 1
  | .nil => 1
  | .ptr d => uptoBulk d + 1
  | .slice elems spare => uptoBulkAll elems + uptoBulkAll spare + 1
  | .agg parts => uptoBulkAll parts + 1
  | .iface _ d => uptoBulk d + 1
  | .map entries => uptoBulkEntries entries + 1
  | .held _ => 1
def uptoBulkAll {H : Type} : List (DataW H) → Nat
  | [] => 0
  | d :: r => uptoBulk d + uptoBulkAll r
def uptoBulkEntries {H : Type} : List (Lit × DataW H) → Nat
  | [] => 0
  | x :: r => uptoBulkEntry x + uptoBulkEntries r
def uptoBulkEntry {H : Type} : Lit × DataW H → Nat
  | (.string bytes, d) => bytes.length + uptoBulk d + 1
  | (_, d) => uptoBulk d + 1
 end
def uptoSmall : (H : Type) → List (DataW H) → Bool := fun _ ds => decide (uptoBulkAll ds ≤ 1048576)
def OpenSpec.upto (s : _root_.Go.ChangeSpec) : _root_.Go.OpenSpec := { _root_.Go.OpenSpec.ofChange s with cond := some uptoSmall }

/-- 'dragomanlaw18.RaftSafe', WHERE WHAT IT READS IS OF BULK AT MOST 1048576: true; the input reads as it did. -/
def raftSafeUptoRow : OpenClaim := { program := "ytfdchkpaiikakaa", sum := "17131b18e3476454d8b1955ab271ad352b969247c1c97c6bf9adffb6e09aaf3c", func := "dragoman/dragomanlaw18.RaftSafe", spec := "raftSafe", apart := false, narrowed := true }
def RaftSafeUptoSaid : Prop := raftSafeUptoRow.holds Try.pinned (OpenSpec.upto raftSafeSpec)

/-- 'dragomanlaw18.RaftElects', WHERE WHAT IT READS IS OF BULK AT MOST 1048576: true; the input reads as it did. -/
def raftElectsUptoRow : OpenClaim := { program := "ytfdchkpaiikakaa", sum := "17131b18e3476454d8b1955ab271ad352b969247c1c97c6bf9adffb6e09aaf3c", func := "dragoman/dragomanlaw18.RaftElects", spec := "raftElects", apart := false, narrowed := true }
def RaftElectsUptoSaid : Prop := raftElectsUptoRow.holds Try.pinned (OpenSpec.upto raftElectsSpec)

/-- 'dragomanlaw18.RaftKnown', WHERE WHAT IT READS IS OF BULK AT MOST 1048576: true; the input reads as it did. -/
def raftKnownUptoRow : OpenClaim := { program := "ytfdchkpaiikakaa", sum := "17131b18e3476454d8b1955ab271ad352b969247c1c97c6bf9adffb6e09aaf3c", func := "dragoman/dragomanlaw18.RaftKnown", spec := "raftKnown", apart := false, narrowed := true }
def RaftKnownUptoSaid : Prop := raftKnownUptoRow.holds Try.pinned (OpenSpec.upto raftKnownSpec)

/-- 'dragomanlaw18.RaftPlays', WHERE WHAT IT READS IS OF BULK AT MOST 1048576: true; the input reads as it did. -/
def raftPlaysUptoRow : OpenClaim := { program := "ytfdchkpaiikakaa", sum := "17131b18e3476454d8b1955ab271ad352b969247c1c97c6bf9adffb6e09aaf3c", func := "dragoman/dragomanlaw18.RaftPlays", spec := "raftPlays", apart := false, narrowed := true }
def RaftPlaysUptoSaid : Prop := raftPlaysUptoRow.holds Try.pinned (OpenSpec.upto raftPlaysSpec)

end Rows
end Go.Proofs.Ytfdchkpaiikakaa
