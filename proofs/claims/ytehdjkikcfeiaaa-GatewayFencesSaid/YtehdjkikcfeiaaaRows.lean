/-
  No cell of these rows narrows 'for every input' (looked for: loops, veiled, ifaces, maps, wideKeys, modest, calm, conditions, laid).
  DERIVED. THE GIVEN ROWS OF THIS SEAT. 2 by the template 'for every input the law returns true; each argument reads behind the call as it read before'; 0 by the template 'total and deterministic' (their statements: YtehdjkikcfeiaaaTotals.lean).
  GIVEN WITH THE SEED: the statements are not yours to turn. If you find one false, say at which input.
  Laid BY PROGRAM, IN A SANDBOX (cutbox-rows.mjs): the forced cells as the released guide's own fill.sh prints them over the translation 45ff952e930c6b49… (all of the seat's roots in one cut). By AI agents, Wed Nov 11 2026. No macro, syntax, notation, axiom, sorry.
-/
import Derived.Test.YtehdjkikcfeiaaaChecked
import GoSem.Claim
import GoSem.ClaimJoined
import GoSem.ClaimMapViews
import Derived.JoinedTies
import Derived.KernelRfl
namespace Go.Proofs.Ytehdjkikcfeiaaa
/- THE CELL 'sum', in the pinned program and in every row, IS THE sha256 OF THE DUMP (.gsa) THAT YtehdjkikcfeiaaaProg.lean LOADS. Nothing in Lean hashes anything: it is a label: what it is worth is what the hold of that sum in a sandbox is worth. -/
noncomputable def Try.pinned : Pinned := { name := "ytehdjkikcfeiaaa", sum := "45ff952e930c6b4935dd15a52db5e333d93de8a90f4559bf3e4b73192b2c999a", checked := Try.checked }
namespace Rows
def none {H : Type} : Left H := { results := [], args := [] }

/-- 'dragomanlaw23.GatewayFences': WHATEVER THE INPUT: true; the input reads as it did. -/
def gatewayFencesSpec : ChangeSpec := { name := "gatewayFences", fn := fun _ => fun
  | [d] => { results := [.lit (.bool true)], args := [d] }
  | _ => none }
def gatewayFencesRow : OpenClaim := { program := "ytehdjkikcfeiaaa", sum := "45ff952e930c6b4935dd15a52db5e333d93de8a90f4559bf3e4b73192b2c999a", func := "dragoman/dragomanlaw23.GatewayFences", spec := "gatewayFences", inPlace := ["maps.clone"], unfollowed := true, recurses := true, apart := false }
def GatewayFencesSaid : Prop := gatewayFencesRow.holds Try.pinned (OpenSpec.ofChange gatewayFencesSpec)

/-- ITS FALSE NEIGHBOUR: 'it returns false'. Refute it at one input. -/
def gatewayFencesWrong : ChangeSpec := { name := "gatewayFences", fn := fun _ => fun
  | [d] => { results := [.lit (.bool false)], args := [d] }
  | _ => none }
def GatewayFencesWrongFalsely : Prop := gatewayFencesRow.holds Try.pinned (OpenSpec.ofChange gatewayFencesWrong)

/-- 'dragomanlaw23.GatewayKnown': WHATEVER THE INPUT: true; the input reads as it did. -/
def gatewayKnownSpec : ChangeSpec := { name := "gatewayKnown", fn := fun _ => fun
  | [] => { results := [.lit (.bool true)], args := [] }
  | _ => none }
def gatewayKnownRow : OpenClaim := { program := "ytehdjkikcfeiaaa", sum := "45ff952e930c6b4935dd15a52db5e333d93de8a90f4559bf3e4b73192b2c999a", func := "dragoman/dragomanlaw23.GatewayKnown", spec := "gatewayKnown", inPlace := ["maps.clone"], unfollowed := true, recurses := true, apart := false }
def GatewayKnownSaid : Prop := gatewayKnownRow.holds Try.pinned (OpenSpec.ofChange gatewayKnownSpec)

/-- ITS FALSE NEIGHBOUR: 'it returns false'. Refute it at one input. -/
def gatewayKnownWrong : ChangeSpec := { name := "gatewayKnown", fn := fun _ => fun
  | [] => { results := [.lit (.bool false)], args := [] }
  | _ => none }
def GatewayKnownWrongFalsely : Prop := gatewayKnownRow.holds Try.pinned (OpenSpec.ofChange gatewayKnownWrong)

/- THE SECOND FORM. 'bulk': how many values and letters a reading holds, each counted each time it is reached (what is shared counts as often as it is met; a slice's spare places count too). A statement '..UptoSaid' is the law's where the arguments, and the package variables that the reading takes, are together of bulk at most 1048576: NARROWER than '..Said'. Prove '..Said' where nothing that the law and all that it calls make is longer than what came in: it says more and counts as full. Else prove '..UptoSaid'. A law counts once. -/
mutual
def uptoBulk {H : Type} : DataW H → Nat
  | .lit (.string bytes) => bytes.length + 1
  | .lit _ => 1
  | .nil => 1
  | .ptr d => uptoBulk d + 1
  | .slice elems spare => uptoBulkAll elems + uptoBulkAll spare + 1
  | .agg parts => uptoBulkAll parts + 1
  | .iface _ d => uptoBulk d + 1
  | .map entries => uptoBulkEntries entries + 1
  | .held _ => 1
def uptoBulkAll {H : Type} : List (DataW H) → Nat
  | [] => 0
  | d :: r => uptoBulk d + uptoBulkAll r
def uptoBulkEntries {H : Type} : List (Lit × DataW H) → Nat
  | [] => 0
  | x :: r => uptoBulkEntry x + uptoBulkEntries r
def uptoBulkEntry {H : Type} : Lit × DataW H → Nat
  | (.string bytes, d) => bytes.length + uptoBulk d + 1
  | (_, d) => uptoBulk d + 1
 end
def uptoSmall : (H : Type) → List (DataW H) → Bool := fun _ ds => decide (uptoBulkAll ds ≤ 1048576)
def OpenSpec.upto (s : _root_.Go.ChangeSpec) : _root_.Go.OpenSpec := { _root_.Go.OpenSpec.ofChange s with cond := some uptoSmall }

/-- 'dragomanlaw23.GatewayFences', WHERE WHAT IT READS IS OF BULK AT MOST 1048576: true; the input reads as it did. -/
def gatewayFencesUptoRow : OpenClaim := { program := "ytehdjkikcfeiaaa", sum := "45ff952e930c6b4935dd15a52db5e333d93de8a90f4559bf3e4b73192b2c999a", func := "dragoman/dragomanlaw23.GatewayFences", spec := "gatewayFences", inPlace := ["maps.clone"], unfollowed := true, recurses := true, apart := false, narrowed := true }
def GatewayFencesUptoSaid : Prop := gatewayFencesUptoRow.holds Try.pinned (OpenSpec.upto gatewayFencesSpec)

/-- 'dragomanlaw23.GatewayKnown', WHERE WHAT IT READS IS OF BULK AT MOST 1048576: true; the input reads as it did. -/
def gatewayKnownUptoRow : OpenClaim := { program := "ytehdjkikcfeiaaa", sum := "45ff952e930c6b4935dd15a52db5e333d93de8a90f4559bf3e4b73192b2c999a", func := "dragoman/dragomanlaw23.GatewayKnown", spec := "gatewayKnown", inPlace := ["maps.clone"], unfollowed := true, recurses := true, apart := false, narrowed := true }
def GatewayKnownUptoSaid : Prop := gatewayKnownUptoRow.holds Try.pinned (OpenSpec.upto gatewayKnownSpec)

end Rows
end Go.Proofs.Ytehdjkikcfeiaaa
