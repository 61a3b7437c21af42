/-
  No cell of these rows narrows 'for every input' (looked for: loops, veiled, ifaces, maps, wideKeys, modest, calm, conditions, laid).
  DERIVED. THE GIVEN ROWS OF THIS SEAT. 5 by the template 'for every input the law returns true; each argument reads behind the call as it read before'; 0 by the template 'total and deterministic' (their statements: YtjcobnjnjliehaaTotals.lean).
  GIVEN WITH THE SEED: the statements are not yours to turn. If you find one false, say at which input.
  Laid BY PROGRAM, IN A SANDBOX (cutbox-rows.mjs): the forced cells as the released guide's own fill.sh prints them over the translation 9273d91ff2d80a2e… (all of the seat's roots in one cut). By AI agents, Wed Nov 11 2026. No macro, syntax, notation, axiom, sorry.
-/
import Derived.Test.YtjcobnjnjliehaaChecked
import GoSem.Claim
import GoSem.ClaimJoined
import GoSem.ClaimMapViews
import Derived.JoinedTies
import Derived.KernelRfl
namespace Go.Proofs.Ytjcobnjnjliehaa
/- THE CELL 'sum', in the pinned program and in every row, IS THE sha256 OF THE DUMP (.gsa) THAT YtjcobnjnjliehaaProg.lean LOADS. Nothing in Lean hashes anything: it is a label: what it is worth is what the hold of that sum in a sandbox is worth. -/
noncomputable def Try.pinned : Pinned := { name := "ytjcobnjnjliehaa", sum := "9273d91ff2d80a2eae029125bb7c43b0e00a4323511822e81492e7868304bde5", checked := Try.checked }
namespace Rows
def none {H : Type} : Left H := { results := [], args := [] }

/-- 'dragomanlaw19.SnapPieces': WHATEVER THE INPUT: true; the input reads as it did. -/
def snapPiecesSpec : ChangeSpec := { name := "snapPieces", fn := fun _ => fun
  | [d1, d2, d3] => { results := [.lit (.bool true)], args := [d1, d2, d3] }
  | _ => none }
def snapPiecesRow : OpenClaim := { program := "ytjcobnjnjliehaa", sum := "9273d91ff2d80a2eae029125bb7c43b0e00a4323511822e81492e7868304bde5", func := "dragoman/dragomanlaw19.SnapPieces", spec := "snapPieces", unfollowed := true, recurses := true, apart := false }
def SnapPiecesSaid : Prop := snapPiecesRow.holds Try.pinned (OpenSpec.ofChange snapPiecesSpec)

/-- ITS FALSE NEIGHBOUR: 'it returns false'. Refute it at one input. -/
def snapPiecesWrong : ChangeSpec := { name := "snapPieces", fn := fun _ => fun
  | [d1, d2, d3] => { results := [.lit (.bool false)], args := [d1, d2, d3] }
  | _ => none }
def SnapPiecesWrongFalsely : Prop := snapPiecesRow.holds Try.pinned (OpenSpec.ofChange snapPiecesWrong)

/-- 'dragomanlaw19.SnapComes': WHATEVER THE INPUT: true; the input reads as it did. -/
def snapComesSpec : ChangeSpec := { name := "snapComes", fn := fun _ => fun
  | [d1, d2, d3] => { results := [.lit (.bool true)], args := [d1, d2, d3] }
  | _ => none }
def snapComesRow : OpenClaim := { program := "ytjcobnjnjliehaa", sum := "9273d91ff2d80a2eae029125bb7c43b0e00a4323511822e81492e7868304bde5", func := "dragoman/dragomanlaw19.SnapComes", spec := "snapComes", unfollowed := true, recurses := true, apart := false }
def SnapComesSaid : Prop := snapComesRow.holds Try.pinned (OpenSpec.ofChange snapComesSpec)

/-- ITS FALSE NEIGHBOUR: 'it returns false'. Refute it at one input. -/
def snapComesWrong : ChangeSpec := { name := "snapComes", fn := fun _ => fun
  | [d1, d2, d3] => { results := [.lit (.bool false)], args := [d1, d2, d3] }
  | _ => none }
def SnapComesWrongFalsely : Prop := snapComesRow.holds Try.pinned (OpenSpec.ofChange snapComesWrong)

/-- 'dragomanlaw19.SnapKept': WHATEVER THE INPUT: true; the input reads as it did. -/
def snapKeptSpec : ChangeSpec := { name := "snapKept", fn := fun _ => fun
  | [d1, d2, d3, d4] => { results := [.lit (.bool true)], args := [d1, d2, d3, d4] }
  | _ => none }
def snapKeptRow : OpenClaim := { program := "ytjcobnjnjliehaa", sum := "9273d91ff2d80a2eae029125bb7c43b0e00a4323511822e81492e7868304bde5", func := "dragoman/dragomanlaw19.SnapKept", spec := "snapKept", unfollowed := true, recurses := true, apart := false }
def SnapKeptSaid : Prop := snapKeptRow.holds Try.pinned (OpenSpec.ofChange snapKeptSpec)

/-- ITS FALSE NEIGHBOUR: 'it returns false'. Refute it at one input. -/
def snapKeptWrong : ChangeSpec := { name := "snapKept", fn := fun _ => fun
  | [d1, d2, d3, d4] => { results := [.lit (.bool false)], args := [d1, d2, d3, d4] }
  | _ => none }
def SnapKeptWrongFalsely : Prop := snapKeptRow.holds Try.pinned (OpenSpec.ofChange snapKeptWrong)

/-- 'dragomanlaw19.SnapPlays': WHATEVER THE INPUT: true; the input reads as it did. -/
def snapPlaysSpec : ChangeSpec := { name := "snapPlays", fn := fun _ => fun
  | [d] => { results := [.lit (.bool true)], args := [d] }
  | _ => none }
def snapPlaysRow : OpenClaim := { program := "ytjcobnjnjliehaa", sum := "9273d91ff2d80a2eae029125bb7c43b0e00a4323511822e81492e7868304bde5", func := "dragoman/dragomanlaw19.SnapPlays", spec := "snapPlays", unfollowed := true, recurses := true, apart := false }
def SnapPlaysSaid : Prop := snapPlaysRow.holds Try.pinned (OpenSpec.ofChange snapPlaysSpec)

/-- ITS FALSE NEIGHBOUR: 'it returns false'. Refute it at one input. -/
def snapPlaysWrong : ChangeSpec := { name := "snapPlays", fn := fun _ => fun
  | [d] => { results := [.lit (.bool false)], args := [d] }
  | _ => none }
def SnapPlaysWrongFalsely : Prop := snapPlaysRow.holds Try.pinned (OpenSpec.ofChange snapPlaysWrong)

/-- 'dragomanlaw19.SnapKnown': WHATEVER THE INPUT: true; the input reads as it did. -/
def snapKnownSpec : ChangeSpec := { name := "snapKnown", fn := fun _ => fun
  | [] => { results := [.lit (.bool true)], args := [] }
  | _ => none }
def snapKnownRow : OpenClaim := { program := "ytjcobnjnjliehaa", sum := "9273d91ff2d80a2eae029125bb7c43b0e00a4323511822e81492e7868304bde5", func := "dragoman/dragomanlaw19.SnapKnown", spec := "snapKnown", inPlace := ["internal/abi.NoEscape", "internal/bytealg.MakeNoZero"], unfollowed := true, recurses := true, apart := false }
def SnapKnownSaid : Prop := snapKnownRow.holds Try.pinned (OpenSpec.ofChange snapKnownSpec)

/-- ITS FALSE NEIGHBOUR: 'it returns false'. Refute it at one input. -/
def snapKnownWrong : ChangeSpec := { name := "snapKnown", fn := fun _ => fun
  | [] => { results := [.lit (.bool false)], args := [] }
  | _ => none }
def SnapKnownWrongFalsely : Prop := snapKnownRow.holds Try.pinned (OpenSpec.ofChange snapKnownWrong)

/- THE SECOND FORM. 'bulk': how many values and letters a reading holds, each counted each time it is reached (what is shared counts as often as it is met; a slice's spare places count too). A statement '..UptoSaid' is the law's where the arguments, and the package variables that the reading takes, are together of bulk at most 1048576: NARROWER than '..Said'. Prove '..Said' where nothing that the law and all that it calls make is longer than what came in: it says more and counts as full. Else prove '..UptoSaid'. A law counts once. -/
mutual
def uptoBulk {H : Type} : DataW H → Nat
  | .lit (.string bytes) => bytes.length + 1
  | .lit _ => 1
  | .nil => 1
  | .ptr d => uptoBulk d + 1
  | .slice elems spare => uptoBulkAll elems + uptoBulkAll spare + 1
  | .agg parts => uptoBulkAll parts + 1
  | .iface _ d => uptoBulk d + 1
  | .map entries => uptoBulkEntries entries + 1
  | .held _ => 1
def uptoBulkAll {H : Type} : List (DataW H) → Nat
  | [] => 0
  | d :: r => uptoBulk d + uptoBulkAll r
def uptoBulkEntries {H : Type} : List (Lit × DataW H) → Nat
  | [] => 0
  | x :: r => uptoBulkEntry x + uptoBulkEntries r
def uptoBulkEntry {H : Type} : Lit × DataW H → Nat
  | (.string bytes, d) => bytes.length + uptoBulk d + 1
  | (_, d) => uptoBulk d + 1
 end
def uptoSmall : (H : Type) → List (DataW H) → Bool := fun _ ds => decide (uptoBulkAll ds ≤ 1048576)
def OpenSpec.upto (s : _root_.Go.ChangeSpec) : _root_.Go.OpenSpec := { _root_.Go.OpenSpec.ofChange s with cond := some uptoSmall }

/-- 'dragomanlaw19.SnapPieces', WHERE WHAT IT READS IS OF BULK AT MOST 1048576: true; the input reads as it did. -/
def snapPiecesUptoRow : OpenClaim := { program := "ytjcobnjnjliehaa", sum := "9273d91ff2d80a2eae029125bb7c43b0e00a4323511822e81492e7868304bde5", func := "dragoman/dragomanlaw19.SnapPieces", spec := "snapPieces", unfollowed := true, recurses := true, apart := false, narrowed := true }
def SnapPiecesUptoSaid : Prop := snapPiecesUptoRow.holds Try.pinned (OpenSpec.upto snapPiecesSpec)

/-- 'dragomanlaw19.SnapComes', WHERE WHAT IT READS IS OF BULK AT MOST 1048576: true; the input reads as it did. -/
def snapComesUptoRow : OpenClaim := { program := "ytjcobnjnjliehaa", sum := "9273d91ff2d80a2eae029125bb7c43b0e00a4323511822e81492e7868304bde5", func := "dragoman/dragomanlaw19.SnapComes", spec := "snapComes", unfollowed := true, recurses := true, apart := false, narrowed := true }
def SnapComesUptoSaid : Prop := snapComesUptoRow.holds Try.pinned (OpenSpec.upto snapComesSpec)

/-- 'dragomanlaw19.SnapKept', WHERE WHAT IT READS IS OF BULK AT MOST 1048576: true; the input reads as it did. -/
def snapKeptUptoRow : OpenClaim := { program := "ytjcobnjnjliehaa", sum := "9273d91ff2d80a2eae029125bb7c43b0e00a4323511822e81492e7868304bde5", func := "dragoman/dragomanlaw19.SnapKept", spec := "snapKept", unfollowed := true, recurses := true, apart := false, narrowed := true }
def SnapKeptUptoSaid : Prop := snapKeptUptoRow.holds Try.pinned (OpenSpec.upto snapKeptSpec)

/-- 'dragomanlaw19.SnapPlays', WHERE WHAT IT READS IS OF BULK AT MOST 1048576: true; the input reads as it did. -/
def snapPlaysUptoRow : OpenClaim := { program := "ytjcobnjnjliehaa", sum := "9273d91ff2d80a2eae029125bb7c43b0e00a4323511822e81492e7868304bde5", func := "dragoman/dragomanlaw19.SnapPlays", spec := "snapPlays", unfollowed := true, recurses := true, apart := false, narrowed := true }
def SnapPlaysUptoSaid : Prop := snapPlaysUptoRow.holds Try.pinned (OpenSpec.upto snapPlaysSpec)

/-- 'dragomanlaw19.SnapKnown', WHERE WHAT IT READS IS OF BULK AT MOST 1048576: true; the input reads as it did. -/
def snapKnownUptoRow : OpenClaim := { program := "ytjcobnjnjliehaa", sum := "9273d91ff2d80a2eae029125bb7c43b0e00a4323511822e81492e7868304bde5", func := "dragoman/dragomanlaw19.SnapKnown", spec := "snapKnown", inPlace := ["internal/abi.NoEscape", "internal/bytealg.MakeNoZero"], unfollowed := true, recurses := true, apart := false, narrowed := true }
def SnapKnownUptoSaid : Prop := snapKnownUptoRow.holds Try.pinned (OpenSpec.upto snapKnownSpec)

end Rows
end Go.Proofs.Ytjcobnjnjliehaa
