/-
  No cell of these rows narrows 'for every input' (looked for: loops, veiled, ifaces, maps, wideKeys, modest, calm, conditions, laid).
  DERIVED. THE GIVEN ROWS OF THIS SEAT. 4 by the template 'for every input the law returns true; each argument reads behind the call as it read before'; 0 by the template 'total and deterministic' (their statements: YtnpmccnjhjckoaaTotals.lean).
  GIVEN WITH THE SEED: the statements are not yours to turn. If you find one false, say at which input.
  Laid BY PROGRAM, IN A SANDBOX (cutbox-rows.mjs): the forced cells as the released guide's own fill.sh prints them over the translation 23ce03be04a20eed… (all of the seat's roots in one cut). By AI agents, Wed Nov 11 2026. No macro, syntax, notation, axiom, sorry.
-/
import Derived.Test.YtnpmccnjhjckoaaChecked
import GoSem.Claim
import GoSem.ClaimJoined
import GoSem.ClaimMapViews
import Derived.JoinedTies
import Derived.KernelRfl
namespace Go.Proofs.Ytnpmccnjhjckoaa
/- THE CELL 'sum', in the pinned program and in every row, IS THE sha256 OF THE DUMP (.gsa) THAT YtnpmccnjhjckoaaProg.lean LOADS. Nothing in Lean hashes anything: it is a label: what it is worth is what the hold of that sum in a sandbox is worth. -/
noncomputable def Try.pinned : Pinned := { name := "ytnpmccnjhjckoaa", sum := "23ce03be04a20eed5ae5a724966503500807bc720831e3b5ce5bbb3c45a37a63", checked := Try.checked }
namespace Rows
def none {H : Type} : Left H := { results := [], args := [] }

/-- 'dragomanlaw22.JournalKnown': WHATEVER THE INPUT: true; the input reads as it did. -/
def journalKnownSpec : ChangeSpec := { name := "journalKnown", fn := fun _ => fun
  | [] => { results := [.lit (.bool true)], args := [] }
  | _ => none }
def journalKnownRow : OpenClaim := { program := "ytnpmccnjhjckoaa", sum := "23ce03be04a20eed5ae5a724966503500807bc720831e3b5ce5bbb3c45a37a63", func := "dragoman/dragomanlaw22.JournalKnown", spec := "journalKnown", unfollowed := true, recurses := true, apart := false }
def JournalKnownSaid : Prop := journalKnownRow.holds Try.pinned (OpenSpec.ofChange journalKnownSpec)

/-- ITS FALSE NEIGHBOUR: 'it returns false'. Refute it at one input. -/
def journalKnownWrong : ChangeSpec := { name := "journalKnown", fn := fun _ => fun
  | [] => { results := [.lit (.bool false)], args := [] }
  | _ => none }
def JournalKnownWrongFalsely : Prop := journalKnownRow.holds Try.pinned (OpenSpec.ofChange journalKnownWrong)

/-- 'dragomanlaw22.JournalChecks': WHATEVER THE INPUT: true; the input reads as it did. -/
def journalChecksSpec : ChangeSpec := { name := "journalChecks", fn := fun _ => fun
  | [d] => { results := [.lit (.bool true)], args := [d] }
  | _ => none }
def journalChecksRow : OpenClaim := { program := "ytnpmccnjhjckoaa", sum := "23ce03be04a20eed5ae5a724966503500807bc720831e3b5ce5bbb3c45a37a63", func := "dragoman/dragomanlaw22.JournalChecks", spec := "journalChecks", unfollowed := true, recurses := true, apart := false }
def JournalChecksSaid : Prop := journalChecksRow.holds Try.pinned (OpenSpec.ofChange journalChecksSpec)

/-- ITS FALSE NEIGHBOUR: 'it returns false'. Refute it at one input. -/
def journalChecksWrong : ChangeSpec := { name := "journalChecks", fn := fun _ => fun
  | [d] => { results := [.lit (.bool false)], args := [d] }
  | _ => none }
def JournalChecksWrongFalsely : Prop := journalChecksRow.holds Try.pinned (OpenSpec.ofChange journalChecksWrong)

/-- 'dragomanlaw22.JournalKept': WHATEVER THE INPUT: true; the input reads as it did. -/
def journalKeptSpec : ChangeSpec := { name := "journalKept", fn := fun _ => fun
  | [d] => { results := [.lit (.bool true)], args := [d] }
  | _ => none }
def journalKeptRow : OpenClaim := { program := "ytnpmccnjhjckoaa", sum := "23ce03be04a20eed5ae5a724966503500807bc720831e3b5ce5bbb3c45a37a63", func := "dragoman/dragomanlaw22.JournalKept", spec := "journalKept", unfollowed := true, recurses := true, apart := false }
def JournalKeptSaid : Prop := journalKeptRow.holds Try.pinned (OpenSpec.ofChange journalKeptSpec)

/-- ITS FALSE NEIGHBOUR: 'it returns false'. Refute it at one input. -/
def journalKeptWrong : ChangeSpec := { name := "journalKept", fn := fun _ => fun
  | [d] => { results := [.lit (.bool false)], args := [d] }
  | _ => none }
def JournalKeptWrongFalsely : Prop := journalKeptRow.holds Try.pinned (OpenSpec.ofChange journalKeptWrong)

/-- 'dragomanlaw22.JournalPlays': WHATEVER THE INPUT: true; the input reads as it did. -/
def journalPlaysSpec : ChangeSpec := { name := "journalPlays", fn := fun _ => fun
  | [d] => { results := [.lit (.bool true)], args := [d] }
  | _ => none }
def journalPlaysRow : OpenClaim := { program := "ytnpmccnjhjckoaa", sum := "23ce03be04a20eed5ae5a724966503500807bc720831e3b5ce5bbb3c45a37a63", func := "dragoman/dragomanlaw22.JournalPlays", spec := "journalPlays", unfollowed := true, recurses := true, apart := false }
def JournalPlaysSaid : Prop := journalPlaysRow.holds Try.pinned (OpenSpec.ofChange journalPlaysSpec)

/-- ITS FALSE NEIGHBOUR: 'it returns false'. Refute it at one input. -/
def journalPlaysWrong : ChangeSpec := { name := "journalPlays", fn := fun _ => fun
  | [d] => { results := [.lit (.bool false)], args := [d] }
  | _ => none }
def JournalPlaysWrongFalsely : Prop := journalPlaysRow.holds Try.pinned (OpenSpec.ofChange journalPlaysWrong)

/- THE SECOND FORM. 'bulk': how many values and letters a reading holds, each counted each time it is reached (what is shared counts as often as it is met; a slice's spare places count too). A statement '..UptoSaid' is the law's where the arguments, and the package variables that the reading takes, are together of bulk at most 1048576: NARROWER than '..Said'. Prove '..Said' where nothing that the law and all that it calls make is longer than what came in: it says more and counts as full. Else prove '..UptoSaid'. A law counts once. -/
mutual
def uptoBulk {H : Type} : DataW H → Nat
  | .lit (.string bytes) => bytes.length + 1
  | .lit _ => 1
  | .nil => 1
  | .ptr d => uptoBulk d + 1
  | .slice elems spare => uptoBulkAll elems + uptoBulkAll spare + 1
  | .agg parts => uptoBulkAll parts + 1
  | .iface _ d => uptoBulk d + 1
  | .map entries => uptoBulkEntries entries + 1
  | .held _ => 1
def uptoBulkAll {H : Type} : List (DataW H) → Nat
  | [] => 0
  | d :: r => uptoBulk d + uptoBulkAll r
def uptoBulkEntries {H : Type} : List (Lit × DataW H) → Nat
  | [] => 0
  | x :: r => uptoBulkEntry x + uptoBulkEntries r
def uptoBulkEntry {H : Type} : Lit × DataW H → Nat
  | (.string bytes, d) => bytes.length + uptoBulk d + 1
  | (_, d) => uptoBulk d + 1
 end
def uptoSmall : (H : Type) → List (DataW H) → Bool := fun _ ds => decide (uptoBulkAll ds ≤ 1048576)
def OpenSpec.upto (s : _root_.Go.ChangeSpec) : _root_.Go.OpenSpec := { _root_.Go.OpenSpec.ofChange s with cond := some uptoSmall }

/-- 'dragomanlaw22.JournalKnown', WHERE WHAT IT READS IS OF BULK AT MOST 1048576: true; the input reads as it did. -/
def journalKnownUptoRow : OpenClaim := { program := "ytnpmccnjhjckoaa", sum := "23ce03be04a20eed5ae5a724966503500807bc720831e3b5ce5bbb3c45a37a63", func := "dragoman/dragomanlaw22.JournalKnown", spec := "journalKnown", unfollowed := true, recurses := true, apart := false, narrowed := true }
def JournalKnownUptoSaid : Prop := journalKnownUptoRow.holds Try.pinned (OpenSpec.upto journalKnownSpec)

/-- 'dragomanlaw22.JournalChecks', WHERE WHAT IT READS IS OF BULK AT MOST 1048576: true; the input reads as it did. -/
def journalChecksUptoRow : OpenClaim := { program := "ytnpmccnjhjckoaa", sum := "23ce03be04a20eed5ae5a724966503500807bc720831e3b5ce5bbb3c45a37a63", func := "dragoman/dragomanlaw22.JournalChecks", spec := "journalChecks", unfollowed := true, recurses := true, apart := false, narrowed := true }
def JournalChecksUptoSaid : Prop := journalChecksUptoRow.holds Try.pinned (OpenSpec.upto journalChecksSpec)

/-- 'dragomanlaw22.JournalKept', WHERE WHAT IT READS IS OF BULK AT MOST 1048576: true; the input reads as it did. -/
def journalKeptUptoRow : OpenClaim := { program := "ytnpmccnjhjckoaa", sum := "23ce03be04a20eed5ae5a724966503500807bc720831e3b5ce5bbb3c45a37a63", func := "dragoman/dragomanlaw22.JournalKept", spec := "journalKept", unfollowed := true, recurses := true, apart := false, narrowed := true }
def JournalKeptUptoSaid : Prop := journalKeptUptoRow.holds Try.pinned (OpenSpec.upto journalKeptSpec)

/-- 'dragomanlaw22.JournalPlays', WHERE WHAT IT READS IS OF BULK AT MOST 1048576: true; the input reads as it did. -/
def journalPlaysUptoRow : OpenClaim := { program := "ytnpmccnjhjckoaa", sum := "23ce03be04a20eed5ae5a724966503500807bc720831e3b5ce5bbb3c45a37a63", func := "dragoman/dragomanlaw22.JournalPlays", spec := "journalPlays", unfollowed := true, recurses := true, apart := false, narrowed := true }
def JournalPlaysUptoSaid : Prop := journalPlaysUptoRow.holds Try.pinned (OpenSpec.upto journalPlaysSpec)

end Rows
end Go.Proofs.Ytnpmccnjhjckoaa
