/-
  No cell of these rows narrows 'for every input' (looked for: loops, veiled, ifaces, maps, wideKeys, modest, calm, conditions, laid).
  DERIVED. THE GIVEN ROWS OF THIS SEAT. 5 by the template 'for every input the law returns true; each argument reads behind the call as it read before'; 0 by the template 'total and deterministic' (their statements: YtllkidpebjgkeaaTotals.lean).
  GIVEN WITH THE SEED: the statements are not yours to turn. If you find one false, say at which input.
  Laid BY PROGRAM, IN A SANDBOX (cutbox-rows.mjs): the forced cells as the released guide's own fill.sh prints them over the translation b818a90733911ed2… (all of the seat's roots in one cut). By AI agents, Wed Nov 11 2026. No macro, syntax, notation, axiom, sorry.
-/
import Derived.Test.YtllkidpebjgkeaaChecked
import GoSem.Claim
import GoSem.ClaimJoined
import GoSem.ClaimMapViews
import Derived.JoinedTies
import Derived.KernelRfl
namespace Go.Proofs.Ytllkidpebjgkeaa
/- THE CELL 'sum', in the pinned program and in every row, IS THE sha256 OF THE DUMP (.gsa) THAT YtllkidpebjgkeaaProg.lean LOADS. Nothing in Lean hashes anything: it is a label: what it is worth is what the hold of that sum in a sandbox is worth. -/
noncomputable def Try.pinned : Pinned := { name := "ytllkidpebjgkeaa", sum := "b818a90733911ed29aafad00f5aa993ab63db43b824e26cd46aa617d5b16466e", checked := Try.checked }
namespace Rows
def none {H : Type} : Left H := { results := [], args := [] }

/-- 'dragomanlaw08.VoteChecks': WHATEVER THE INPUT: true; the input reads as it did. -/
def voteChecksSpec : ChangeSpec := { name := "voteChecks", fn := fun _ => fun
  | [d1, d2] => { results := [.lit (.bool true)], args := [d1, d2] }
  | _ => none }
def voteChecksRow : OpenClaim := { program := "ytllkidpebjgkeaa", sum := "b818a90733911ed29aafad00f5aa993ab63db43b824e26cd46aa617d5b16466e", func := "dragoman/dragomanlaw08.VoteChecks", spec := "voteChecks", unfollowed := true, recurses := true, apart := false }
def VoteChecksSaid : Prop := voteChecksRow.holds Try.pinned (OpenSpec.ofChange voteChecksSpec)

/-- ITS FALSE NEIGHBOUR: 'it returns false'. Refute it at one input. -/
def voteChecksWrong : ChangeSpec := { name := "voteChecks", fn := fun _ => fun
  | [d1, d2] => { results := [.lit (.bool false)], args := [d1, d2] }
  | _ => none }
def VoteChecksWrongFalsely : Prop := voteChecksRow.holds Try.pinned (OpenSpec.ofChange voteChecksWrong)

/-- 'dragomanlaw08.VoteKept': WHATEVER THE INPUT: true; the input reads as it did. -/
def voteKeptSpec : ChangeSpec := { name := "voteKept", fn := fun _ => fun
  | [d1, d2, d3, d4] => { results := [.lit (.bool true)], args := [d1, d2, d3, d4] }
  | _ => none }
def voteKeptRow : OpenClaim := { program := "ytllkidpebjgkeaa", sum := "b818a90733911ed29aafad00f5aa993ab63db43b824e26cd46aa617d5b16466e", func := "dragoman/dragomanlaw08.VoteKept", spec := "voteKept", unfollowed := true, recurses := true, apart := false }
def VoteKeptSaid : Prop := voteKeptRow.holds Try.pinned (OpenSpec.ofChange voteKeptSpec)

/-- ITS FALSE NEIGHBOUR: 'it returns false'. Refute it at one input. -/
def voteKeptWrong : ChangeSpec := { name := "voteKept", fn := fun _ => fun
  | [d1, d2, d3, d4] => { results := [.lit (.bool false)], args := [d1, d2, d3, d4] }
  | _ => none }
def VoteKeptWrongFalsely : Prop := voteKeptRow.holds Try.pinned (OpenSpec.ofChange voteKeptWrong)

/-- 'dragomanlaw08.VoteOnce': WHATEVER THE INPUT: true; the input reads as it did. -/
def voteOnceSpec : ChangeSpec := { name := "voteOnce", fn := fun _ => fun
  | [d] => { results := [.lit (.bool true)], args := [d] }
  | _ => none }
def voteOnceRow : OpenClaim := { program := "ytllkidpebjgkeaa", sum := "b818a90733911ed29aafad00f5aa993ab63db43b824e26cd46aa617d5b16466e", func := "dragoman/dragomanlaw08.VoteOnce", spec := "voteOnce", unfollowed := true, recurses := true, apart := false }
def VoteOnceSaid : Prop := voteOnceRow.holds Try.pinned (OpenSpec.ofChange voteOnceSpec)

/-- ITS FALSE NEIGHBOUR: 'it returns false'. Refute it at one input. -/
def voteOnceWrong : ChangeSpec := { name := "voteOnce", fn := fun _ => fun
  | [d] => { results := [.lit (.bool false)], args := [d] }
  | _ => none }
def VoteOnceWrongFalsely : Prop := voteOnceRow.holds Try.pinned (OpenSpec.ofChange voteOnceWrong)

/-- 'dragomanlaw08.VotePlays': WHATEVER THE INPUT: true; the input reads as it did. -/
def votePlaysSpec : ChangeSpec := { name := "votePlays", fn := fun _ => fun
  | [d] => { results := [.lit (.bool true)], args := [d] }
  | _ => none }
def votePlaysRow : OpenClaim := { program := "ytllkidpebjgkeaa", sum := "b818a90733911ed29aafad00f5aa993ab63db43b824e26cd46aa617d5b16466e", func := "dragoman/dragomanlaw08.VotePlays", spec := "votePlays", unfollowed := true, recurses := true, apart := false }
def VotePlaysSaid : Prop := votePlaysRow.holds Try.pinned (OpenSpec.ofChange votePlaysSpec)

/-- ITS FALSE NEIGHBOUR: 'it returns false'. Refute it at one input. -/
def votePlaysWrong : ChangeSpec := { name := "votePlays", fn := fun _ => fun
  | [d] => { results := [.lit (.bool false)], args := [d] }
  | _ => none }
def VotePlaysWrongFalsely : Prop := votePlaysRow.holds Try.pinned (OpenSpec.ofChange votePlaysWrong)

/-- 'dragomanlaw08.VoteKnown': WHATEVER THE INPUT: true; the input reads as it did. -/
def voteKnownSpec : ChangeSpec := { name := "voteKnown", fn := fun _ => fun
  | [] => { results := [.lit (.bool true)], args := [] }
  | _ => none }
def voteKnownRow : OpenClaim := { program := "ytllkidpebjgkeaa", sum := "b818a90733911ed29aafad00f5aa993ab63db43b824e26cd46aa617d5b16466e", func := "dragoman/dragomanlaw08.VoteKnown", spec := "voteKnown", unfollowed := true, recurses := true, apart := false }
def VoteKnownSaid : Prop := voteKnownRow.holds Try.pinned (OpenSpec.ofChange voteKnownSpec)

/-- ITS FALSE NEIGHBOUR: 'it returns false'. Refute it at one input. -/
def voteKnownWrong : ChangeSpec := { name := "voteKnown", fn := fun _ => fun
  | [] => { results := [.lit (.bool false)], args := [] }
  | _ => none }
def VoteKnownWrongFalsely : Prop := voteKnownRow.holds Try.pinned (OpenSpec.ofChange voteKnownWrong)

/- THE SECOND FORM. 'bulk': how many values and letters a reading holds, each counted each time it is reached (what is shared counts as often as it is met; a slice's spare places count too). A statement '..UptoSaid' is the law's where the arguments, and the package variables that the reading takes, are together of bulk at most 1048576: NARROWER than '..Said'. Prove '..Said' where nothing that the law and all that it calls make is longer than what came in: it says more and counts as full. Else prove '..UptoSaid'. A law counts once. -/
mutual
def uptoBulk {H : Type} : DataW H → Nat
  | .lit (.string bytes) => bytes.length + 1
  | .lit _ => 1
  | .nil => 1
  | .ptr d => uptoBulk d + 1
  | .slice elems spare => uptoBulkAll elems + uptoBulkAll spare + 1
  | .agg parts => uptoBulkAll parts + 1
  | .iface _ d => uptoBulk d + 1
  | .map entries => uptoBulkEntries entries + 1
  | .held _ => 1
def uptoBulkAll {H : Type} : List (DataW H) → Nat
  | [] => 0
  | d :: r => uptoBulk d + uptoBulkAll r
def uptoBulkEntries {H : Type} : List (Lit × DataW H) → Nat
  | [] => 0
  | x :: r => uptoBulkEntry x + uptoBulkEntries r
def uptoBulkEntry {H : Type} : Lit × DataW H → Nat
  | (.string bytes, d) => bytes.length + uptoBulk d + 1
  | (_, d) => uptoBulk d + 1
 end
def uptoSmall : (H : Type) → List (DataW H) → Bool := fun _ ds => decide (uptoBulkAll ds ≤ 1048576)
def OpenSpec.upto (s : _root_.Go.ChangeSpec) : _root_.Go.OpenSpec := { _root_.Go.OpenSpec.ofChange s with cond := some uptoSmall }

/-- 'dragomanlaw08.VoteChecks', WHERE WHAT IT READS IS OF BULK AT MOST 1048576: true; the input reads as it did. -/
def voteChecksUptoRow : OpenClaim := { program := "ytllkidpebjgkeaa", sum := "b818a90733911ed29aafad00f5aa993ab63db43b824e26cd46aa617d5b16466e", func := "dragoman/dragomanlaw08.VoteChecks", spec := "voteChecks", unfollowed := true, recurses := true, apart := false, narrowed := true }
def VoteChecksUptoSaid : Prop := voteChecksUptoRow.holds Try.pinned (OpenSpec.upto voteChecksSpec)

/-- 'dragomanlaw08.VoteKept', WHERE WHAT IT READS IS OF BULK AT MOST 1048576: true; the input reads as it did. -/
def voteKeptUptoRow : OpenClaim := { program := "ytllkidpebjgkeaa", sum := "b818a90733911ed29aafad00f5aa993ab63db43b824e26cd46aa617d5b16466e", func := "dragoman/dragomanlaw08.VoteKept", spec := "voteKept", unfollowed := true, recurses := true, apart := false, narrowed := true }
def VoteKeptUptoSaid : Prop := voteKeptUptoRow.holds Try.pinned (OpenSpec.upto voteKeptSpec)

/-- 'dragomanlaw08.VoteOnce', WHERE WHAT IT READS IS OF BULK AT MOST 1048576: true; the input reads as it did. -/
def voteOnceUptoRow : OpenClaim := { program := "ytllkidpebjgkeaa", sum := "b818a90733911ed29aafad00f5aa993ab63db43b824e26cd46aa617d5b16466e", func := "dragoman/dragomanlaw08.VoteOnce", spec := "voteOnce", unfollowed := true, recurses := true, apart := false, narrowed := true }
def VoteOnceUptoSaid : Prop := voteOnceUptoRow.holds Try.pinned (OpenSpec.upto voteOnceSpec)

/-- 'dragomanlaw08.VotePlays', WHERE WHAT IT READS IS OF BULK AT MOST 1048576: true; the input reads as it did. -/
def votePlaysUptoRow : OpenClaim := { program := "ytllkidpebjgkeaa", sum := "b818a90733911ed29aafad00f5aa993ab63db43b824e26cd46aa617d5b16466e", func := "dragoman/dragomanlaw08.VotePlays", spec := "votePlays", unfollowed := true, recurses := true, apart := false, narrowed := true }
def VotePlaysUptoSaid : Prop := votePlaysUptoRow.holds Try.pinned (OpenSpec.upto votePlaysSpec)

/-- 'dragomanlaw08.VoteKnown', WHERE WHAT IT READS IS OF BULK AT MOST 1048576: true; the input reads as it did. -/
def voteKnownUptoRow : OpenClaim := { program := "ytllkidpebjgkeaa", sum := "b818a90733911ed29aafad00f5aa993ab63db43b824e26cd46aa617d5b16466e", func := "dragoman/dragomanlaw08.VoteKnown", spec := "voteKnown", unfollowed := true, recurses := true, apart := false, narrowed := true }
def VoteKnownUptoSaid : Prop := voteKnownUptoRow.holds Try.pinned (OpenSpec.upto voteKnownSpec)

end Rows
end Go.Proofs.Ytllkidpebjgkeaa
