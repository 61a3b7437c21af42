/-
  SnapPieces, its abstract run.
-/
import Derived.Test.YtjcobnjnjliehaaSnapP
namespace Go.Proofs.Ytjcobnjnjliehaa.sn
open Go.Ab
set_option maxRecDepth 100000
set_option maxHeartbeats 8000000
set_option linter.unusedSimpArgs false
set_option linter.unusedVariables false
theorem pieces_good (t : List UInt8) (wt : t.length ≤ reachBytes) (a : Int) (_wa : (Lit.int .i64 a).wf = true) (x : V) (w : ArgA (.sl msT) x) : good (callN Tab.tbl 9223372036854776000 3 [.str t, .sc (.int .i64 a), x] St.empty) = true := by
  obtain ⟨l, h⟩ := msgs_of w
  obtain ⟨σ1, hw⟩ := works_ok
  exact call_turned Tab.turned (w_good (pieces_run 9223372036854775997 St.empty t a x l h (Nat.le_trans wt (by decide)) (by decide) σ1 hw))
end Go.Proofs.Ytjcobnjnjliehaa.sn
