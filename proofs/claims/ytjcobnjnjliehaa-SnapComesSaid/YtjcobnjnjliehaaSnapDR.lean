/-
  SnapComes, its abstract run.
-/
import Derived.Test.YtjcobnjnjliehaaSnapD
import Derived.Test.YtjcobnjnjliehaaSnapW2
namespace Go.Proofs.Ytjcobnjnjliehaa.sn
open Go.Ab
set_option maxRecDepth 100000
set_option maxHeartbeats 8000000
set_option linter.unusedSimpArgs false
set_option linter.unusedVariables false
theorem comes_good (t : List UInt8) (wt : t.length ≤ reachBytes) (a : Int) (_wa : (Lit.int .i64 a).wf = true) (b : Int) (_wb : (Lit.int .i64 b).wf = true) (x : V) (w : ArgA (.sl (.int .i64)) x) : good (callN Tab.tbl 9223372036854776000 4 [.str t, .agg [.sc (.int .i64 a), .sc (.int .i64 b)], x] St.empty) = true := by
  obtain ⟨es, h1, h2, h3, _⟩ := rv_slA w
  obtain ⟨ks, rfl⟩ := ints_of h2
  obtain ⟨σ1, hw⟩ := works_ok2
  exact call_turned Tab.turned (w_good (comes_run 9223372036854775997 St.empty t a b x ks h1 (by simpa [maxLen] using h3) (Nat.le_trans wt (by decide)) (by decide) σ1 hw))
end Go.Proofs.Ytjcobnjnjliehaa.sn
