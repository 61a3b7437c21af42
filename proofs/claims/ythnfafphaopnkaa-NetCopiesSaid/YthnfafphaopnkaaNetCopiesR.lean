/-
  NetCopies, its abstract run.
-/
import Derived.Test.YthnfafphaopnkaaNetCopiesV
import Derived.Test.YthnfafphaopnkaaNetPlaysR
namespace Go.Proofs.Ythnfafphaopnkaa.netR
open Go.Ab
set_option maxRecDepth 100000
set_option maxHeartbeats 8000000
set_option linter.unusedSimpArgs false
set_option linter.unusedVariables false
theorem copies_run (x : V) (w : ArgA (.sl (.agg [.int .i64, .int .i64, .int .i64, .str])) x) (y : V) (w2 : ArgA (.sl (.agg [.int .i64, .int .i64, .int .i64, .str])) y) (z : V) (w3 : ArgA (.sl (.agg [.int .i64, .int .i64, .int .i64, .str])) z) : good (callN Tab.tbl 9223372036854776000 7 [x, y, z] St.empty) = true := by
  obtain ⟨o1, h1⟩ := ops_of w
  obtain ⟨o2, h2⟩ := ops_of w2
  obtain ⟨o3, h3⟩ := ops_of w3
  obtain ⟨σ1, hw⟩ := works_ok
  exact w_good (copies_ok 9223372036854775991 St.empty x y z o1 o2 o3 h1 h2 h3 (by decide) σ1 hw)
end Go.Proofs.Ythnfafphaopnkaa.netR
