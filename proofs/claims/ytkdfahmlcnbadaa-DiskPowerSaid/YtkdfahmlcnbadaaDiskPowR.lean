/-
  DiskPower, its abstract run.
-/
import Derived.Test.YtkdfahmlcnbadaaDiskPow
import Derived.Test.YtkdfahmlcnbadaaDiskW
namespace Go.Proofs.Ytkdfahmlcnbadaa.dk
open Go.Ab
set_option maxRecDepth 100000
set_option maxHeartbeats 8000000
set_option linter.unusedSimpArgs false
set_option linter.unusedVariables false
theorem power_good (x : V) (w : ArgA (.sl stT) x) (n : Int) (wn : (Lit.int .i64 n).wf = true) : good (callN Tab.tbl 9223372036854776000 4 [x, .sc (.int .i64 n)] St.empty) = true := by
  obtain ⟨l, h⟩ := scr_of w
  obtain ⟨σ1, hw⟩ := works_ok
  exact call_turned Tab.turned (w_good (power_run 9223372036854775996 St.empty x n l h (wf64 wn).2 (by decide) σ1 hw))
end Go.Proofs.Ytkdfahmlcnbadaa.dk
