/-
  DiskPlays, its abstract run.
-/
import Derived.Test.YtkdfahmlcnbadaaDiskPlaysV
namespace Go.Proofs.Ytkdfahmlcnbadaa.dk
open Go.Ab
set_option maxRecDepth 100000
set_option maxHeartbeats 8000000
set_option linter.unusedSimpArgs false
set_option linter.unusedVariables false
theorem plays_good (x : V) (w : ArgA (.sl stT) x) : good (callN Tab.tbl 9223372036854776000 6 [x] St.empty) = true := by
  obtain ⟨l, h⟩ := scr_of w
  obtain ⟨σ1, hw⟩ := works_ok
  exact call_turned Tab.turned (w_good (plays_run 9223372036854775993 St.empty x l h (by decide) σ1 hw))
end Go.Proofs.Ytkdfahmlcnbadaa.dk
