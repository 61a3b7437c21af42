/-
  DiskSure, its abstract run.
-/
import Derived.Test.YtkdfahmlcnbadaaDiskSureV
namespace Go.Proofs.Ytkdfahmlcnbadaa.dk
open Go.Ab
set_option maxRecDepth 100000
set_option maxHeartbeats 8000000
set_option linter.unusedSimpArgs false
set_option linter.unusedVariables false
theorem sure_good (a : List UInt8) (wa : a.length ≤ maxLen) (x : V) (w : ArgA (.sl stT) x) (n : Int) (_wn : (Lit.int .i64 n).wf = true) (m : Int) (_wm : (Lit.int .i64 m).wf = true) : good (callN Tab.tbl 9223372036854776000 3 [.str a, x, .sc (.int .i64 n), .sc (.int .i64 m)] St.empty) = true := by
  obtain ⟨l, h⟩ := scr_of w
  obtain ⟨σ1, hw⟩ := works_ok
  exact call_turned Tab.turned (w_good (sure_run 9223372036854775996 St.empty a x n m l h (by decide) σ1 hw (by simpa [maxLen] using wa)))
end Go.Proofs.Ytkdfahmlcnbadaa.dk
