/-
  SnapPieces: its run.
-/
import Derived.Test.YtjcobnjnjliehaaSnapI
import Derived.KernelRfl
namespace Go.Proofs.Ytjcobnjnjliehaa.sn
open Go.Ab
set_option maxRecDepth 100000
set_option maxHeartbeats 8000000
set_option linter.unusedSimpArgs false
set_option linter.unusedVariables false

theorem works_run : (callY Tab.tb 9223372036854775999 noYl 8 [] St.empty).map (·.1) = some (.sc (.bool true)) := by kernel_rfl
theorem works_ok : ∃ σ1, callY Tab.tb (9223372036854775997 + 2) noYl 8 [] St.empty = some (.sc (.bool true), σ1) := by
  have h := works_run
  rw [Option.map_eq_some_iff] at h
  obtain ⟨⟨v, σ1⟩, h1, h2⟩ := h
  exact ⟨σ1, by rw [show (9223372036854775997 + 2 : Nat) = 9223372036854775999 from rfl, h1]; simp only at h2; rw [h2]⟩
end Go.Proofs.Ytjcobnjnjliehaa.sn
