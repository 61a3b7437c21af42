/-
  NetPlays, its abstract run.
  NetTells, its abstract run.
-/
import Derived.Test.YthnfafphaopnkaaNetV
import Derived.KernelRfl
import Derived.Test.YthnfafphaopnkaaNetY
namespace Go.Proofs.Ythnfafphaopnkaa.netR
open Go.Ab
set_option maxRecDepth 100000
set_option maxHeartbeats 8000000
set_option linter.unusedSimpArgs false
set_option linter.unusedVariables false

theorem works_run : (callY Tab.tbl 9223372036854775999 noYl 9 [] St.empty).map (·.1) = some (.sc (.bool true)) := by kernel_rfl
theorem works_ok : ∃ σ1, callY Tab.tbl (9223372036854775991 + 8) noYl 9 [] St.empty = some (.sc (.bool true), σ1) := by
  have h := works_run
  rw [Option.map_eq_some_iff] at h
  obtain ⟨⟨v, σ1⟩, h1, h2⟩ := h
  exact ⟨σ1, by rw [show (9223372036854775991 + 8 : Nat) = 9223372036854775999 from rfl, h1]; simp only at h2; rw [h2]⟩
theorem ops_of {x : V} (w : ArgA (.sl (.agg [.int .i64, .int .i64, .int .i64, .str])) x) : ∃ ops, Ops x ops := by
  obtain ⟨es, h1, hz, h3, h4⟩ := argA_sl w
  have : ∃ ops : List Op, es = ops.map oc ∧ ∀ o ∈ ops, I64 o.a ∧ I64 o.b ∧ I64 o.k := by
    clear h3 h4 w hz
    induction es with
    | nil => exact ⟨[], rfl, by simp⟩
    | cons e es ih =>
      obtain ⟨ops, rfl, h6⟩ := ih fun a ha => h1 a (List.mem_cons_of_mem _ ha)
      have h := h1 e List.mem_cons_self
      simp only [Arg, ArgL] at h
      obtain ⟨a1, b1, rfl, ⟨n1, rfl, w1⟩, ⟨a2, b2, rfl, ⟨n2, rfl, w2⟩, ⟨a3, b3, rfl, ⟨n3, rfl, w3⟩, ⟨a4, b4, rfl, ⟨n4, rfl, w4⟩, rfl⟩⟩⟩⟩ := h
      refine ⟨⟨n1, n2, n3, n4⟩ :: ops, rfl, ?_⟩
      intro o ho
      rcases List.mem_cons.1 ho with ho | ho
      · subst ho
        have e1 : IntKind.i64.min = -9223372036854775808 := rfl
        have e2 : IntKind.i64.max = 9223372036854775807 := rfl
        simp [Lit.wf, e1, e2] at w1 w2 w3
        simp [I64]
        refine ⟨?_, ?_, ?_⟩ <;> omega
      · exact h6 o ho
  obtain ⟨ops, rfl, h6⟩ := this
  have hf : (ops.map oc).flatten = ofl ops := rfl
  refine ⟨ops, ⟨by simpa using h3.len, h3.size, fun i hi => ?_, h6, by simpa [maxLen] using h4⟩⟩
  have := h3.el i (by simpa using hi)
  rw [hf] at this
  exact this
theorem run' (x : V) (w : ArgA (.sl (.agg [.int .i64, .int .i64, .int .i64, .str])) x) : good (callN Tab.tbl 9223372036854776000 4 [x] St.empty) = true := by
  obtain ⟨ops, h⟩ := ops_of w
  obtain ⟨σ1, hw⟩ := works_ok
  exact w_good (plays_ok 9223372036854775991 St.empty x ops h (by decide) σ1 hw)
end Go.Proofs.Ythnfafphaopnkaa.netR
namespace Go.Proofs.Ythnfafphaopnkaa.netR
open Go.Ab
set_option maxRecDepth 100000
set_option maxHeartbeats 8000000
set_option linter.unusedSimpArgs false
set_option linter.unusedVariables false
def tl0 (l : Int) : St := (St.empty.push (.cells [.sc (.int .i64 l)])).push (.cells [.sc (.bool false)])
theorem works_tells (l : Int) : (callY Tab.tbl 9223372036854775999 noYl 9 [] (tl0 l)).map (fun r => (r.1, r.2.get 0, r.2.get 1)) = some (.sc (.bool true), some (.cells [.sc (.int .i64 l)]), some (.cells [.sc (.bool false)])) := by kernel_rfl
theorem tells_good (x : V) (w : ArgA (.sl (.agg [.int .i64, .int .i64, .int .i64, .str])) x) (l : Int) (wl : (Lit.int .i64 l).wf = true) : good (callN Tab.tbl 9223372036854776000 5 [x, .sc (.int .i64 l)] St.empty) = true := by
  obtain ⟨ops, h⟩ := ops_of w
  have hw := works_tells l
  rw [Option.map_eq_some_iff] at hw
  obtain ⟨⟨v, σ1⟩, h1, h2⟩ := hw
  simp only [Prod.mk.injEq] at h2
  obtain ⟨rfl, g3, g4⟩ := h2
  exact w_good (tells_run 9223372036854775991 St.empty x l ops h (wf64 wl) (by decide) σ1 h1 g3 g4)
end Go.Proofs.Ythnfafphaopnkaa.netR
