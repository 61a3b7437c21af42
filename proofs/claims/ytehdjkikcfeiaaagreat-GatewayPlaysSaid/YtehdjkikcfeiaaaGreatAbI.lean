/- Loops over functions, with calls whose ends are only partly told. -/
import Derived.Test.YtehdjkikcfeiaaaGreatAbV
namespace Go.Ab
set_option linter.unusedVariables false
set_option linter.unusedSimpArgs false
section
theorem w_range {cy : YlF → FnF} {ys : YlF} {fuel : Nat} {ρ : Env} {σ : St} {f : AO} {ps : List Nat} {a b : AC} {g : FuncId} {cap : List V} {Q : Ex × Env × St → Prop} (hf : f.eval ρ = .fn (.func g) [] cap)
  (h : ∀ ys' : YlF, (∀ args σ', ys' σ.n args σ' = aRound (exec cy ys fuel a) (exec cy ys fuel b) ρ ps σ.n args σ') → W (cy ys' g (.yl σ.n :: cap) (σ.push (.loop .ready none))) fun r => W (aAfter σ.n ρ r.2) Q) :
  W (exec cy ys fuel (.rangeFn f ps a b) ρ σ) Q := by
 simp only [exec, hf]
 obtain ⟨r, h1, h2⟩ := h (fun j => cond (Nat.beq j σ.n) (aRound (exec cy ys fuel a) (exec cy ys fuel b) ρ ps σ.n) (ys j)) (fun args σ' => by simp only [Nat.beq_refl, cond_true])
 rw [h1]
 exact h2
theorem w_round {cy : YlF → FnF} {ys : YlF} {fuel : Nat} {ρ : Env} {σ : St} {ps : List Nat} {a b : AC} {k : Nat} {args : List V} {Q : V × St → Prop} (hk : σ.get k = some (.loop .ready none)) (hl : args.length = ps.length)
  (h : W (exec cy ys fuel a (bindPs ρ ps args) σ) fun r => r.1 = .normal ∧ r.2.2.get k = some (.loop .ready none) ∧ W (exec cy ys fuel b r.2.1 (r.2.2.put k (some (.loop .busy none)))) fun r2 =>
    (∃ s p, r2.2.2.get k = some (.loop s p)) ∧ (r2.1 = .normal → Q (.sc (.bool true), r2.2.2.put k (some (.loop .ready none)))) ∧ (r2.1 ≠ .normal → Q (.sc (.bool false), r2.2.2.put k (some (.loop .done (some r2.1)))))) :
  W (aRound (exec cy ys fuel a) (exec cy ys fuel b) ρ ps k args σ) Q := by
 obtain ⟨⟨e1, ρ1, σ1⟩, h1, h2, h3, ⟨e2, ρ2, σ2⟩, h4, ⟨s, p, h5⟩, h6, h7⟩ := h
 dsimp only at h2 h3 h4 h5 h6 h7
 subst h2
 unfold aRound
 simp only [hk, hl, Nat.beq_refl, cond_true, h1, Option.bind_some, h3, h4, h5]
 cases e2 with
 | normal => exact ⟨_, rfl, h6 rfl⟩
 | exit i => exact ⟨_, rfl, h7 (by simp)⟩
 | ret => exact ⟨_, rfl, h7 (by simp)⟩
theorem after_n {k : Nat} {ρ : Env} {σ : St} (h : σ.get k = some (.loop .ready none)) : aAfter k ρ σ = some (.normal, ρ, σ.put k none) := by
 unfold aAfter; rw [h]
theorem after_e {k i : Nat} {ρ : Env} {σ : St} (h : σ.get k = some (.loop .done (some (.exit i)))) : aAfter k ρ σ = some (.exit i, ρ, σ.put k none) := by
 unfold aAfter; rw [h]
end
end Go.Ab
