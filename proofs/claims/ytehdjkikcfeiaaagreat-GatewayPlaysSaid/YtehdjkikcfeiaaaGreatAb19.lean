/- Tables written out. -/
import Derived.Test.YtehdjkikcfeiaaaGreatAb18
namespace Go.Ab
section
def assoc {α : Type} : List (Nat × α) → Nat → Option α
 | [], _ => none
 | (k, a) :: l, f => cond (Nat.beq f k) (some a) (assoc l f)
variable {P : Program} {mu : TypeId → Bool}
theorem all_cons {l : List (Nat × AF)} {k : Nat} {a : AF} (h : cFunc P mu k = some a) (hs : ∀ p ∈ l, cFunc P mu p.1 = some p.2) : ∀ p ∈ (k, a) :: l, cFunc P mu p.1 = some p.2 := by
 intro p hp
 rcases List.mem_cons.1 hp with rfl | hp
 · exact h
 · exact hs p hp
theorem table_of {l : List (Nat × AF)} (h : ∀ p ∈ l, cFunc P mu p.1 = some p.2) : Table P mu (assoc l) := by
 intro f af
 induction l with
 | nil => intro hf; cases hf
 | cons x l ih =>
  obtain ⟨k, a⟩ := x
  intro hf
  simp only [assoc] at hf
  cases hk : Nat.beq f k with
  | true =>
   rw [hk, cond_true] at hf
   cases hf
   rw [Nat.eq_of_beq_eq_true hk]
   exact h (k, af) (by simp)
  | false =>
   rw [hk, cond_false] at hf
   exact ih (fun p hp => h p (List.mem_cons_of_mem _ hp)) hf
end
end Go.Ab
