/-
  Steps over an abstract run with numbers that are not known.
-/
import Derived.Test.YtkikechhkohglaaAb19
namespace Go.Ab

section

theorem upd_self (ρ : Env) (d : Nat) (v : V) : upd ρ d v d = v := by simp [upd, Nat.beq_refl]
theorem upd_other {ρ : Env} {d t : Nat} {v : V} (h : t ≠ d) : upd ρ d v t = ρ t := by
  have : Nat.beq t d = false := by
    cases hb : Nat.beq t d
    · rfl
    · exact absurd (Nat.eq_of_beq_eq_true hb) h
  simp [upd, this]
theorem bin_int (op : BinOp) (k : IntKind) (a b : Int) (h1 : op ≠ .shl) (h2 : op ≠ .shr) : aBin op (.sc (.int k a)) (.sc (.int k b)) = aInt op k a b := by
  cases op <;> simp [aBin] at h1 h2 ⊢
theorem beq_tt : (true == true) = true := rfl
theorem beq_tf : (true == false) = false := rfl
theorem beq_ft : (false == true) = false := rfl
theorem beq_ff : (false == false) = true := rfl
/-- What a call comes to, by the way in which its code is left. -/
def finish (rs : List AR) : Ex × Env × St → Option (V × St)
  | (.exit _, _, _) => none
  | (_, ρ, σ) => (resultsOf ρ σ rs).map fun v => (v, σ)
theorem callN_eq {tbl : FuncId → Option AF} {n f : Nat} {args : List V} {σ : St} {af : AF} (h : tbl f = some af) (hl : args.length ≤ af.ntmps) :
    callN tbl (n + 1) f args σ = (exec (callN tbl n) n af.code (initEnv args) σ).bind (finish af.results) := by
  simp only [callN, h, Option.bind_some, hl, if_true]
  congr 1
  funext x
  obtain ⟨e, ρ, σ'⟩ := x
  cases e <;> rfl
theorem wrap64 {x : Int} (h1 : -9223372036854775808 ≤ x) (h2 : x ≤ 9223372036854775807) : IntKind.i64.wrap x = x := by
  unfold IntKind.wrap
  simp [IntKind.signed, IntKind.bits]
  omega

/-- The call came to true. -/
def good : Option (V × St) → Bool
  | some (.sc (.bool true), _) => true
  | _ => false
theorem good_ok {x : Option (V × St)} (h : good x = true) : ∃ σ', x = some (.sc (.bool true), σ') := by
  unfold good at h
  split at h
  · exact ⟨_, rfl⟩
  · cases h

end
end Go.Ab
