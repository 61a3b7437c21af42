/- Steps over an abstract run with numbers that are not known. -/
import Derived.Test.YtehdjkikcfeiaaaGreatAb19
namespace Go.Ab
section
theorem upd_self (ρ : Env) (d : Nat) (v : V) : upd ρ d v d = v := by simp [upd, Nat.beq_refl]
theorem upd_other {ρ : Env} {d t : Nat} {v : V} (h : t ≠ d) : upd ρ d v t = ρ t := by
 have : Nat.beq t d = false := by
  cases hb : Nat.beq t d
  · rfl
  · exact absurd (Nat.eq_of_beq_eq_true hb) h
 simp [upd, this]
theorem beq_tt : (true == true) = true := rfl
theorem beq_tf : (true == false) = false := rfl
theorem beq_ft : (false == true) = false := rfl
theorem beq_ff : (false == false) = true := rfl
def finish (rs : List AR) : Ex × Env × St → Option (V × St)
 | (.exit _, _, _) => none
 | (_, ρ, σ) => (resultsOf ρ σ rs).map fun v => (v, σ)
theorem callY_eq {tbl : FuncId → Option AF} {n f : Nat} {ys : YlF} {args : List V} {σ : St} {af : AF} (h : tbl f = some af) (hl : args.length ≤ af.ntmps) :
  callY tbl (n + 1) ys f args σ = (exec (callY tbl n) ys n af.code (initEnv args) σ).bind (finish af.results) := by
 simp only [callY, h, Option.bind_some, hl, if_true]
 congr 1
 funext x
 obtain ⟨e, ρ, σ'⟩ := x
 cases e <;> rfl
theorem wrap64 {x : Int} (h1 : -9223372036854775808 ≤ x) (h2 : x ≤ 9223372036854775807) : IntKind.i64.wrap x = x := by
 unfold IntKind.wrap
 simp [IntKind.signed, IntKind.bits]
 omega
def stOp (call : CallF) (d : Option Nat) (os : List AOper) (ρ : Env) : Option (V × St) → Option (Env × St)
 | some (v, σ) => runOps call os (put ρ d v) σ
 | none => none
def stG (call : CallF) (d : Option Nat) (op : AOp) (os : List AOper) (ρ : Env) (σ : St) (b : Bool) : V → Option (Env × St)
 | .sc (.bool c) => cond (c == b) (stOp call d os ρ (op.run call ρ σ)) (runOps call os (put ρ d .undef) σ)
 | _ => runOps call os (put ρ d .undef) σ
def stReg : Option (Env × St) → Option (Ex × Env × St)
 | some (ρ, σ) => some (.normal, ρ, σ)
 | none => none
def stSeq (cy : YlF → FnF) (ys : YlF) (fuel : Nat) (b : AC) : Option (Ex × Env × St) → Option (Ex × Env × St)
 | some (.normal, ρ, σ) => exec cy ys fuel b ρ σ
 | some (e, ρ, σ) => some (e, ρ, σ)
 | none => none
def stCond (cy : YlF → FnF) (ys : YlF) (fuel : Nat) (a b : AC) (ρ : Env) (σ : St) : V → Option (Ex × Env × St)
 | .sc (.bool t) => cond t (exec cy ys fuel a ρ σ) (exec cy ys fuel b ρ σ)
 | _ => none
def stBlock (id : Nat) : Option (Ex × Env × St) → Option (Ex × Env × St)
 | some (.exit i, ρ, σ) => some (if i = id then .normal else .exit i, ρ, σ)
 | some (e, ρ, σ) => some (e, ρ, σ)
 | none => none
def stFin (rs : List AR) : Option (Ex × Env × St) → Option (V × St)
 | some (.exit _, _, _) => none
 | some (_, ρ, σ) => (resultsOf ρ σ rs).map fun v => (v, σ)
 | none => none
variable {call : CallF} {cy : YlF → FnF} {ys : YlF} {fuel : Nat} {ρ : Env} {σ : St}
theorem s_nil : runOps call [] ρ σ = some (ρ, σ) := rfl
theorem s_cons {d : Option Nat} {op : AOp} {s : List Nat} {os : List AOper} : runOps call (⟨d, op, none, s⟩ :: os) ρ σ = stOp call d os ρ (op.run call ρ σ) := by
 simp only [runOps, wanted, cond_true]
 cases op.run call ρ σ <;> rfl
theorem s_consG {d : Option Nat} {op : AOp} {t : Nat} {b : Bool} {s : List Nat} {os : List AOper} : runOps call (⟨d, op, some (t, b), s⟩ :: os) ρ σ = stG call d op os ρ σ b (ρ t) := by
 simp only [runOps, wanted]
 cases ρ t with
 | sc a =>
  cases a with
  | bool c =>
   simp only [stG]
   cases c == b
   · rfl
   · simp only [cond_true]; cases op.run call ρ σ <;> rfl
  | _ => rfl
 | _ => rfl
theorem s_op {d : Option Nat} {os : List AOper} {v : V} {σ' : St} : stOp call d os ρ (some (v, σ')) = runOps call os (put ρ d v) σ' := rfl
theorem s_gtt {d : Option Nat} {op : AOp} {os : List AOper} : stG call d op os ρ σ true (.sc (.bool true)) = stOp call d os ρ (op.run call ρ σ) := rfl
theorem s_gff {d : Option Nat} {op : AOp} {os : List AOper} : stG call d op os ρ σ false (.sc (.bool false)) = stOp call d os ρ (op.run call ρ σ) := rfl
theorem s_gtf {d : Option Nat} {op : AOp} {os : List AOper} : stG call d op os ρ σ true (.sc (.bool false)) = runOps call os (put ρ d .undef) σ := rfl
theorem s_gft {d : Option Nat} {op : AOp} {os : List AOper} : stG call d op os ρ σ false (.sc (.bool true)) = runOps call os (put ρ d .undef) σ := rfl
theorem s_region {os : List AOper} : exec cy ys fuel (.region false os) ρ σ = stReg (runOps ⟨cy ys, ys⟩ os ρ σ) := by
 simp only [exec]
 cases runOps ⟨cy ys, ys⟩ os ρ σ <;> rfl
theorem s_reg : stReg (some (ρ, σ)) = some (.normal, ρ, σ) := rfl
theorem s_seq {a b : AC} : exec cy ys fuel (.seq a b) ρ σ = stSeq cy ys fuel b (exec cy ys fuel a ρ σ) := by
 simp only [exec]
 cases exec cy ys fuel a ρ σ with
 | none => rfl
 | some x => obtain ⟨e, ρ, σ⟩ := x; cases e <;> rfl
theorem s_seqn {b : AC} : stSeq cy ys fuel b (some (.normal, ρ, σ)) = exec cy ys fuel b ρ σ := rfl
theorem s_seqr {b : AC} : stSeq cy ys fuel b (some (.ret, ρ, σ)) = some (.ret, ρ, σ) := rfl
theorem s_seqe {b : AC} {i : Nat} : stSeq cy ys fuel b (some (.exit i, ρ, σ)) = some (.exit i, ρ, σ) := rfl
theorem s_skip : exec cy ys fuel .skip ρ σ = some (.normal, ρ, σ) := rfl
theorem s_ret : exec cy ys fuel .ret ρ σ = some (.ret, ρ, σ) := rfl
theorem s_exit {i : Nat} : exec cy ys fuel (.exit i) ρ σ = some (.exit i, ρ, σ) := rfl
theorem s_cond {c : AO} {a b : AC} : exec cy ys fuel (.cond c a b) ρ σ = stCond cy ys fuel a b ρ σ (c.eval ρ) := by
 simp only [exec]
 cases c.eval ρ with
 | sc x => cases x <;> rfl
 | _ => rfl
theorem s_condt {a b : AC} : stCond cy ys fuel a b ρ σ (.sc (.bool true)) = exec cy ys fuel a ρ σ := rfl
theorem s_condf {a b : AC} : stCond cy ys fuel a b ρ σ (.sc (.bool false)) = exec cy ys fuel b ρ σ := rfl
theorem s_block {i : Nat} {b : AC} : exec cy ys fuel (.block i b) ρ σ = stBlock i (exec cy ys fuel b ρ σ) := by
 simp only [exec]
 cases exec cy ys fuel b ρ σ with
 | none => rfl
 | some x => obtain ⟨e, ρ, σ⟩ := x; cases e <;> rfl
theorem s_blockn {i : Nat} : stBlock i (some (.normal, ρ, σ)) = some (.normal, ρ, σ) := rfl
theorem s_blockr {i : Nat} : stBlock i (some (.ret, ρ, σ)) = some (.ret, ρ, σ) := rfl
theorem s_blocke {i j : Nat} : stBlock i (some (.exit j, ρ, σ)) = some (if j = i then .normal else .exit j, ρ, σ) := rfl
theorem s_loop {b : AC} : exec cy ys fuel (.loop b) ρ σ = iter (exec cy ys fuel b) fuel ρ σ := rfl
theorem s_call {tbl : FuncId → Option AF} {n f : Nat} {args : List V} {af : AF} (h : tbl f = some af) (hl : args.length ≤ af.ntmps) : callY tbl (n + 1) ys f args σ = stFin af.results (exec (callY tbl n) ys n af.code (initEnv args) σ) := by
 rw [callY_eq h hl]
 cases exec (callY tbl n) ys n af.code (initEnv args) σ with
 | none => rfl
 | some x => obtain ⟨e, ρ, σ⟩ := x; cases e <;> rfl
theorem s_finr {rs : List AR} : stFin rs (some (.ret, ρ, σ)) = (resultsOf ρ σ rs).map fun v => (v, σ) := rfl
theorem s_finn {rs : List AR} : stFin rs (some (.normal, ρ, σ)) = (resultsOf ρ σ rs).map fun v => (v, σ) := rfl
def good : Option (V × St) → Bool
 | some (.sc (.bool true), _) => true
 | _ => false
theorem good_ok {x : Option (V × St)} (h : good x = true) : ∃ σ', x = some (.sc (.bool true), σ') := by
 unfold good at h
 split at h
 · exact ⟨_, rfl⟩
 · cases h
end
end Go.Ab
