/-
  'ClockAsks': whatever the input, the law's call returns true, and each argument reads behind the call as it read before.
  Conditions: none but the statement's own.
-/
import Derived.Test.YtkikechhkohglaaAbT
import Derived.Test.YtkikechhkohglaaAb20
import Derived.WalkKit
import Derived.ProofKit
import Derived.OpenShut
namespace Go.Proofs.Ytkikechhkohglaa.clockAsks
open Go.ChangeShapes Go.WideShapes Go.ChangeAt Go.RowKit Go.Ab
theorem own : ownKnob Try.prog.godebug = none := by kernel_rfl
theorem laid : laidOutB Try.prog = true := by kernel_rfl
set_option maxRecDepth 100000
set_option linter.unusedSimpArgs false
/-- Most's middle, its product, and Most. -/
def mq (n r : Int) : Int := (1000 * n + 999) / (1000 - r)
def mv (n r : Int) : Int := (mq n r * (1000 + r) + 999) / 1000
/-- Least's. -/
def lq (n r : Int) : Int := 1000 * (n - 1) / (1000 + r) + 1
def lv (n r : Int) : Int := if n = 0 then 0 else lq n r * (1000 - r) / 1000
theorem mul_bnd {a b x y : Int} (h0 : 0 ≤ a) (h1 : a ≤ x) (h2 : 0 ≤ b) (h3 : b ≤ y) : 0 ≤ a * b ∧ a * b ≤ x * y :=
  ⟨Int.mul_nonneg h0 h2, Int.mul_le_mul h1 h3 h2 (by omega)⟩
theorem div_bnd {a b : Int} (h0 : 0 ≤ a) (h1 : 0 < b) : 0 ≤ a / b ∧ a / b ≤ a :=
  ⟨Int.ediv_nonneg h0 (by omega), Int.ediv_le_self b h0⟩
theorem mq_bnd {n r : Int} (h0 : 0 ≤ n) (h1 : n ≤ 1099511627776) (h2 : 0 ≤ r) (h3 : r ≤ 500) : 0 ≤ mq n r ∧ mq n r ≤ 1099511628775999 := by
  have := div_bnd (a := 1000 * n + 999) (b := 1000 - r) (by omega) (by omega)
  unfold mq; omega
theorem mp_bnd {n r : Int} (h0 : 0 ≤ n) (h1 : n ≤ 1099511627776) (h2 : 0 ≤ r) (h3 : r ≤ 500) : 0 ≤ mq n r * (1000 + r) ∧ mq n r * (1000 + r) ≤ 1099511628775999 * 1500 := by
  have := mq_bnd h0 h1 h2 h3
  exact mul_bnd this.1 this.2 (by omega) (by omega)
theorem lq_bnd {n r : Int} (h0 : 1 ≤ n) (h1 : n ≤ 1099511627776) (h2 : 0 ≤ r) (_h3 : r ≤ 500) : 1 ≤ lq n r ∧ lq n r ≤ 1099511627776000 := by
  have := div_bnd (a := 1000 * (n - 1)) (b := 1000 + r) (by omega) (by omega)
  unfold lq; omega
theorem lp_bnd {n r : Int} (h0 : 1 ≤ n) (h1 : n ≤ 1099511627776) (h2 : 0 ≤ r) (h3 : r ≤ 500) : 0 ≤ lq n r * (1000 - r) ∧ lq n r * (1000 - r) ≤ 1099511627776000 * 1000 := by
  have := lq_bnd h0 h1 h2 h3
  exact mul_bnd (by omega) this.2 (by omega) (by omega)
theorem most_ok (k : Nat) (n r : Int) (h0 : 0 ≤ n) (h1 : n ≤ 1099511627776) (h2 : 0 ≤ r) (h3 : r ≤ 500) (σ : St) :
    callN Tab.tbl (k + 1) 23 [.sc (.int .i64 n), .sc (.int .i64 r)] σ = some (.tup [.sc (.int .i64 (mv n r)), .sc (.int .i64 0)], σ) := by
  rw [s_call (af := Tab.a23) rfl (by simp [Tab.a23])]
  have e1 : decide (n < 0) = false := by simp; omega
  have e2 : decide (n > 1099511627776) = false := by simp; omega
  have e3 : decide (r < 0) = false := by simp; omega
  have e4 : decide (r > 500) = false := by simp; omega
  have b1 := mq_bnd h0 h1 h2 h3
  have b2 := mp_bnd h0 h1 h2 h3
  have w1 : IntKind.i64.wrap (n + 1) = n + 1 := wrap64 (by omega) (by omega)
  have w2 : IntKind.i64.wrap (1000 * (n + 1)) = 1000 * (n + 1) := wrap64 (by omega) (by omega)
  have w3 : IntKind.i64.wrap (1000 * (n + 1) - 1) = 1000 * n + 999 := by rw [wrap64 (by omega) (by omega)]; omega
  have w4 : IntKind.i64.wrap (1000 - r) = 1000 - r := wrap64 (by omega) (by omega)
  have w5 : (1000 - r = 0) = False := by simp; omega
  have w6 : (1000 * n + 999).tdiv (1000 - r) = mq n r := Int.tdiv_eq_ediv_of_nonneg (by omega)
  have w7 : IntKind.i64.wrap (mq n r) = mq n r := wrap64 (by omega) (by omega)
  have w8 : IntKind.i64.wrap (1000 + r) = 1000 + r := wrap64 (by omega) (by omega)
  have w9 : IntKind.i64.wrap (mq n r * (1000 + r)) = mq n r * (1000 + r) := wrap64 (by omega) (by omega)
  have w10 : IntKind.i64.wrap (mq n r * (1000 + r) + 1000) = mq n r * (1000 + r) + 1000 := wrap64 (by omega) (by omega)
  have w11 : IntKind.i64.wrap (mq n r * (1000 + r) + 1000 - 1) = mq n r * (1000 + r) + 999 := by rw [wrap64 (by omega) (by omega)]; omega
  have w12 : (mq n r * (1000 + r) + 999).tdiv 1000 = mv n r := Int.tdiv_eq_ediv_of_nonneg (by omega)
  have w13 : IntKind.i64.wrap (mv n r) = mv n r := by unfold mv; exact wrap64 (by omega) (by omega)
  simp -implicitDefEqProofs only [e1, e2, e3, e4, w1, w2, w3, w4, w5, w6, w7, w8, w9, w10, w11, w12, w13, Tab.a23, s_nil, s_cons, s_consG, s_op, s_gtt, s_gff, s_gtf, s_gft, s_region, s_reg, s_seq, s_seqn, s_seqr, s_seqe, s_skip, s_ret, s_exit, s_cond, s_condt, s_condf, s_block, s_blockn, s_blockr, s_blocke, s_finr, s_finn, AOp.run, AO.eval, put, Option.map_some, Option.map_none, upd_self, upd_other, ne_eq, reduceCtorEq, not_false_eq_true, bin_int, aInt, Nat.reduceEqDiff, initEnv, List.getElem?_cons_zero, List.getElem?_cons_succ, Option.getD_some, Bool.false_eq_true, if_false, if_true, V.bool, V.i64, resultsOf, List.mapM_cons, List.mapM_nil, AR.get, Option.bind_eq_bind, Option.bind_some, Option.pure_def, beq_tt, beq_tf, beq_ft, beq_ff, Bool.not_true, Bool.not_false, Nat.succ_ne_zero, List.map_cons, List.map_nil, aExtract, aUn, Int.reduceEq, Int.reduceBEq, Int.reduceBNe, BEq.rfl]
theorem most_err (k : Nat) (n r : Int) (h : ¬ (0 ≤ n ∧ n ≤ 1099511627776 ∧ 0 ≤ r ∧ r ≤ 500)) (σ : St) :
    callN Tab.tbl (k + 1) 23 [.sc (.int .i64 n), .sc (.int .i64 r)] σ = some (.tup [.sc (.int .i64 0), .sc (.int .i64 5)], σ) := by
  rw [s_call (af := Tab.a23) rfl (by simp [Tab.a23])]
  by_cases h1 : n < 0
  · have e1 : decide (n < 0) = true := by simpa using h1
    simp -implicitDefEqProofs only [e1, Tab.a23, s_nil, s_cons, s_consG, s_op, s_gtt, s_gff, s_gtf, s_gft, s_region, s_reg, s_seq, s_seqn, s_seqr, s_seqe, s_skip, s_ret, s_exit, s_cond, s_condt, s_condf, s_block, s_blockn, s_blockr, s_blocke, s_finr, s_finn, AOp.run, AO.eval, put, Option.map_some, Option.map_none, upd_self, upd_other, ne_eq, reduceCtorEq, not_false_eq_true, bin_int, aInt, Nat.reduceEqDiff, initEnv, List.getElem?_cons_zero, List.getElem?_cons_succ, Option.getD_some, Bool.false_eq_true, if_false, if_true, V.bool, V.i64, resultsOf, List.mapM_cons, List.mapM_nil, AR.get, Option.bind_eq_bind, Option.bind_some, Option.pure_def, beq_tt, beq_tf, beq_ft, beq_ff, Bool.not_true, Bool.not_false, Nat.succ_ne_zero, List.map_cons, List.map_nil, aExtract, aUn, Int.reduceEq, Int.reduceBEq, Int.reduceBNe, BEq.rfl]
  · have e1 : decide (n < 0) = false := by simpa using h1
    by_cases h2 : n > 1099511627776
    · have e2 : decide (n > 1099511627776) = true := by simpa using h2
      simp -implicitDefEqProofs only [e1, e2, Tab.a23, s_nil, s_cons, s_consG, s_op, s_gtt, s_gff, s_gtf, s_gft, s_region, s_reg, s_seq, s_seqn, s_seqr, s_seqe, s_skip, s_ret, s_exit, s_cond, s_condt, s_condf, s_block, s_blockn, s_blockr, s_blocke, s_finr, s_finn, AOp.run, AO.eval, put, Option.map_some, Option.map_none, upd_self, upd_other, ne_eq, reduceCtorEq, not_false_eq_true, bin_int, aInt, Nat.reduceEqDiff, initEnv, List.getElem?_cons_zero, List.getElem?_cons_succ, Option.getD_some, Bool.false_eq_true, if_false, if_true, V.bool, V.i64, resultsOf, List.mapM_cons, List.mapM_nil, AR.get, Option.bind_eq_bind, Option.bind_some, Option.pure_def, beq_tt, beq_tf, beq_ft, beq_ff, Bool.not_true, Bool.not_false, Nat.succ_ne_zero, List.map_cons, List.map_nil, aExtract, aUn, Int.reduceEq, Int.reduceBEq, Int.reduceBNe, BEq.rfl]
    · have e2 : decide (n > 1099511627776) = false := by simpa using h2
      by_cases h3 : r < 0
      · have e3 : decide (r < 0) = true := by simpa using h3
        simp -implicitDefEqProofs only [e1, e2, e3, Tab.a23, s_nil, s_cons, s_consG, s_op, s_gtt, s_gff, s_gtf, s_gft, s_region, s_reg, s_seq, s_seqn, s_seqr, s_seqe, s_skip, s_ret, s_exit, s_cond, s_condt, s_condf, s_block, s_blockn, s_blockr, s_blocke, s_finr, s_finn, AOp.run, AO.eval, put, Option.map_some, Option.map_none, upd_self, upd_other, ne_eq, reduceCtorEq, not_false_eq_true, bin_int, aInt, Nat.reduceEqDiff, initEnv, List.getElem?_cons_zero, List.getElem?_cons_succ, Option.getD_some, Bool.false_eq_true, if_false, if_true, V.bool, V.i64, resultsOf, List.mapM_cons, List.mapM_nil, AR.get, Option.bind_eq_bind, Option.bind_some, Option.pure_def, beq_tt, beq_tf, beq_ft, beq_ff, Bool.not_true, Bool.not_false, Nat.succ_ne_zero, List.map_cons, List.map_nil, aExtract, aUn, Int.reduceEq, Int.reduceBEq, Int.reduceBNe, BEq.rfl]
      · have e3 : decide (r < 0) = false := by simpa using h3
        have e4 : decide (r > 500) = true := by simp; omega
        simp -implicitDefEqProofs only [e1, e2, e3, e4, Tab.a23, s_nil, s_cons, s_consG, s_op, s_gtt, s_gff, s_gtf, s_gft, s_region, s_reg, s_seq, s_seqn, s_seqr, s_seqe, s_skip, s_ret, s_exit, s_cond, s_condt, s_condf, s_block, s_blockn, s_blockr, s_blocke, s_finr, s_finn, AOp.run, AO.eval, put, Option.map_some, Option.map_none, upd_self, upd_other, ne_eq, reduceCtorEq, not_false_eq_true, bin_int, aInt, Nat.reduceEqDiff, initEnv, List.getElem?_cons_zero, List.getElem?_cons_succ, Option.getD_some, Bool.false_eq_true, if_false, if_true, V.bool, V.i64, resultsOf, List.mapM_cons, List.mapM_nil, AR.get, Option.bind_eq_bind, Option.bind_some, Option.pure_def, beq_tt, beq_tf, beq_ft, beq_ff, Bool.not_true, Bool.not_false, Nat.succ_ne_zero, List.map_cons, List.map_nil, aExtract, aUn, Int.reduceEq, Int.reduceBEq, Int.reduceBNe, BEq.rfl]
theorem least_err (k : Nat) (n r : Int) (h : ¬ (0 ≤ n ∧ n ≤ 1099511627776 ∧ 0 ≤ r ∧ r ≤ 500)) (σ : St) :
    callN Tab.tbl (k + 1) 24 [.sc (.int .i64 n), .sc (.int .i64 r)] σ = some (.tup [.sc (.int .i64 0), .sc (.int .i64 5)], σ) := by
  rw [s_call (af := Tab.a24) rfl (by simp [Tab.a24])]
  by_cases h1 : n < 0
  · have e1 : decide (n < 0) = true := by simpa using h1
    simp -implicitDefEqProofs only [e1, Tab.a24, s_nil, s_cons, s_consG, s_op, s_gtt, s_gff, s_gtf, s_gft, s_region, s_reg, s_seq, s_seqn, s_seqr, s_seqe, s_skip, s_ret, s_exit, s_cond, s_condt, s_condf, s_block, s_blockn, s_blockr, s_blocke, s_finr, s_finn, AOp.run, AO.eval, put, Option.map_some, Option.map_none, upd_self, upd_other, ne_eq, reduceCtorEq, not_false_eq_true, bin_int, aInt, Nat.reduceEqDiff, initEnv, List.getElem?_cons_zero, List.getElem?_cons_succ, Option.getD_some, Bool.false_eq_true, if_false, if_true, V.bool, V.i64, resultsOf, List.mapM_cons, List.mapM_nil, AR.get, Option.bind_eq_bind, Option.bind_some, Option.pure_def, beq_tt, beq_tf, beq_ft, beq_ff, Bool.not_true, Bool.not_false, Nat.succ_ne_zero, List.map_cons, List.map_nil, aExtract, aUn, Int.reduceEq, Int.reduceBEq, Int.reduceBNe, BEq.rfl]
  · have e1 : decide (n < 0) = false := by simpa using h1
    by_cases h2 : n > 1099511627776
    · have e2 : decide (n > 1099511627776) = true := by simpa using h2
      simp -implicitDefEqProofs only [e1, e2, Tab.a24, s_nil, s_cons, s_consG, s_op, s_gtt, s_gff, s_gtf, s_gft, s_region, s_reg, s_seq, s_seqn, s_seqr, s_seqe, s_skip, s_ret, s_exit, s_cond, s_condt, s_condf, s_block, s_blockn, s_blockr, s_blocke, s_finr, s_finn, AOp.run, AO.eval, put, Option.map_some, Option.map_none, upd_self, upd_other, ne_eq, reduceCtorEq, not_false_eq_true, bin_int, aInt, Nat.reduceEqDiff, initEnv, List.getElem?_cons_zero, List.getElem?_cons_succ, Option.getD_some, Bool.false_eq_true, if_false, if_true, V.bool, V.i64, resultsOf, List.mapM_cons, List.mapM_nil, AR.get, Option.bind_eq_bind, Option.bind_some, Option.pure_def, beq_tt, beq_tf, beq_ft, beq_ff, Bool.not_true, Bool.not_false, Nat.succ_ne_zero, List.map_cons, List.map_nil, aExtract, aUn, Int.reduceEq, Int.reduceBEq, Int.reduceBNe, BEq.rfl]
    · have e2 : decide (n > 1099511627776) = false := by simpa using h2
      by_cases h3 : r < 0
      · have e3 : decide (r < 0) = true := by simpa using h3
        simp -implicitDefEqProofs only [e1, e2, e3, Tab.a24, s_nil, s_cons, s_consG, s_op, s_gtt, s_gff, s_gtf, s_gft, s_region, s_reg, s_seq, s_seqn, s_seqr, s_seqe, s_skip, s_ret, s_exit, s_cond, s_condt, s_condf, s_block, s_blockn, s_blockr, s_blocke, s_finr, s_finn, AOp.run, AO.eval, put, Option.map_some, Option.map_none, upd_self, upd_other, ne_eq, reduceCtorEq, not_false_eq_true, bin_int, aInt, Nat.reduceEqDiff, initEnv, List.getElem?_cons_zero, List.getElem?_cons_succ, Option.getD_some, Bool.false_eq_true, if_false, if_true, V.bool, V.i64, resultsOf, List.mapM_cons, List.mapM_nil, AR.get, Option.bind_eq_bind, Option.bind_some, Option.pure_def, beq_tt, beq_tf, beq_ft, beq_ff, Bool.not_true, Bool.not_false, Nat.succ_ne_zero, List.map_cons, List.map_nil, aExtract, aUn, Int.reduceEq, Int.reduceBEq, Int.reduceBNe, BEq.rfl]
      · have e3 : decide (r < 0) = false := by simpa using h3
        have e4 : decide (r > 500) = true := by simp; omega
        simp -implicitDefEqProofs only [e1, e2, e3, e4, Tab.a24, s_nil, s_cons, s_consG, s_op, s_gtt, s_gff, s_gtf, s_gft, s_region, s_reg, s_seq, s_seqn, s_seqr, s_seqe, s_skip, s_ret, s_exit, s_cond, s_condt, s_condf, s_block, s_blockn, s_blockr, s_blocke, s_finr, s_finn, AOp.run, AO.eval, put, Option.map_some, Option.map_none, upd_self, upd_other, ne_eq, reduceCtorEq, not_false_eq_true, bin_int, aInt, Nat.reduceEqDiff, initEnv, List.getElem?_cons_zero, List.getElem?_cons_succ, Option.getD_some, Bool.false_eq_true, if_false, if_true, V.bool, V.i64, resultsOf, List.mapM_cons, List.mapM_nil, AR.get, Option.bind_eq_bind, Option.bind_some, Option.pure_def, beq_tt, beq_tf, beq_ft, beq_ff, Bool.not_true, Bool.not_false, Nat.succ_ne_zero, List.map_cons, List.map_nil, aExtract, aUn, Int.reduceEq, Int.reduceBEq, Int.reduceBNe, BEq.rfl]
theorem lq_eq {n r : Int} (h2 : 0 ≤ r) : (1000 * n + r) / (1000 + r) = lq n r := by
  unfold lq
  have : 1000 * n + r = 1000 * (n - 1) + 1 * (1000 + r) := by omega
  rw [this, Int.add_mul_ediv_right _ _ (by omega)]
theorem least_ok (k : Nat) (n r : Int) (h0 : 0 ≤ n) (h1 : n ≤ 1099511627776) (h2 : 0 ≤ r) (h3 : r ≤ 500) (σ : St) :
    callN Tab.tbl (k + 1) 24 [.sc (.int .i64 n), .sc (.int .i64 r)] σ = some (.tup [.sc (.int .i64 (lv n r)), .sc (.int .i64 0)], σ) := by
  rw [s_call (af := Tab.a24) rfl (by simp [Tab.a24])]
  have e1 : decide (n < 0) = false := by simp; omega
  have e2 : decide (n > 1099511627776) = false := by simp; omega
  have e3 : decide (r < 0) = false := by simp; omega
  have e4 : decide (r > 500) = false := by simp; omega
  by_cases hn : n = 0
  · subst hn
    simp -implicitDefEqProofs only [e1, e2, e3, e4, lv, Tab.a24, s_nil, s_cons, s_consG, s_op, s_gtt, s_gff, s_gtf, s_gft, s_region, s_reg, s_seq, s_seqn, s_seqr, s_seqe, s_skip, s_ret, s_exit, s_cond, s_condt, s_condf, s_block, s_blockn, s_blockr, s_blocke, s_finr, s_finn, AOp.run, AO.eval, put, Option.map_some, Option.map_none, upd_self, upd_other, ne_eq, reduceCtorEq, not_false_eq_true, bin_int, aInt, Nat.reduceEqDiff, initEnv, List.getElem?_cons_zero, List.getElem?_cons_succ, Option.getD_some, Bool.false_eq_true, if_false, if_true, V.bool, V.i64, resultsOf, List.mapM_cons, List.mapM_nil, AR.get, Option.bind_eq_bind, Option.bind_some, Option.pure_def, beq_tt, beq_tf, beq_ft, beq_ff, Bool.not_true, Bool.not_false, Nat.succ_ne_zero, List.map_cons, List.map_nil, aExtract, aUn, Int.reduceEq, Int.reduceBEq, Int.reduceBNe, BEq.rfl]
  · have e5 : (n == 0) = false := by simp; omega
    have hlv : lv n r = lq n r * (1000 - r) / 1000 := by simp [lv, hn]
    have b1 := lq_bnd (n := n) (r := r) (by omega) h1 h2 h3
    have b2 := lp_bnd (n := n) (r := r) (by omega) h1 h2 h3
    have w1 : IntKind.i64.wrap (n - 1) = n - 1 := wrap64 (by omega) (by omega)
    have w2 : IntKind.i64.wrap (1000 * (n - 1)) = 1000 * (n - 1) := wrap64 (by omega) (by omega)
    have w3 : IntKind.i64.wrap (1000 * (n - 1) + 1) = 1000 * (n - 1) + 1 := wrap64 (by omega) (by omega)
    have w4 : IntKind.i64.wrap (1000 * (n - 1) + 1 + 1000) = 1000 * n + 1 := by rw [wrap64 (by omega) (by omega)]; omega
    have w5 : IntKind.i64.wrap (1000 * n + 1 + r) = 1000 * n + 1 + r := wrap64 (by omega) (by omega)
    have w6 : IntKind.i64.wrap (1000 * n + 1 + r - 1) = 1000 * n + r := by rw [wrap64 (by omega) (by omega)]; omega
    have w7 : IntKind.i64.wrap (1000 + r) = 1000 + r := wrap64 (by omega) (by omega)
    have w8 : (1000 + r = 0) = False := by simp; omega
    have w9 : (1000 * n + r).tdiv (1000 + r) = lq n r := by rw [Int.tdiv_eq_ediv_of_nonneg (by omega), lq_eq h2]
    have w10 : IntKind.i64.wrap (lq n r) = lq n r := wrap64 (by omega) (by omega)
    have w11 : IntKind.i64.wrap (1000 - r) = 1000 - r := wrap64 (by omega) (by omega)
    have w12 : IntKind.i64.wrap (lq n r * (1000 - r)) = lq n r * (1000 - r) := wrap64 (by omega) (by omega)
    have w13 : (lq n r * (1000 - r)).tdiv 1000 = lv n r := by rw [hlv]; exact Int.tdiv_eq_ediv_of_nonneg (by omega)
    have w14 : IntKind.i64.wrap (lv n r) = lv n r := by rw [hlv]; exact wrap64 (by omega) (by omega)
    simp -implicitDefEqProofs only [e1, e2, e3, e4, e5, w1, w2, w3, w4, w5, w6, w7, w8, w9, w10, w11, w12, w13, w14, Tab.a24, s_nil, s_cons, s_consG, s_op, s_gtt, s_gff, s_gtf, s_gft, s_region, s_reg, s_seq, s_seqn, s_seqr, s_seqe, s_skip, s_ret, s_exit, s_cond, s_condt, s_condf, s_block, s_blockn, s_blockr, s_blocke, s_finr, s_finn, AOp.run, AO.eval, put, Option.map_some, Option.map_none, upd_self, upd_other, ne_eq, reduceCtorEq, not_false_eq_true, bin_int, aInt, Nat.reduceEqDiff, initEnv, List.getElem?_cons_zero, List.getElem?_cons_succ, Option.getD_some, Bool.false_eq_true, if_false, if_true, V.bool, V.i64, resultsOf, List.mapM_cons, List.mapM_nil, AR.get, Option.bind_eq_bind, Option.bind_some, Option.pure_def, beq_tt, beq_tf, beq_ft, beq_ff, Bool.not_true, Bool.not_false, Nat.succ_ne_zero, List.map_cons, List.map_nil, aExtract, aUn, Int.reduceEq, Int.reduceBEq, Int.reduceBNe, BEq.rfl]
theorem up_eq {a b : Int} (hb : 0 < b) : (if a % b > 0 then a / b + 1 else a / b) = (a + b - 1) / b := by
  have h1 := Int.emod_add_mul_ediv a b
  have h2 := Int.emod_nonneg a (b := b) (by omega)
  have h3 := Int.emod_lt_of_pos a hb
  have e : a + b - 1 = (a % b + b - 1) + b * (a / b) := by omega
  rw [e, Int.add_mul_ediv_left _ _ (by omega)]
  split
  · have : (a % b + b - 1) / b = 1 := by
      rw [Int.ediv_eq_iff_of_pos hb]; omega
    omega
  · have : (a % b + b - 1) / b = 0 := Int.ediv_eq_zero_of_lt (by omega) (by omega)
    omega
theorem up_ok (k : Nat) (a b : Int) (h0 : 0 ≤ a) (h1 : a ≤ 4611686018427387904) (h2 : 0 < b) (σ : St) :
    callN Tab.tbl (k + 1) 38 [.sc (.int .i64 a), .sc (.int .i64 b)] σ = some (.sc (.int .i64 ((a + b - 1) / b)), σ) := by
  rw [s_call (af := Tab.a38) rfl (by simp [Tab.a38])]
  have hd := div_bnd h0 h2
  have w1 : (b = 0) = False := by simp; omega
  have w2 : a.tdiv b = a / b := Int.tdiv_eq_ediv_of_nonneg h0
  have w3 : a.tmod b = a % b := Int.tmod_eq_emod_of_nonneg h0
  have w4 : IntKind.i64.wrap (a / b) = a / b := wrap64 (by omega) (by omega)
  have w5 : IntKind.i64.wrap (a / b + 1) = a / b + 1 := wrap64 (by omega) (by omega)
  rw [← up_eq h2]
  by_cases h : a % b > 0
  · rw [if_pos h]
    have e1 : decide (a % b > 0) = true := by simpa using h
    simp -implicitDefEqProofs only [e1, w1, w2, w3, w4, w5, Tab.a38, s_nil, s_cons, s_consG, s_op, s_gtt, s_gff, s_gtf, s_gft, s_region, s_reg, s_seq, s_seqn, s_seqr, s_seqe, s_skip, s_ret, s_exit, s_cond, s_condt, s_condf, s_block, s_blockn, s_blockr, s_blocke, s_finr, s_finn, AOp.run, AO.eval, put, Option.map_some, Option.map_none, upd_self, upd_other, ne_eq, reduceCtorEq, not_false_eq_true, bin_int, aInt, Nat.reduceEqDiff, initEnv, List.getElem?_cons_zero, List.getElem?_cons_succ, Option.getD_some, Bool.false_eq_true, if_false, if_true, V.bool, V.i64, resultsOf, List.mapM_cons, List.mapM_nil, AR.get, Option.bind_eq_bind, Option.bind_some, Option.pure_def, beq_tt, beq_tf, beq_ft, beq_ff, Bool.not_true, Bool.not_false, Nat.succ_ne_zero, List.map_cons, List.map_nil, aExtract, aUn, Int.reduceEq, Int.reduceBEq, Int.reduceBNe, BEq.rfl]
  · rw [if_neg h]
    have e1 : decide (a % b > 0) = false := by simpa using h
    simp -implicitDefEqProofs only [e1, w1, w2, w3, w4, w5, Tab.a38, s_nil, s_cons, s_consG, s_op, s_gtt, s_gff, s_gtf, s_gft, s_region, s_reg, s_seq, s_seqn, s_seqr, s_seqe, s_skip, s_ret, s_exit, s_cond, s_condt, s_condf, s_block, s_blockn, s_blockr, s_blocke, s_finr, s_finn, AOp.run, AO.eval, put, Option.map_some, Option.map_none, upd_self, upd_other, ne_eq, reduceCtorEq, not_false_eq_true, bin_int, aInt, Nat.reduceEqDiff, initEnv, List.getElem?_cons_zero, List.getElem?_cons_succ, Option.getD_some, Bool.false_eq_true, if_false, if_true, V.bool, V.i64, resultsOf, List.mapM_cons, List.mapM_nil, AR.get, Option.bind_eq_bind, Option.bind_some, Option.pure_def, beq_tt, beq_tf, beq_ft, beq_ff, Bool.not_true, Bool.not_false, Nat.succ_ne_zero, List.map_cons, List.map_nil, aExtract, aUn, Int.reduceEq, Int.reduceBEq, Int.reduceBNe, BEq.rfl]
theorem rmost_ok (k : Nat) (n r : Int) (h0 : 0 ≤ n) (h1 : n ≤ 1099511627776) (h2 : 0 ≤ r) (h3 : r ≤ 500) (σ : St) :
    callN Tab.tbl (k + 2) 26 [.sc (.int .i64 n), .sc (.int .i64 r)] σ = some (.sc (.int .i64 (mv n r)), σ) := by
  rw [s_call (af := Tab.a26) rfl (by simp [Tab.a26])]
  have b1 := mq_bnd h0 h1 h2 h3
  have b2 := mp_bnd h0 h1 h2 h3
  have hu := up_ok k (mq n r * (1000 + r)) 1000 b2.1 (by omega) (by omega) σ
  generalize callN Tab.tbl (k + 1) = call at hu
  have w1 : IntKind.i64.wrap (1000 * n) = 1000 * n := wrap64 (by omega) (by omega)
  have w2 : IntKind.i64.wrap (1000 * n + 999) = 1000 * n + 999 := wrap64 (by omega) (by omega)
  have w4 : IntKind.i64.wrap (1000 - r) = 1000 - r := wrap64 (by omega) (by omega)
  have w5 : (1000 - r = 0) = False := by simp; omega
  have w6 : (1000 * n + 999).tdiv (1000 - r) = mq n r := Int.tdiv_eq_ediv_of_nonneg (by omega)
  have w7 : IntKind.i64.wrap (mq n r) = mq n r := wrap64 (by omega) (by omega)
  have w8 : IntKind.i64.wrap (1000 + r) = 1000 + r := wrap64 (by omega) (by omega)
  have w9 : IntKind.i64.wrap (mq n r * (1000 + r)) = mq n r * (1000 + r) := wrap64 (by omega) (by omega)
  have w10 : (mq n r * (1000 + r) + 1000 - 1) / 1000 = mv n r := by unfold mv; congr 1; omega
  rw [w10] at hu
  simp -implicitDefEqProofs only [hu, w1, w2, w4, w5, w6, w7, w8, w9, Tab.a26, s_nil, s_cons, s_consG, s_op, s_gtt, s_gff, s_gtf, s_gft, s_region, s_reg, s_seq, s_seqn, s_seqr, s_seqe, s_skip, s_ret, s_exit, s_cond, s_condt, s_condf, s_block, s_blockn, s_blockr, s_blocke, s_finr, s_finn, AOp.run, AO.eval, put, Option.map_some, Option.map_none, upd_self, upd_other, ne_eq, reduceCtorEq, not_false_eq_true, bin_int, aInt, Nat.reduceEqDiff, initEnv, List.getElem?_cons_zero, List.getElem?_cons_succ, Option.getD_some, Bool.false_eq_true, if_false, if_true, V.bool, V.i64, resultsOf, List.mapM_cons, List.mapM_nil, AR.get, Option.bind_eq_bind, Option.bind_some, Option.pure_def, beq_tt, beq_tf, beq_ft, beq_ff, Bool.not_true, Bool.not_false, Nat.succ_ne_zero, List.map_cons, List.map_nil, aExtract, aUn, Int.reduceEq, Int.reduceBEq, Int.reduceBNe, BEq.rfl]
theorem rleast_ok (k : Nat) (n r : Int) (h0 : 0 ≤ n) (h1 : n ≤ 1099511627776) (h2 : 0 ≤ r) (h3 : r ≤ 500) (σ : St) :
    callN Tab.tbl (k + 2) 27 [.sc (.int .i64 n), .sc (.int .i64 r)] σ = some (.sc (.int .i64 (lv n r)), σ) := by
  rw [s_call (af := Tab.a27) rfl (by simp [Tab.a27])]
  by_cases hn : n = 0
  · subst hn
    simp -implicitDefEqProofs only [lv, Tab.a27, s_nil, s_cons, s_consG, s_op, s_gtt, s_gff, s_gtf, s_gft, s_region, s_reg, s_seq, s_seqn, s_seqr, s_seqe, s_skip, s_ret, s_exit, s_cond, s_condt, s_condf, s_block, s_blockn, s_blockr, s_blocke, s_finr, s_finn, AOp.run, AO.eval, put, Option.map_some, Option.map_none, upd_self, upd_other, ne_eq, reduceCtorEq, not_false_eq_true, bin_int, aInt, Nat.reduceEqDiff, initEnv, List.getElem?_cons_zero, List.getElem?_cons_succ, Option.getD_some, Bool.false_eq_true, if_false, if_true, V.bool, V.i64, resultsOf, List.mapM_cons, List.mapM_nil, AR.get, Option.bind_eq_bind, Option.bind_some, Option.pure_def, beq_tt, beq_tf, beq_ft, beq_ff, Bool.not_true, Bool.not_false, Nat.succ_ne_zero, List.map_cons, List.map_nil, aExtract, aUn, Int.reduceEq, Int.reduceBEq, Int.reduceBNe, BEq.rfl]
  · have e5 : (n == 0) = false := by simp; omega
    have hlv : lv n r = lq n r * (1000 - r) / 1000 := by simp [lv, hn]
    have b1 := lq_bnd (n := n) (r := r) (by omega) h1 h2 h3
    have b2 := lp_bnd (n := n) (r := r) (by omega) h1 h2 h3
    have hu := up_ok k (1000 * n - 999) (1000 + r) (by omega) (by omega) (by omega) σ
    generalize callN Tab.tbl (k + 1) = call at hu
    have w1 : IntKind.i64.wrap (1000 * n) = 1000 * n := wrap64 (by omega) (by omega)
    have w2 : IntKind.i64.wrap (1000 * n - 999) = 1000 * n - 999 := wrap64 (by omega) (by omega)
    have w7 : IntKind.i64.wrap (1000 + r) = 1000 + r := wrap64 (by omega) (by omega)
    have w8 : 1000 * n - 999 + (1000 + r) - 1 = 1000 * n + r := by omega
    rw [w8, lq_eq h2] at hu
    have w11 : IntKind.i64.wrap (1000 - r) = 1000 - r := wrap64 (by omega) (by omega)
    have w12 : IntKind.i64.wrap (lq n r * (1000 - r)) = lq n r * (1000 - r) := wrap64 (by omega) (by omega)
    have w13 : (lq n r * (1000 - r)).tdiv 1000 = lv n r := by rw [hlv]; exact Int.tdiv_eq_ediv_of_nonneg (by omega)
    have w14 : IntKind.i64.wrap (lv n r) = lv n r := by rw [hlv]; exact wrap64 (by omega) (by omega)
    simp -implicitDefEqProofs only [hu, e5, w1, w2, w7, w11, w12, w13, w14, Tab.a27, s_nil, s_cons, s_consG, s_op, s_gtt, s_gff, s_gtf, s_gft, s_region, s_reg, s_seq, s_seqn, s_seqr, s_seqe, s_skip, s_ret, s_exit, s_cond, s_condt, s_condf, s_block, s_blockn, s_blockr, s_blocke, s_finr, s_finn, AOp.run, AO.eval, put, Option.map_some, Option.map_none, upd_self, upd_other, ne_eq, reduceCtorEq, not_false_eq_true, bin_int, aInt, Nat.reduceEqDiff, initEnv, List.getElem?_cons_zero, List.getElem?_cons_succ, Option.getD_some, Bool.false_eq_true, if_false, if_true, V.bool, V.i64, resultsOf, List.mapM_cons, List.mapM_nil, AR.get, Option.bind_eq_bind, Option.bind_some, Option.pure_def, beq_tt, beq_tf, beq_ft, beq_ff, Bool.not_true, Bool.not_false, Nat.succ_ne_zero, List.map_cons, List.map_nil, aExtract, aUn, Int.reduceEq, Int.reduceBEq, Int.reduceBNe, BEq.rfl]
theorem mv_n {n r : Int} (_h0 : 1 ≤ n) (h2 : 0 ≤ r) (h3 : r ≤ 500) : mv (n - 1) r ≤ mv n r := by
  have h : mq (n - 1) r ≤ mq n r := Int.ediv_le_ediv (by omega) (by omega)
  have := Int.mul_le_mul_of_nonneg_right h (c := 1000 + r) (by omega)
  unfold mv; omega
theorem lv_nonneg {n r : Int} (h0 : 0 ≤ n) (h1 : n ≤ 1099511627776) (h2 : 0 ≤ r) (h3 : r ≤ 500) : 0 ≤ lv n r := by
  unfold lv
  split
  · exact Int.le_refl _
  · have b2 := lp_bnd (n := n) (r := r) (by omega) h1 h2 h3
    omega
theorem lv_n {n r : Int} (h0 : 1 ≤ n) (h1 : n ≤ 1099511627776) (h2 : 0 ≤ r) (h3 : r ≤ 500) : lv (n - 1) r ≤ lv n r := by
  by_cases hn : n - 1 = 0
  · have : lv (n - 1) r = 0 := by simp [lv, hn]
    rw [this]; exact lv_nonneg (by omega) h1 h2 h3
  · have hn' : ¬ n = 0 := by omega
    simp only [lv, hn, hn', if_false]
    have h : lq (n - 1) r ≤ lq n r := by
      have := Int.ediv_le_ediv (a := 1000 * (n - 1 - 1)) (b := 1000 * (n - 1)) (c := 1000 + r) (by omega) (by omega)
      unfold lq; omega
    have := Int.mul_le_mul_of_nonneg_right h (c := 1000 - r) (by omega)
    omega
theorem div_anti {a b c : Int} (ha : 0 ≤ a) (hb : 0 < b) (hc : b ≤ c) : a / c ≤ a / b := by
  rw [Int.le_ediv_iff_mul_le hb]
  have h1 : a / c * c ≤ a := Int.ediv_mul_le a (by omega)
  have h2 := Int.mul_le_mul_of_nonneg_left hc (Int.ediv_nonneg ha (show 0 ≤ c by omega))
  omega
theorem mv_r {n r : Int} (h0 : 0 ≤ n) (h1 : n ≤ 1099511627776) (h2 : 1 ≤ r) (h3 : r ≤ 500) : mv n (r - 1) ≤ mv n r := by
  have h : mq n (r - 1) ≤ mq n r := div_anti (by omega) (by omega) (by omega)
  have h5 := mq_bnd h0 h1 (r := r) (by omega) h3
  have := Int.mul_le_mul h (show 1000 + (r - 1) ≤ 1000 + r by omega) (by omega) h5.1
  unfold mv; omega
theorem lv_r {n r : Int} (h0 : 0 ≤ n) (h1 : n ≤ 1099511627776) (h2 : 1 ≤ r) (h3 : r ≤ 500) : lv n r ≤ lv n (r - 1) := by
  unfold lv
  split
  · exact Int.le_refl _
  · have h : lq n r ≤ lq n (r - 1) := by
      have := div_anti (a := 1000 * (n - 1)) (b := 1000 + (r - 1)) (c := 1000 + r) (by omega) (by omega) (by omega)
      unfold lq; omega
    have h5 := lq_bnd (n := n) (r := r - 1) (by omega) h1 (by omega) (by omega)
    have := Int.mul_le_mul h (show 1000 - r ≤ 1000 - (r - 1) by omega) (by omega) (by omega)
    omega
theorem asked_ok (k : Nat) (n r : Int) (h0 : 0 ≤ n) (h1 : n ≤ 1099511627776) (h2 : 0 ≤ r) (h3 : r ≤ 500) (σ : St) :
    callN Tab.tbl (k + 1) 25 [.sc (.int .i64 n), .sc (.int .i64 r)] σ = some (.sc (.bool true), σ) := by
  rw [s_call (af := Tab.a25) rfl (by simp [Tab.a25])]
  have e1 : decide (n ≥ 0) = true := by simpa using h0
  have e2 : decide (n ≤ 1099511627776) = true := by simpa using h1
  have e3 : decide (r ≥ 0) = true := by simpa using h2
  have e4 : decide (r ≤ 500) = true := by simpa using h3
  simp -implicitDefEqProofs only [e1, e2, e3, e4, Tab.a25, s_nil, s_cons, s_consG, s_op, s_gtt, s_gff, s_gtf, s_gft, s_region, s_reg, s_seq, s_seqn, s_seqr, s_seqe, s_skip, s_ret, s_exit, s_cond, s_condt, s_condf, s_block, s_blockn, s_blockr, s_blocke, s_finr, s_finn, AOp.run, AO.eval, put, Option.map_some, Option.map_none, upd_self, upd_other, ne_eq, reduceCtorEq, not_false_eq_true, bin_int, aInt, Nat.reduceEqDiff, initEnv, List.getElem?_cons_zero, List.getElem?_cons_succ, Option.getD_some, Bool.false_eq_true, if_false, if_true, V.bool, V.i64, resultsOf, List.mapM_cons, List.mapM_nil, AR.get, Option.bind_eq_bind, Option.bind_some, Option.pure_def, beq_tt, beq_tf, beq_ft, beq_ff, Bool.not_true, Bool.not_false, Nat.succ_ne_zero, List.map_cons, List.map_nil, aExtract, aUn, Int.reduceEq, Int.reduceBEq, Int.reduceBNe, BEq.rfl]
theorem asked_no (k : Nat) (n r : Int) (h : ¬ (0 ≤ n ∧ n ≤ 1099511627776 ∧ 0 ≤ r ∧ r ≤ 500)) (σ : St) :
    callN Tab.tbl (k + 1) 25 [.sc (.int .i64 n), .sc (.int .i64 r)] σ = some (.sc (.bool false), σ) := by
  rw [s_call (af := Tab.a25) rfl (by simp [Tab.a25])]
  by_cases h1 : n ≥ 0
  · have e1 : decide (n ≥ 0) = true := by simpa using h1
    by_cases h2 : n ≤ 1099511627776
    · have e2 : decide (n ≤ 1099511627776) = true := by simpa using h2
      by_cases h3 : r ≥ 0
      · have e3 : decide (r ≥ 0) = true := by simpa using h3
        have e4 : decide (r ≤ 500) = false := by simp; omega
        simp -implicitDefEqProofs only [e1, e2, e3, e4, Tab.a25, s_nil, s_cons, s_consG, s_op, s_gtt, s_gff, s_gtf, s_gft, s_region, s_reg, s_seq, s_seqn, s_seqr, s_seqe, s_skip, s_ret, s_exit, s_cond, s_condt, s_condf, s_block, s_blockn, s_blockr, s_blocke, s_finr, s_finn, AOp.run, AO.eval, put, Option.map_some, Option.map_none, upd_self, upd_other, ne_eq, reduceCtorEq, not_false_eq_true, bin_int, aInt, Nat.reduceEqDiff, initEnv, List.getElem?_cons_zero, List.getElem?_cons_succ, Option.getD_some, Bool.false_eq_true, if_false, if_true, V.bool, V.i64, resultsOf, List.mapM_cons, List.mapM_nil, AR.get, Option.bind_eq_bind, Option.bind_some, Option.pure_def, beq_tt, beq_tf, beq_ft, beq_ff, Bool.not_true, Bool.not_false, Nat.succ_ne_zero, List.map_cons, List.map_nil, aExtract, aUn, Int.reduceEq, Int.reduceBEq, Int.reduceBNe, BEq.rfl]
      · have e3 : decide (r ≥ 0) = false := by simp; omega
        simp -implicitDefEqProofs only [e1, e2, e3, Tab.a25, s_nil, s_cons, s_consG, s_op, s_gtt, s_gff, s_gtf, s_gft, s_region, s_reg, s_seq, s_seqn, s_seqr, s_seqe, s_skip, s_ret, s_exit, s_cond, s_condt, s_condf, s_block, s_blockn, s_blockr, s_blocke, s_finr, s_finn, AOp.run, AO.eval, put, Option.map_some, Option.map_none, upd_self, upd_other, ne_eq, reduceCtorEq, not_false_eq_true, bin_int, aInt, Nat.reduceEqDiff, initEnv, List.getElem?_cons_zero, List.getElem?_cons_succ, Option.getD_some, Bool.false_eq_true, if_false, if_true, V.bool, V.i64, resultsOf, List.mapM_cons, List.mapM_nil, AR.get, Option.bind_eq_bind, Option.bind_some, Option.pure_def, beq_tt, beq_tf, beq_ft, beq_ff, Bool.not_true, Bool.not_false, Nat.succ_ne_zero, List.map_cons, List.map_nil, aExtract, aUn, Int.reduceEq, Int.reduceBEq, Int.reduceBNe, BEq.rfl]
    · have e2 : decide (n ≤ 1099511627776) = false := by simp; omega
      simp -implicitDefEqProofs only [e1, e2, Tab.a25, s_nil, s_cons, s_consG, s_op, s_gtt, s_gff, s_gtf, s_gft, s_region, s_reg, s_seq, s_seqn, s_seqr, s_seqe, s_skip, s_ret, s_exit, s_cond, s_condt, s_condf, s_block, s_blockn, s_blockr, s_blocke, s_finr, s_finn, AOp.run, AO.eval, put, Option.map_some, Option.map_none, upd_self, upd_other, ne_eq, reduceCtorEq, not_false_eq_true, bin_int, aInt, Nat.reduceEqDiff, initEnv, List.getElem?_cons_zero, List.getElem?_cons_succ, Option.getD_some, Bool.false_eq_true, if_false, if_true, V.bool, V.i64, resultsOf, List.mapM_cons, List.mapM_nil, AR.get, Option.bind_eq_bind, Option.bind_some, Option.pure_def, beq_tt, beq_tf, beq_ft, beq_ff, Bool.not_true, Bool.not_false, Nat.succ_ne_zero, List.map_cons, List.map_nil, aExtract, aUn, Int.reduceEq, Int.reduceBEq, Int.reduceBNe, BEq.rfl]
  · have e1 : decide (n ≥ 0) = false := by simp; omega
    simp -implicitDefEqProofs only [e1, Tab.a25, s_nil, s_cons, s_consG, s_op, s_gtt, s_gff, s_gtf, s_gft, s_region, s_reg, s_seq, s_seqn, s_seqr, s_seqe, s_skip, s_ret, s_exit, s_cond, s_condt, s_condf, s_block, s_blockn, s_blockr, s_blocke, s_finr, s_finn, AOp.run, AO.eval, put, Option.map_some, Option.map_none, upd_self, upd_other, ne_eq, reduceCtorEq, not_false_eq_true, bin_int, aInt, Nat.reduceEqDiff, initEnv, List.getElem?_cons_zero, List.getElem?_cons_succ, Option.getD_some, Bool.false_eq_true, if_false, if_true, V.bool, V.i64, resultsOf, List.mapM_cons, List.mapM_nil, AR.get, Option.bind_eq_bind, Option.bind_some, Option.pure_def, beq_tt, beq_tf, beq_ft, beq_ff, Bool.not_true, Bool.not_false, Nat.succ_ne_zero, List.map_cons, List.map_nil, aExtract, aUn, Int.reduceEq, Int.reduceBEq, Int.reduceBNe, BEq.rfl]
theorem works : ∃ σ', callN Tab.tbl 39 22 [] St.empty = some (.sc (.bool true), σ') := good_ok (by kernel_rfl)
theorem run (n r : Int) : good (callN Tab.tbl 40 7 [.sc (.int .i64 n), .sc (.int .i64 r)] St.empty) = true := by
  obtain ⟨σ1, hw⟩ := works
  rw [s_call (af := Tab.a7) rfl (by simp [Tab.a7])]
  by_cases h : 0 ≤ n ∧ n ≤ 1099511627776 ∧ 0 ≤ r ∧ r ≤ 500
  · obtain ⟨h0, h1, h2, h3⟩ := h
    have f1 : callN Tab.tbl 39 23 _ _ = _ := most_ok 38 n r h0 h1 h2 h3 σ1
    have f2 : callN Tab.tbl 39 24 _ _ = _ := least_ok 38 n r h0 h1 h2 h3 σ1
    have f3 : callN Tab.tbl 39 25 _ _ = _ := asked_ok 38 n r h0 h1 h2 h3 σ1
    have f4 : callN Tab.tbl 39 26 _ _ = _ := rmost_ok 37 n r h0 h1 h2 h3 σ1
    have f5 : callN Tab.tbl 39 27 _ _ = _ := rleast_ok 37 n r h0 h1 h2 h3 σ1
    have w1 : IntKind.i64.wrap (n - 1) = n - 1 := wrap64 (by omega) (by omega)
    have w2 : IntKind.i64.wrap (r - 1) = r - 1 := wrap64 (by omega) (by omega)
    by_cases hn : n > 0
    · have e1 : decide (n > 0) = true := by simpa using hn
      have g1 : callN Tab.tbl 39 23 _ _ = _ := most_ok 38 (n - 1) r (by omega) (by omega) h2 h3 σ1
      have g2 : callN Tab.tbl 39 24 _ _ = _ := least_ok 38 (n - 1) r (by omega) (by omega) h2 h3 σ1
      have c1 : decide (mv (n - 1) r > mv n r) = false := by have := mv_n (n := n) (r := r) (by omega) h2 h3; simpa using this
      have c2 : decide (lv (n - 1) r > lv n r) = false := by have := lv_n (n := n) (r := r) (by omega) h1 h2 h3; simpa using this
      by_cases hr : r > 0
      · have e2 : decide (r > 0) = true := by simpa using hr
        have g3 : callN Tab.tbl 39 23 _ _ = _ := most_ok 38 n (r - 1) h0 h1 (by omega) (by omega) σ1
        have g4 : callN Tab.tbl 39 24 _ _ = _ := least_ok 38 n (r - 1) h0 h1 (by omega) (by omega) σ1
        have c3 : decide (mv n (r - 1) > mv n r) = false := by have := mv_r (n := n) (r := r) h0 h1 (by omega) h3; simpa using this
        have c4 : decide (lv n (r - 1) < lv n r) = false := by have := lv_r (n := n) (r := r) h0 h1 (by omega) h3; simpa using this
        generalize callN Tab.tbl 39 = call at hw f1 f2 f3 f4 f5 g1 g2 g3 g4 ⊢
        simp -implicitDefEqProofs only [hw, f1, f2, f3, f4, f5, g1, g2, g3, g4, e1, e2, c1, c2, c3, c4, w1, w2, bne_self_eq_false, Tab.a7, s_nil, s_cons, s_consG, s_op, s_gtt, s_gff, s_gtf, s_gft, s_region, s_reg, s_seq, s_seqn, s_seqr, s_seqe, s_skip, s_ret, s_exit, s_cond, s_condt, s_condf, s_block, s_blockn, s_blockr, s_blocke, s_finr, s_finn, AOp.run, AO.eval, put, Option.map_some, Option.map_none, upd_self, upd_other, ne_eq, reduceCtorEq, not_false_eq_true, bin_int, aInt, Nat.reduceEqDiff, initEnv, List.getElem?_cons_zero, List.getElem?_cons_succ, Option.getD_some, Bool.false_eq_true, if_false, if_true, V.bool, V.i64, resultsOf, List.mapM_cons, List.mapM_nil, AR.get, Option.bind_eq_bind, Option.bind_some, Option.pure_def, beq_tt, beq_tf, beq_ft, beq_ff, Bool.not_true, Bool.not_false, Nat.succ_ne_zero, List.map_cons, List.map_nil, aExtract, aUn, Int.reduceEq, Int.reduceBEq, Int.reduceBNe, BEq.rfl, good]
      · have e2 : decide (r > 0) = false := by simpa using hr
        generalize callN Tab.tbl 39 = call at hw f1 f2 f3 f4 f5 g1 g2 ⊢
        simp -implicitDefEqProofs only [hw, f1, f2, f3, f4, f5, g1, g2, e1, e2, c1, c2, w1, w2, bne_self_eq_false, Tab.a7, s_nil, s_cons, s_consG, s_op, s_gtt, s_gff, s_gtf, s_gft, s_region, s_reg, s_seq, s_seqn, s_seqr, s_seqe, s_skip, s_ret, s_exit, s_cond, s_condt, s_condf, s_block, s_blockn, s_blockr, s_blocke, s_finr, s_finn, AOp.run, AO.eval, put, Option.map_some, Option.map_none, upd_self, upd_other, ne_eq, reduceCtorEq, not_false_eq_true, bin_int, aInt, Nat.reduceEqDiff, initEnv, List.getElem?_cons_zero, List.getElem?_cons_succ, Option.getD_some, Bool.false_eq_true, if_false, if_true, V.bool, V.i64, resultsOf, List.mapM_cons, List.mapM_nil, AR.get, Option.bind_eq_bind, Option.bind_some, Option.pure_def, beq_tt, beq_tf, beq_ft, beq_ff, Bool.not_true, Bool.not_false, Nat.succ_ne_zero, List.map_cons, List.map_nil, aExtract, aUn, Int.reduceEq, Int.reduceBEq, Int.reduceBNe, BEq.rfl, good]
    · have e1 : decide (n > 0) = false := by simpa using hn
      by_cases hr : r > 0
      · have e2 : decide (r > 0) = true := by simpa using hr
        have g3 : callN Tab.tbl 39 23 _ _ = _ := most_ok 38 n (r - 1) h0 h1 (by omega) (by omega) σ1
        have g4 : callN Tab.tbl 39 24 _ _ = _ := least_ok 38 n (r - 1) h0 h1 (by omega) (by omega) σ1
        have c3 : decide (mv n (r - 1) > mv n r) = false := by have := mv_r (n := n) (r := r) h0 h1 (by omega) h3; simpa using this
        have c4 : decide (lv n (r - 1) < lv n r) = false := by have := lv_r (n := n) (r := r) h0 h1 (by omega) h3; simpa using this
        generalize callN Tab.tbl 39 = call at hw f1 f2 f3 f4 f5 g3 g4 ⊢
        simp -implicitDefEqProofs only [hw, f1, f2, f3, f4, f5, g3, g4, e1, e2, c3, c4, w1, w2, bne_self_eq_false, Tab.a7, s_nil, s_cons, s_consG, s_op, s_gtt, s_gff, s_gtf, s_gft, s_region, s_reg, s_seq, s_seqn, s_seqr, s_seqe, s_skip, s_ret, s_exit, s_cond, s_condt, s_condf, s_block, s_blockn, s_blockr, s_blocke, s_finr, s_finn, AOp.run, AO.eval, put, Option.map_some, Option.map_none, upd_self, upd_other, ne_eq, reduceCtorEq, not_false_eq_true, bin_int, aInt, Nat.reduceEqDiff, initEnv, List.getElem?_cons_zero, List.getElem?_cons_succ, Option.getD_some, Bool.false_eq_true, if_false, if_true, V.bool, V.i64, resultsOf, List.mapM_cons, List.mapM_nil, AR.get, Option.bind_eq_bind, Option.bind_some, Option.pure_def, beq_tt, beq_tf, beq_ft, beq_ff, Bool.not_true, Bool.not_false, Nat.succ_ne_zero, List.map_cons, List.map_nil, aExtract, aUn, Int.reduceEq, Int.reduceBEq, Int.reduceBNe, BEq.rfl, good]
      · have e2 : decide (r > 0) = false := by simpa using hr
        generalize callN Tab.tbl 39 = call at hw f1 f2 f3 f4 f5 ⊢
        simp -implicitDefEqProofs only [hw, f1, f2, f3, f4, f5, e1, e2, w1, w2, bne_self_eq_false, Tab.a7, s_nil, s_cons, s_consG, s_op, s_gtt, s_gff, s_gtf, s_gft, s_region, s_reg, s_seq, s_seqn, s_seqr, s_seqe, s_skip, s_ret, s_exit, s_cond, s_condt, s_condf, s_block, s_blockn, s_blockr, s_blocke, s_finr, s_finn, AOp.run, AO.eval, put, Option.map_some, Option.map_none, upd_self, upd_other, ne_eq, reduceCtorEq, not_false_eq_true, bin_int, aInt, Nat.reduceEqDiff, initEnv, List.getElem?_cons_zero, List.getElem?_cons_succ, Option.getD_some, Bool.false_eq_true, if_false, if_true, V.bool, V.i64, resultsOf, List.mapM_cons, List.mapM_nil, AR.get, Option.bind_eq_bind, Option.bind_some, Option.pure_def, beq_tt, beq_tf, beq_ft, beq_ff, Bool.not_true, Bool.not_false, Nat.succ_ne_zero, List.map_cons, List.map_nil, aExtract, aUn, Int.reduceEq, Int.reduceBEq, Int.reduceBNe, BEq.rfl, good]
  · have f1 : callN Tab.tbl 39 23 _ _ = _ := most_err 38 n r h σ1
    have f2 : callN Tab.tbl 39 24 _ _ = _ := least_err 38 n r h σ1
    have f3 : callN Tab.tbl 39 25 _ _ = _ := asked_no 38 n r h σ1
    generalize callN Tab.tbl 39 = call at hw f1 f2 f3 ⊢
    simp -implicitDefEqProofs only [hw, f1, f2, f3, Tab.a7, s_nil, s_cons, s_consG, s_op, s_gtt, s_gff, s_gtf, s_gft, s_region, s_reg, s_seq, s_seqn, s_seqr, s_seqe, s_skip, s_ret, s_exit, s_cond, s_condt, s_condf, s_block, s_blockn, s_blockr, s_blocke, s_finr, s_finn, AOp.run, AO.eval, put, Option.map_some, Option.map_none, upd_self, upd_other, ne_eq, reduceCtorEq, not_false_eq_true, bin_int, aInt, Nat.reduceEqDiff, initEnv, List.getElem?_cons_zero, List.getElem?_cons_succ, Option.getD_some, Bool.false_eq_true, if_false, if_true, V.bool, V.i64, resultsOf, List.mapM_cons, List.mapM_nil, AR.get, Option.bind_eq_bind, Option.bind_some, Option.pure_def, beq_tt, beq_tf, beq_ft, beq_ff, Bool.not_true, Bool.not_false, Nat.succ_ne_zero, List.map_cons, List.map_nil, aExtract, aUn, Int.reduceEq, Int.reduceBEq, Int.reduceBNe, BEq.rfl, good]
theorem walk {H : Type} (enc : TypeId × Value → H) (W : World) (base : Nat) (args : Array Value) (ds : List (DataW H)) (p : List MemPlace)
    (hval : ∀ (j : Nat) t v, Try.f7.params[j]? = some t → args[j]? = some v → Value.okWide Try.prog W .any base t v)
    (hA : DataW.TrodAll enc Try.prog W 0 (fun _ => true) true Try.f7.params.toList args.toList ds p) :
    ∃ vs σ', callN Tab.tbl 40 7 vs St.empty = some (.sc (.bool true), σ') ∧ RvL (Gh.of W) W vs args.toList := by
  rw [Try.params7] at hA hval
  obtain ⟨v0, vs0, d0, ds0, p0, q0, hargs0, rfl, rfl, h0, r0⟩ := trodAll_cons hA
  obtain ⟨v1, vs1, d1, ds1, p1, q1, hargs1, rfl, rfl, h1, r1⟩ := trodAll_cons r0
  subst hargs1
  obtain ⟨rfl, rfl, rfl⟩ := trodAll_nil r1
  have he : args = #[v0, v1] := by cases args; simp_all
  subst he
  obtain ⟨n0, rfl, rfl, rfl, w0⟩ := open_int Try.underlying3 (hval 0 3 v0 rfl rfl) h0
  obtain ⟨n1, rfl, rfl, rfl, w1⟩ := open_int Try.underlying3 (hval 1 3 v1 rfl rfl) h1
  obtain ⟨σ', hk⟩ := good_ok (run n0 n1)
  exact ⟨_, σ', hk, (RvL.cons Rv.int (RvL.cons Rv.int RvL.nil))⟩
set_option maxRecDepth 100000 in
theorem contract (H : Type) (enc : TypeId × Value → H) (W : World) (base : Nat) (args : Array Value) (ds gs : List (DataW H)) (before : List MemPlace)
    (hval : ∀ (j : Nat) t v, Try.f7.params[j]? = some t → args[j]? = some v → Value.okWide Try.prog W .any base t v)
    (hW : DataW.Whole enc Try.prog Try.f7.params.toList Rows.clockAsksSpec.vars false W args.toList ds gs before) :
    Calls Try.prog 7 args W fun e W' => ∃ v, e = .returned v ∧ Rows.clockAsksSpec.post enc Try.prog Try.f7 false true false false W args v W' := by
  have hW0 := hW
  obtain ⟨p, q, hA, hV, hpq, hz, hn⟩ := hW
  have hA0 : DataW.TrodAll enc Try.prog W 0 (fun _ => true) true Try.f7.params.toList args.toList ds p := hA
  obtain ⟨vs, σ', h1, h2⟩ := walk enc W base args ds p hval hA0
  have hds : ∃ x0 x1, ds = [x0, x1] := by
    rw [Try.params7] at hA
    obtain ⟨v0, vs0, d0, ds0, p0, q0, hargs0, hds0, hp0, h0, r0⟩ := trodAll_cons hA
    obtain ⟨v1, vs1, d1, ds1, p1, q1, hargs1, hds1, hp1, h1, r1⟩ := trodAll_cons r0
    obtain ⟨hargs2, hds2, hp2⟩ := trodAll_nil r1
    exact ⟨d0, d1, by rw [hds0, hds1, hds2]⟩
  refine (calls_of Tab.table Try.checked.mixed h1 h2).mono ?_
  rintro e W' ⟨rfl, hb⟩
  refine ⟨_, rfl, law_post laid (by decide +kernel) rfl rfl (by kernel_rfl) ?_ hW0 hb⟩
  obtain ⟨x0, x1, rfl⟩ := hds
  rfl
set_option maxRecDepth 100000 in
theorem lifted (os : Os) (started : os.Started) (H : Type) (enc : TypeId × Value → H) :
    ReturnsInHanded {} Try.checked os 7 .any (Rows.clockAsksSpec.pre6 enc Try.prog Try.f7 Rows.clockAsksRow.domain false) (Rows.clockAsksSpec.post enc Try.prog Try.f7 false true false false) := by
  refine returnsInHanded_of_change (C := Try.checked) own started (by kernel_rfl) Try.func7
    (ChangeSpec.witness6 (enc := enc) (C := Try.checked) false ⟨#[], #[.int .i64 0, .int .i64 0], []⟩ 8 (by kernel_rfl) (by kernel_rfl) (by kernel_rfl) (by kernel_rfl)) ?_
  intro W base args ds gs before hval hW _ _
  exact contract H enc W base args ds gs before hval hW
theorem proved : Rows.ClockAsksSaid :=
  OpenClaim.holds_of_wide 7 Try.f7 rfl rfl rfl rfl rfl rfl rfl ⟨rfl, rfl, rfl, rfl, rfl⟩ rfl rfl rfl rfl rfl (by kernel_rfl) Try.func7 (by kernel_rfl)
    (of_decide_eq_true (by kernel_rfl)) (by unfold Func.isWrapper; first | (rw [if_pos (by decide +kernel)]; kernel_rfl) | (rw [if_neg (by decide +kernel)]; exact ⟨rfl, rfl⟩))
    (fun os started H enc _ => lifted os started H enc)
end Go.Proofs.Ytkikechhkohglaa.clockAsks
