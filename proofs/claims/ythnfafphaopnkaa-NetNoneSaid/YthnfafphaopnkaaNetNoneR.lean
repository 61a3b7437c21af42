/-
  NetNone, its abstract run: a network that is none takes nothing.
-/
import Derived.Test.YthnfafphaopnkaaAbT
import Derived.Test.YthnfafphaopnkaaAbA
import Derived.Test.YthnfafphaopnkaaAbW
namespace Go.Proofs.Ythnfafphaopnkaa.netNone
open Go.Ab
set_option maxRecDepth 100000
set_option maxHeartbeats 8000000
set_option linter.unusedSimpArgs false
set_option linter.unusedVariables false
theorem k1 (a b : Int) (s : List UInt8) : good (callN Tab.tbl 80 8 [.agg [.sc (.int .i64 1), .sc (.int .i64 a), .sc (.int .i64 b), .str s]] St.empty) = true := by kernel_rfl
theorem k2 (a b : Int) (s : List UInt8) : good (callN Tab.tbl 80 8 [.agg [.sc (.int .i64 2), .sc (.int .i64 a), .sc (.int .i64 b), .str s]] St.empty) = true := by kernel_rfl
theorem k3 (a b : Int) (s : List UInt8) : good (callN Tab.tbl 80 8 [.agg [.sc (.int .i64 3), .sc (.int .i64 a), .sc (.int .i64 b), .str s]] St.empty) = true := by kernel_rfl
theorem k4 (a b : Int) (s : List UInt8) : good (callN Tab.tbl 80 8 [.agg [.sc (.int .i64 4), .sc (.int .i64 a), .sc (.int .i64 b), .str s]] St.empty) = true := by kernel_rfl
theorem k5 (a b : Int) (s : List UInt8) : good (callN Tab.tbl 80 8 [.agg [.sc (.int .i64 5), .sc (.int .i64 a), .sc (.int .i64 b), .str s]] St.empty) = true := by kernel_rfl
theorem k6 (a b : Int) (s : List UInt8) : good (callN Tab.tbl 80 8 [.agg [.sc (.int .i64 6), .sc (.int .i64 a), .sc (.int .i64 b), .str s]] St.empty) = true := by kernel_rfl
theorem pre (k a b : Int) (s : List UInt8) : (exec (callY Tab.tbl 79) noYl 79 (takeC 6 Tab.a8.code) (initEnv [.agg [.sc (.int .i64 k), .sc (.int .i64 a), .sc (.int .i64 b), .str s]]) St.empty).map (fun r => (r.1, r.2.1 1, r.2.1 2, r.2.2.get 0, r.2.2.get 1)) = some (.normal, .ptr 0 0, .ptr 1 0, some (.cells [.sc (.int .i64 k), .sc (.int .i64 a), .sc (.int .i64 b), .str s]), some (.cells [.sc (.bool false)])) := by kernel_rfl
theorem out (k a b : Int) (s : List UInt8) (h : ¬ (1 ≤ k ∧ k ≤ 6)) : good (callN Tab.tbl 80 8 [.agg [.sc (.int .i64 k), .sc (.int .i64 a), .sc (.int .i64 b), .str s]] St.empty) = true := by
  refine w_good ?_
  show W (callY Tab.tbl 80 noYl 8 [.agg [.sc (.int .i64 k), .sc (.int .i64 a), .sc (.int .i64 b), .str s]] St.empty) _
  have hp := pre k a b s
  rw [Option.map_eq_some_iff] at hp
  obtain ⟨⟨e, ρ, σ⟩, hp, he⟩ := hp
  simp only [Prod.mk.injEq] at he
  obtain ⟨rfl, e1, e2, g0, g1⟩ := he
  rw [s_call (af := Tab.a8) rfl (by simp [Tab.a8]), exec_split 6, hp]
  generalize callY Tab.tbl 79 = cy
  have l1 := St.get_lt g1
  by_cases q : k < 1
  · have q0 : decide (k < 1) = true := by simpa using q
    simp -implicitDefEqProofs (disch := first | (simp only [ne_eq, reduceCtorEq, not_false_eq_true]; done) | (simp -implicitDefEqProofs only [St.n_push, St.n_put]; done) | (simp -implicitDefEqProofs only [St.n_push, St.n_put]; omega) | omega) only [q0, e1, e2, g0, g1, dropC, Tab.a8, aPtrEq, s_nil, s_cons, s_consG, s_op, s_gtt, s_gff, s_gtf, s_gft, s_region, s_reg, s_seq, s_seqn, s_seqr, s_seqe, s_skip, s_ret, s_exit, s_cond, s_condt, s_condf, s_block, s_blockn, s_blockr, s_blocke, s_finr, s_finn, AOp.run, AO.eval, put, Option.map_some, Option.map_none, upd_self, upd_other, ne_eq, reduceCtorEq, not_false_eq_true, aInt, Nat.reduceEqDiff, initEnv, List.getElem?_cons_zero, List.getElem?_cons_succ, Option.getD_some, Bool.false_eq_true, if_false, if_true, V.bool, V.i64, resultsOf, List.mapM_cons, List.mapM_nil, AR.get, Option.bind_eq_bind, Option.bind_some, Option.pure_def, beq_tt, beq_tf, beq_ft, beq_ff, Bool.not_true, Bool.not_false, Nat.succ_ne_zero, List.map_cons, List.map_nil, aExtract, aUn, Int.reduceEq, Int.reduceBEq, Int.reduceBNe, BEq.rfl, aBox, aLoad, aStore, aPart, aPlace, aArrAddr, aArrIdx, aIdx, aLenStr, aConv, aFold, aMinMax, aEqV, aNilCheck, splice, fillV, V.cellsOf, V.oneCell, List.all_cons, List.all_nil, Bool.and_true, Bool.and_self, Option.map_some, Option.bind_some, List.drop_succ_cons, List.drop_zero, List.take_succ_cons, List.take_zero, List.length_cons, List.length_nil, Nat.reduceAdd, Nat.zero_add, Nat.add_zero, Nat.reduceLeDiff, Nat.reduceMul, Nat.mul_one, List.cons_append, List.nil_append, St.n_push, St.n_put, get_push_eq, get_push_ne, get_put_eq, get_put_ne, w_some, Nat.le_refl, true_and, and_true, and_self, List.append_nil, b_add, b_sub, b_mul, b_quo, b_rem, b_and, b_or, b_xor, b_eql, b_neq, b_lss, b_leq, b_gtr, b_geq, Int.cast_ofNat_Int, Int.toNat_zero, Int.toNat_one, Int.reduceLT, Int.reduceLE, Int.reduceToNat, Int.reduceGT, Int.reduceGE, Int.reduceNeg, decide_true, decide_false, Int.reduceAdd, Int.reduceSub, bne_self_eq_false, wrap64, d_draw, d_nil, d_e, d_cons, d_consG, d_op, d_gtt, d_gff, d_gtf, d_gft, chkAdd, effAdd, AOp.kind, chkAll, chkSee, Bool.and_true, Bool.true_and, Nat.reduceLT, s_gu, d_gu]
  · have q0 : decide (k < 1) = false := by simpa using q
    have q1 : decide (k > 6) = true := by simp; omega
    simp -implicitDefEqProofs (disch := first | (simp only [ne_eq, reduceCtorEq, not_false_eq_true]; done) | (simp -implicitDefEqProofs only [St.n_push, St.n_put]; done) | (simp -implicitDefEqProofs only [St.n_push, St.n_put]; omega) | omega) only [q0, q1, e1, e2, g0, g1, dropC, Tab.a8, aPtrEq, s_nil, s_cons, s_consG, s_op, s_gtt, s_gff, s_gtf, s_gft, s_region, s_reg, s_seq, s_seqn, s_seqr, s_seqe, s_skip, s_ret, s_exit, s_cond, s_condt, s_condf, s_block, s_blockn, s_blockr, s_blocke, s_finr, s_finn, AOp.run, AO.eval, put, Option.map_some, Option.map_none, upd_self, upd_other, ne_eq, reduceCtorEq, not_false_eq_true, aInt, Nat.reduceEqDiff, initEnv, List.getElem?_cons_zero, List.getElem?_cons_succ, Option.getD_some, Bool.false_eq_true, if_false, if_true, V.bool, V.i64, resultsOf, List.mapM_cons, List.mapM_nil, AR.get, Option.bind_eq_bind, Option.bind_some, Option.pure_def, beq_tt, beq_tf, beq_ft, beq_ff, Bool.not_true, Bool.not_false, Nat.succ_ne_zero, List.map_cons, List.map_nil, aExtract, aUn, Int.reduceEq, Int.reduceBEq, Int.reduceBNe, BEq.rfl, aBox, aLoad, aStore, aPart, aPlace, aArrAddr, aArrIdx, aIdx, aLenStr, aConv, aFold, aMinMax, aEqV, aNilCheck, splice, fillV, V.cellsOf, V.oneCell, List.all_cons, List.all_nil, Bool.and_true, Bool.and_self, Option.map_some, Option.bind_some, List.drop_succ_cons, List.drop_zero, List.take_succ_cons, List.take_zero, List.length_cons, List.length_nil, Nat.reduceAdd, Nat.zero_add, Nat.add_zero, Nat.reduceLeDiff, Nat.reduceMul, Nat.mul_one, List.cons_append, List.nil_append, St.n_push, St.n_put, get_push_eq, get_push_ne, get_put_eq, get_put_ne, w_some, Nat.le_refl, true_and, and_true, and_self, List.append_nil, b_add, b_sub, b_mul, b_quo, b_rem, b_and, b_or, b_xor, b_eql, b_neq, b_lss, b_leq, b_gtr, b_geq, Int.cast_ofNat_Int, Int.toNat_zero, Int.toNat_one, Int.reduceLT, Int.reduceLE, Int.reduceToNat, Int.reduceGT, Int.reduceGE, Int.reduceNeg, decide_true, decide_false, Int.reduceAdd, Int.reduceSub, bne_self_eq_false, wrap64, d_draw, d_nil, d_e, d_cons, d_consG, d_op, d_gtt, d_gff, d_gtf, d_gft, chkAdd, effAdd, AOp.kind, chkAll, chkSee, Bool.and_true, Bool.true_and, Nat.reduceLT, s_gu, d_gu]
theorem run' (k : Int) (_w0 : (Lit.int .i64 k).wf = true) (a : Int) (_w1 : (Lit.int .i64 a).wf = true) (b : Int) (_w2 : (Lit.int .i64 b).wf = true) (s : List UInt8) (_w3 : s.length ≤ maxLen) : good (callN Tab.tbl 80 8 [.agg [.sc (.int .i64 k), .sc (.int .i64 a), .sc (.int .i64 b), .str s]] St.empty) = true := by
  by_cases h : 1 ≤ k ∧ k ≤ 6
  · have h : k = 1 ∨ k = 2 ∨ k = 3 ∨ k = 4 ∨ k = 5 ∨ k = 6 := by omega
    rcases h with rfl | rfl | rfl | rfl | rfl | rfl
    · exact k1 a b s
    · exact k2 a b s
    · exact k3 a b s
    · exact k4 a b s
    · exact k5 a b s
    · exact k6 a b s
  · exact out k a b s h
end Go.Proofs.Ythnfafphaopnkaa.netNone
