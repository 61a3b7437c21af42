/-
  The document's network: its functions, on.
-/
import Derived.Test.YthnfafphaopnkaaNetQ
namespace Go.Proofs.Ythnfafphaopnkaa.netR
open Go.Ab
set_option maxRecDepth 100000
set_option maxHeartbeats 8000000
set_option linter.unusedSimpArgs false
set_option linter.unusedVariables false

theorem twice32_ok (k : Nat) (ys : YlF) (σ : St) (fo : Option Nat) (f c : V) (cs : List (Int × Int)) (N : NS) (id : Int) (h : MR σ fo f c cs N) (hs : N.sent ≤ 1000) (hk : 1010 ≤ k) :
    W (callY Tab.tbl (k + 2) ys 32 [mV f c N, .sc (.int .i64 id)] σ) fun r => ∃ fo' f', r.1 = .tup [mV f' c (ntwice N id).1, .sc (.int .i64 (ntwice N id).2.1), .sc (.int .i64 (ntwice N id).2.2)] ∧ MR r.2 fo' f' c cs (ntwice N id).1 ∧ Kept noX σ r.2 ∧ ∀ p, fo' = some p → fo = some p ∨ σ.n ≤ p := by
  rw [s_call (af := Tab.a32) rfl (by simp [Tab.a32])]
  have hfind := fun σ (h' : Fl σ fo f N.ls) => find43_ok k ys σ fo f c N.sent N.ls id h' h.cu.cell.2 h.ln (by omega)
  have hput := fun σ l h => put42_ok k ys σ fo f c cs N l h hs
  generalize callY Tab.tbl (k + 1) = cy at hfind hput ⊢
  obtain ⟨f1, f2⟩ := h.fl.cell
  obtain ⟨c1, c2⟩ := h.cu.cell
  simp -implicitDefEqProofs (disch := first | (simp only [ne_eq, reduceCtorEq, not_false_eq_true]; done) | (simp -implicitDefEqProofs only [St.n_push, St.n_put]; done) | (simp -implicitDefEqProofs only [St.n_push, St.n_put]; omega) | omega) only [Tab.a32, mV, f1, f2, c1, c2, aCallv, aPtrEq, s_nil, s_cons, s_consG, s_op, s_gtt, s_gff, s_gtf, s_gft, s_region, s_reg, s_seq, s_seqn, s_seqr, s_seqe, s_skip, s_ret, s_exit, s_cond, s_condt, s_condf, s_block, s_blockn, s_blockr, s_blocke, s_finr, s_finn, AOp.run, AO.eval, put, Option.map_some, Option.map_none, upd_self, upd_other, ne_eq, reduceCtorEq, not_false_eq_true, aInt, Nat.reduceEqDiff, initEnv, List.getElem?_cons_zero, List.getElem?_cons_succ, Option.getD_some, Bool.false_eq_true, if_false, if_true, V.bool, V.i64, resultsOf, List.mapM_cons, List.mapM_nil, AR.get, Option.bind_eq_bind, Option.bind_some, Option.pure_def, beq_tt, beq_tf, beq_ft, beq_ff, Bool.not_true, Bool.not_false, Nat.succ_ne_zero, List.map_cons, List.map_nil, aExtract, aUn, Int.reduceEq, Int.reduceBEq, Int.reduceBNe, BEq.rfl, aBox, aLoad, aStore, aPart, aPlace, aArrAddr, aArrIdx, aIdx, aLenStr, aConv, aFold, aMinMax, aEqV, aNilCheck, splice, fillV, c_agg, c_sc, c_str, c_ptr, c_elt, c_vs, c_os, c_mp, c_fn, o_sc, o_str, o_ptr, o_elt, o_vs, o_os, o_mp, o_fn, List.all_cons, List.all_nil, Bool.and_true, Bool.and_self, Option.map_some, Option.bind_some, List.drop_succ_cons, List.drop_zero, List.take_succ_cons, List.take_zero, List.length_cons, List.length_nil, Nat.reduceAdd, Nat.zero_add, Nat.add_zero, Nat.reduceLeDiff, Nat.reduceMul, Nat.mul_one, List.cons_append, List.nil_append, St.n_push, St.n_put, get_push_eq, get_push_ne, get_put_eq, get_put_ne, w_some, Nat.le_refl, true_and, and_true, and_self, List.append_nil, b_add, b_sub, b_mul, b_quo, b_rem, b_and, b_or, b_xor, b_eql, b_neq, b_lss, b_leq, b_gtr, b_geq, Int.cast_ofNat_Int, Int.toNat_zero, Int.toNat_one, Int.reduceLT, Int.reduceLE, Int.reduceToNat, Int.reduceGT, Int.reduceGE, Int.reduceNeg, decide_true, decide_false, Int.reduceAdd, Int.reduceSub, bne_self_eq_false, wrap64, d_draw, d_nil, d_e, d_cons, d_consG, d_op, d_gtt, d_gff, d_gtf, d_gft, chkAdd, effAdd, AOp.kind, chkAll, chkSee, Bool.and_true, Bool.true_and, Nat.reduceLT, s_gu, d_gu]
  repeat (first | refine w_fin ?_ | refine w_seq ?_ | refine w_block ?_ | refine w_reg ?_ | refine w_op ?_ | refine w_dop ?_)
  refine (hfind _ (h.fl.kept (X := noX) ?_ (fun _ _ h => h))).mono ?_
  · ((repeat (first | refine Kept.push ?_ _ | refine Kept.bump ?_ | refine Kept.put ?_ (.inr (by omega)) (by first | omega | (simp only [St.n_put, St.n_push]; omega)) _)); first | exact Kept.refl _ _ | assumption)
  rintro ⟨_, σ2⟩ ⟨rfl, kc⟩
  have kk : Kept noX σ σ2 := Kept.trans (by ((repeat (first | refine Kept.push ?_ _ | refine Kept.bump ?_ | refine Kept.put ?_ (.inr (by omega)) (by first | omega | (simp only [St.n_put, St.n_push]; omega)) _)); first | exact Kept.refl _ _ | assumption)) kc
  have g0 := kc.get σ.n (.cells [f, c, .sc (.int .i64 N.sent)]) (fun h => h) (by simp -implicitDefEqProofs (disch := first | (simp only [ne_eq, reduceCtorEq, not_false_eq_true]; done) | (simp -implicitDefEqProofs only [St.n_push, St.n_put]; done) | (simp -implicitDefEqProofs only [St.n_push, St.n_put]; omega) | omega) only [aCallv, aPtrEq, s_nil, s_cons, s_consG, s_op, s_gtt, s_gff, s_gtf, s_gft, s_region, s_reg, s_seq, s_seqn, s_seqr, s_seqe, s_skip, s_ret, s_exit, s_cond, s_condt, s_condf, s_block, s_blockn, s_blockr, s_blocke, s_finr, s_finn, AOp.run, AO.eval, put, Option.map_some, Option.map_none, upd_self, upd_other, ne_eq, reduceCtorEq, not_false_eq_true, aInt, Nat.reduceEqDiff, initEnv, List.getElem?_cons_zero, List.getElem?_cons_succ, Option.getD_some, Bool.false_eq_true, if_false, if_true, V.bool, V.i64, resultsOf, List.mapM_cons, List.mapM_nil, AR.get, Option.bind_eq_bind, Option.bind_some, Option.pure_def, beq_tt, beq_tf, beq_ft, beq_ff, Bool.not_true, Bool.not_false, Nat.succ_ne_zero, List.map_cons, List.map_nil, aExtract, aUn, Int.reduceEq, Int.reduceBEq, Int.reduceBNe, BEq.rfl, aBox, aLoad, aStore, aPart, aPlace, aArrAddr, aArrIdx, aIdx, aLenStr, aConv, aFold, aMinMax, aEqV, aNilCheck, splice, fillV, c_agg, c_sc, c_str, c_ptr, c_elt, c_vs, c_os, c_mp, c_fn, o_sc, o_str, o_ptr, o_elt, o_vs, o_os, o_mp, o_fn, List.all_cons, List.all_nil, Bool.and_true, Bool.and_self, Option.map_some, Option.bind_some, List.drop_succ_cons, List.drop_zero, List.take_succ_cons, List.take_zero, List.length_cons, List.length_nil, Nat.reduceAdd, Nat.zero_add, Nat.add_zero, Nat.reduceLeDiff, Nat.reduceMul, Nat.mul_one, List.cons_append, List.nil_append, St.n_push, St.n_put, get_push_eq, get_push_ne, get_put_eq, get_put_ne, w_some, Nat.le_refl, true_and, and_true, and_self, List.append_nil, b_add, b_sub, b_mul, b_quo, b_rem, b_and, b_or, b_xor, b_eql, b_neq, b_lss, b_leq, b_gtr, b_geq, Int.cast_ofNat_Int, Int.toNat_zero, Int.toNat_one, Int.reduceLT, Int.reduceLE, Int.reduceToNat, Int.reduceGT, Int.reduceGE, Int.reduceNeg, decide_true, decide_false, Int.reduceAdd, Int.reduceSub, bne_self_eq_false, wrap64, d_draw, d_nil, d_e, d_cons, d_consG, d_op, d_gtt, d_gff, d_gtf, d_gft, chkAdd, effAdd, AOp.kind, chkAll, chkSee, Bool.and_true, Bool.true_and, Nat.reduceLT, s_gu, d_gu])
  have g1 := kc.get (σ.n + 1) (.cells [.sc .nilS, .sc .nilS, .sc (.int .i64 0)]) (fun h => h) (by simp -implicitDefEqProofs (disch := first | (simp only [ne_eq, reduceCtorEq, not_false_eq_true]; done) | (simp -implicitDefEqProofs only [St.n_push, St.n_put]; done) | (simp -implicitDefEqProofs only [St.n_push, St.n_put]; omega) | omega) only [aCallv, aPtrEq, s_nil, s_cons, s_consG, s_op, s_gtt, s_gff, s_gtf, s_gft, s_region, s_reg, s_seq, s_seqn, s_seqr, s_seqe, s_skip, s_ret, s_exit, s_cond, s_condt, s_condf, s_block, s_blockn, s_blockr, s_blocke, s_finr, s_finn, AOp.run, AO.eval, put, Option.map_some, Option.map_none, upd_self, upd_other, ne_eq, reduceCtorEq, not_false_eq_true, aInt, Nat.reduceEqDiff, initEnv, List.getElem?_cons_zero, List.getElem?_cons_succ, Option.getD_some, Bool.false_eq_true, if_false, if_true, V.bool, V.i64, resultsOf, List.mapM_cons, List.mapM_nil, AR.get, Option.bind_eq_bind, Option.bind_some, Option.pure_def, beq_tt, beq_tf, beq_ft, beq_ff, Bool.not_true, Bool.not_false, Nat.succ_ne_zero, List.map_cons, List.map_nil, aExtract, aUn, Int.reduceEq, Int.reduceBEq, Int.reduceBNe, BEq.rfl, aBox, aLoad, aStore, aPart, aPlace, aArrAddr, aArrIdx, aIdx, aLenStr, aConv, aFold, aMinMax, aEqV, aNilCheck, splice, fillV, c_agg, c_sc, c_str, c_ptr, c_elt, c_vs, c_os, c_mp, c_fn, o_sc, o_str, o_ptr, o_elt, o_vs, o_os, o_mp, o_fn, List.all_cons, List.all_nil, Bool.and_true, Bool.and_self, Option.map_some, Option.bind_some, List.drop_succ_cons, List.drop_zero, List.take_succ_cons, List.take_zero, List.length_cons, List.length_nil, Nat.reduceAdd, Nat.zero_add, Nat.add_zero, Nat.reduceLeDiff, Nat.reduceMul, Nat.mul_one, List.cons_append, List.nil_append, St.n_push, St.n_put, get_push_eq, get_push_ne, get_put_eq, get_put_ne, w_some, Nat.le_refl, true_and, and_true, and_self, List.append_nil, b_add, b_sub, b_mul, b_quo, b_rem, b_and, b_or, b_xor, b_eql, b_neq, b_lss, b_leq, b_gtr, b_geq, Int.cast_ofNat_Int, Int.toNat_zero, Int.toNat_one, Int.reduceLT, Int.reduceLE, Int.reduceToNat, Int.reduceGT, Int.reduceGE, Int.reduceNeg, decide_true, decide_false, Int.reduceAdd, Int.reduceSub, bne_self_eq_false, wrap64, d_draw, d_nil, d_e, d_cons, d_consG, d_op, d_gtt, d_gff, d_gtf, d_gft, chkAdd, effAdd, AOp.kind, chkAll, chkSee, Bool.and_true, Bool.true_and, Nat.reduceLT, s_gu, d_gu])
  dsimp only at kk g0 g1
  clear kc
  have b1 := St.get_lt g1
  unfold ntwice nfind
  cases hf : N.ls.findIdx? (·.id == id) with
  | none =>
    have d2 : decide (idx none < 0) = true := rfl
    simp -implicitDefEqProofs (disch := first | (simp only [ne_eq, reduceCtorEq, not_false_eq_true]; done) | (simp -implicitDefEqProofs only [St.n_push, St.n_put]; done) | (simp -implicitDefEqProofs only [St.n_push, St.n_put]; omega) | omega) only [g0, g1, f1, f2, c1, c2, d2, aCallv, aPtrEq, s_nil, s_cons, s_consG, s_op, s_gtt, s_gff, s_gtf, s_gft, s_region, s_reg, s_seq, s_seqn, s_seqr, s_seqe, s_skip, s_ret, s_exit, s_cond, s_condt, s_condf, s_block, s_blockn, s_blockr, s_blocke, s_finr, s_finn, AOp.run, AO.eval, put, Option.map_some, Option.map_none, upd_self, upd_other, ne_eq, reduceCtorEq, not_false_eq_true, aInt, Nat.reduceEqDiff, initEnv, List.getElem?_cons_zero, List.getElem?_cons_succ, Option.getD_some, Bool.false_eq_true, if_false, if_true, V.bool, V.i64, resultsOf, List.mapM_cons, List.mapM_nil, AR.get, Option.bind_eq_bind, Option.bind_some, Option.pure_def, beq_tt, beq_tf, beq_ft, beq_ff, Bool.not_true, Bool.not_false, Nat.succ_ne_zero, List.map_cons, List.map_nil, aExtract, aUn, Int.reduceEq, Int.reduceBEq, Int.reduceBNe, BEq.rfl, aBox, aLoad, aStore, aPart, aPlace, aArrAddr, aArrIdx, aIdx, aLenStr, aConv, aFold, aMinMax, aEqV, aNilCheck, splice, fillV, c_agg, c_sc, c_str, c_ptr, c_elt, c_vs, c_os, c_mp, c_fn, o_sc, o_str, o_ptr, o_elt, o_vs, o_os, o_mp, o_fn, List.all_cons, List.all_nil, Bool.and_true, Bool.and_self, Option.map_some, Option.bind_some, List.drop_succ_cons, List.drop_zero, List.take_succ_cons, List.take_zero, List.length_cons, List.length_nil, Nat.reduceAdd, Nat.zero_add, Nat.add_zero, Nat.reduceLeDiff, Nat.reduceMul, Nat.mul_one, List.cons_append, List.nil_append, St.n_push, St.n_put, get_push_eq, get_push_ne, get_put_eq, get_put_ne, w_some, Nat.le_refl, true_and, and_true, and_self, List.append_nil, b_add, b_sub, b_mul, b_quo, b_rem, b_and, b_or, b_xor, b_eql, b_neq, b_lss, b_leq, b_gtr, b_geq, Int.cast_ofNat_Int, Int.toNat_zero, Int.toNat_one, Int.reduceLT, Int.reduceLE, Int.reduceToNat, Int.reduceGT, Int.reduceGE, Int.reduceNeg, decide_true, decide_false, Int.reduceAdd, Int.reduceSub, bne_self_eq_false, wrap64, d_draw, d_nil, d_e, d_cons, d_consG, d_op, d_gtt, d_gff, d_gtf, d_gft, chkAdd, effAdd, AOp.kind, chkAll, chkSee, Bool.and_true, Bool.true_and, Nat.reduceLT, s_gu, d_gu]
    refine ⟨fo, f, rfl, h.kept0 ?_, ?_, fun p hp => .inl hp⟩
    all_goals ((repeat (first | refine Kept.push ?_ _ | refine Kept.bump ?_ | refine Kept.put ?_ (.inr (by omega)) (by first | omega | (simp only [St.n_put, St.n_push]; omega)) _)); first | exact Kept.refl _ _ | assumption)
  | some i =>
    have d2 : decide ((i : Int) < 0) = false := by simp only [decide_eq_false_iff_not]; omega
    obtain ⟨hi, -, -⟩ := List.findIdx?_eq_some_iff_getElem.1 hf
    have hel := List.getElem?_eq_getElem hi
    have h2 := h.kept0 kk
    obtain ⟨p, xs, rfl, ha, gp, ha1, ha2⟩ := h2.fl.at hel
    have hsize := h2.fl.size
    have e0 : idx (some i) = (i : Int) := rfl
    simp -implicitDefEqProofs (disch := first | (simp only [ne_eq, reduceCtorEq, not_false_eq_true]; done) | (simp -implicitDefEqProofs only [St.n_push, St.n_put]; done) | (simp -implicitDefEqProofs only [St.n_push, St.n_put]; omega) | omega) only [g0, g1, f1, f2, c1, c2, d2, e0, ha, gp, ha1, ha2, hsize, hel, aCallv, aPtrEq, s_nil, s_cons, s_consG, s_op, s_gtt, s_gff, s_gtf, s_gft, s_region, s_reg, s_seq, s_seqn, s_seqr, s_seqe, s_skip, s_ret, s_exit, s_cond, s_condt, s_condf, s_block, s_blockn, s_blockr, s_blocke, s_finr, s_finn, AOp.run, AO.eval, put, Option.map_some, Option.map_none, upd_self, upd_other, ne_eq, reduceCtorEq, not_false_eq_true, aInt, Nat.reduceEqDiff, initEnv, List.getElem?_cons_zero, List.getElem?_cons_succ, Option.getD_some, Bool.false_eq_true, if_false, if_true, V.bool, V.i64, resultsOf, List.mapM_cons, List.mapM_nil, AR.get, Option.bind_eq_bind, Option.bind_some, Option.pure_def, beq_tt, beq_tf, beq_ft, beq_ff, Bool.not_true, Bool.not_false, Nat.succ_ne_zero, List.map_cons, List.map_nil, aExtract, aUn, Int.reduceEq, Int.reduceBEq, Int.reduceBNe, BEq.rfl, aBox, aLoad, aStore, aPart, aPlace, aArrAddr, aArrIdx, aIdx, aLenStr, aConv, aFold, aMinMax, aEqV, aNilCheck, splice, fillV, c_agg, c_sc, c_str, c_ptr, c_elt, c_vs, c_os, c_mp, c_fn, o_sc, o_str, o_ptr, o_elt, o_vs, o_os, o_mp, o_fn, List.all_cons, List.all_nil, Bool.and_true, Bool.and_self, Option.map_some, Option.bind_some, List.drop_succ_cons, List.drop_zero, List.take_succ_cons, List.take_zero, List.length_cons, List.length_nil, Nat.reduceAdd, Nat.zero_add, Nat.add_zero, Nat.reduceLeDiff, Nat.reduceMul, Nat.mul_one, List.cons_append, List.nil_append, St.n_push, St.n_put, get_push_eq, get_push_ne, get_put_eq, get_put_ne, w_some, Nat.le_refl, true_and, and_true, and_self, List.append_nil, b_add, b_sub, b_mul, b_quo, b_rem, b_and, b_or, b_xor, b_eql, b_neq, b_lss, b_leq, b_gtr, b_geq, Int.cast_ofNat_Int, Int.toNat_zero, Int.toNat_one, Int.reduceLT, Int.reduceLE, Int.reduceToNat, Int.reduceGT, Int.reduceGE, Int.reduceNeg, decide_true, decide_false, Int.reduceAdd, Int.reduceSub, bne_self_eq_false, wrap64, d_draw, d_nil, d_e, d_cons, d_consG, d_op, d_gtt, d_gff, d_gtf, d_gft, chkAdd, effAdd, AOp.kind, chkAll, chkSee, Bool.and_true, Bool.true_and, Nat.reduceLT, s_gu, d_gu]
    repeat (first | refine w_fin ?_ | refine w_seq ?_ | refine w_block ?_ | refine w_reg ?_ | refine w_op ?_ | refine w_dop ?_)
    refine (hput σ2 N.ls[i] h2).mono ?_
    rintro ⟨_, σ3⟩ ⟨fo', f', rfl, h6, kp, h8⟩
    have j1 := kp.get _ _ (fun h => h) g1
    dsimp only at h6 kp j1
    have e1 := h6.fl.cell
    have b3 := St.get_lt j1
    have k3 := kk.trans kp
    have n2 := kk.n
    simp -implicitDefEqProofs (disch := first | (simp only [ne_eq, reduceCtorEq, not_false_eq_true]; done) | (simp -implicitDefEqProofs only [St.n_push, St.n_put]; done) | (simp -implicitDefEqProofs only [St.n_push, St.n_put]; omega) | omega) only [mV, g0, j1, e1.1, e1.2, c1, c2, aCallv, aPtrEq, s_nil, s_cons, s_consG, s_op, s_gtt, s_gff, s_gtf, s_gft, s_region, s_reg, s_seq, s_seqn, s_seqr, s_seqe, s_skip, s_ret, s_exit, s_cond, s_condt, s_condf, s_block, s_blockn, s_blockr, s_blocke, s_finr, s_finn, AOp.run, AO.eval, put, Option.map_some, Option.map_none, upd_self, upd_other, ne_eq, reduceCtorEq, not_false_eq_true, aInt, Nat.reduceEqDiff, initEnv, List.getElem?_cons_zero, List.getElem?_cons_succ, Option.getD_some, Bool.false_eq_true, if_false, if_true, V.bool, V.i64, resultsOf, List.mapM_cons, List.mapM_nil, AR.get, Option.bind_eq_bind, Option.bind_some, Option.pure_def, beq_tt, beq_tf, beq_ft, beq_ff, Bool.not_true, Bool.not_false, Nat.succ_ne_zero, List.map_cons, List.map_nil, aExtract, aUn, Int.reduceEq, Int.reduceBEq, Int.reduceBNe, BEq.rfl, aBox, aLoad, aStore, aPart, aPlace, aArrAddr, aArrIdx, aIdx, aLenStr, aConv, aFold, aMinMax, aEqV, aNilCheck, splice, fillV, c_agg, c_sc, c_str, c_ptr, c_elt, c_vs, c_os, c_mp, c_fn, o_sc, o_str, o_ptr, o_elt, o_vs, o_os, o_mp, o_fn, List.all_cons, List.all_nil, Bool.and_true, Bool.and_self, Option.map_some, Option.bind_some, List.drop_succ_cons, List.drop_zero, List.take_succ_cons, List.take_zero, List.length_cons, List.length_nil, Nat.reduceAdd, Nat.zero_add, Nat.add_zero, Nat.reduceLeDiff, Nat.reduceMul, Nat.mul_one, List.cons_append, List.nil_append, St.n_push, St.n_put, get_push_eq, get_push_ne, get_put_eq, get_put_ne, w_some, Nat.le_refl, true_and, and_true, and_self, List.append_nil, b_add, b_sub, b_mul, b_quo, b_rem, b_and, b_or, b_xor, b_eql, b_neq, b_lss, b_leq, b_gtr, b_geq, Int.cast_ofNat_Int, Int.toNat_zero, Int.toNat_one, Int.reduceLT, Int.reduceLE, Int.reduceToNat, Int.reduceGT, Int.reduceGE, Int.reduceNeg, decide_true, decide_false, Int.reduceAdd, Int.reduceSub, bne_self_eq_false, wrap64, d_draw, d_nil, d_e, d_cons, d_consG, d_op, d_gtt, d_gff, d_gtf, d_gft, chkAdd, effAdd, AOp.kind, chkAll, chkSee, Bool.and_true, Bool.true_and, Nat.reduceLT, s_gu, d_gu]
    have ne : ∀ q, fo' = some q → ¬ q = σ.n + 1 := fun q hp hq => by
      rcases h8 q hp with h9 | h9
      · cases h9
        have := h.fl.lt
        omega
      · omega
    refine ⟨fo', f', rfl, h6.kept (X := (· = σ.n + 1)) ?_ ne, ?_, fun p hp => ?_⟩
    · exact (Kept.refl (· = σ.n + 1) _).put (.inl rfl) b3 _
    · ((repeat (first | refine Kept.push ?_ _ | refine Kept.bump ?_ | refine Kept.put ?_ (.inr (by omega)) (by first | omega | (simp only [St.n_put, St.n_push]; omega)) _)); first | exact Kept.refl _ _ | assumption)
    · rcases h8 p hp with h9 | h9
      · exact .inl h9
      · exact .inr (by omega)

theorem deliver31_ok (k : Nat) (ys : YlF) (σ : St) (fo : Option Nat) (f c : V) (cs : List (Int × Int)) (N : NS) (id : Int) (h : MR σ fo f c cs N) (hk : 1010 ≤ k) :
    W (callY Tab.tbl (k + 2) ys 31 [mV f c N, .sc (.int .i64 id)] σ) fun r => ∃ fo' f', r.1 = .tup [mV f' c (ndeliver N id).1, .agg (lc (ndeliver N id).2.1), .sc (.int .i64 (ndeliver N id).2.2)] ∧ MR r.2 fo' f' c cs (ndeliver N id).1 ∧ Kept noX σ r.2 ∧ ∀ p, fo' = some p → fo = some p ∨ σ.n ≤ p := by
  rw [s_call (af := Tab.a31) rfl (by simp [Tab.a31])]
  have hfind := fun σ (h' : Fl σ fo f N.ls) => find43_ok k ys σ fo f c N.sent N.ls id h' h.cu.cell.2 h.ln (by omega)
  generalize callY Tab.tbl (k + 1) = cy at hfind ⊢
  obtain ⟨f1, f2⟩ := h.fl.cell
  obtain ⟨c1, c2⟩ := h.cu.cell
  simp -implicitDefEqProofs (disch := first | (simp only [ne_eq, reduceCtorEq, not_false_eq_true]; done) | (simp -implicitDefEqProofs only [St.n_push, St.n_put]; done) | (simp -implicitDefEqProofs only [St.n_push, St.n_put]; omega) | omega) only [Tab.a31, mV, f1, f2, c1, c2, aCallv, aPtrEq, s_nil, s_cons, s_consG, s_op, s_gtt, s_gff, s_gtf, s_gft, s_region, s_reg, s_seq, s_seqn, s_seqr, s_seqe, s_skip, s_ret, s_exit, s_cond, s_condt, s_condf, s_block, s_blockn, s_blockr, s_blocke, s_finr, s_finn, AOp.run, AO.eval, put, Option.map_some, Option.map_none, upd_self, upd_other, ne_eq, reduceCtorEq, not_false_eq_true, aInt, Nat.reduceEqDiff, initEnv, List.getElem?_cons_zero, List.getElem?_cons_succ, Option.getD_some, Bool.false_eq_true, if_false, if_true, V.bool, V.i64, resultsOf, List.mapM_cons, List.mapM_nil, AR.get, Option.bind_eq_bind, Option.bind_some, Option.pure_def, beq_tt, beq_tf, beq_ft, beq_ff, Bool.not_true, Bool.not_false, Nat.succ_ne_zero, List.map_cons, List.map_nil, aExtract, aUn, Int.reduceEq, Int.reduceBEq, Int.reduceBNe, BEq.rfl, aBox, aLoad, aStore, aPart, aPlace, aArrAddr, aArrIdx, aIdx, aLenStr, aConv, aFold, aMinMax, aEqV, aNilCheck, splice, fillV, c_agg, c_sc, c_str, c_ptr, c_elt, c_vs, c_os, c_mp, c_fn, o_sc, o_str, o_ptr, o_elt, o_vs, o_os, o_mp, o_fn, List.all_cons, List.all_nil, Bool.and_true, Bool.and_self, Option.map_some, Option.bind_some, List.drop_succ_cons, List.drop_zero, List.take_succ_cons, List.take_zero, List.length_cons, List.length_nil, Nat.reduceAdd, Nat.zero_add, Nat.add_zero, Nat.reduceLeDiff, Nat.reduceMul, Nat.mul_one, List.cons_append, List.nil_append, St.n_push, St.n_put, get_push_eq, get_push_ne, get_put_eq, get_put_ne, w_some, Nat.le_refl, true_and, and_true, and_self, List.append_nil, b_add, b_sub, b_mul, b_quo, b_rem, b_and, b_or, b_xor, b_eql, b_neq, b_lss, b_leq, b_gtr, b_geq, Int.cast_ofNat_Int, Int.toNat_zero, Int.toNat_one, Int.reduceLT, Int.reduceLE, Int.reduceToNat, Int.reduceGT, Int.reduceGE, Int.reduceNeg, decide_true, decide_false, Int.reduceAdd, Int.reduceSub, bne_self_eq_false, wrap64, d_draw, d_nil, d_e, d_cons, d_consG, d_op, d_gtt, d_gff, d_gtf, d_gft, chkAdd, effAdd, AOp.kind, chkAll, chkSee, Bool.and_true, Bool.true_and, Nat.reduceLT, s_gu, d_gu]
  repeat (first | refine w_fin ?_ | refine w_seq ?_ | refine w_block ?_ | refine w_reg ?_ | refine w_op ?_ | refine w_dop ?_)
  refine (hfind _ (h.fl.kept (X := noX) ?_ (fun _ _ h => h))).mono ?_
  · ((repeat (first | refine Kept.push ?_ _ | refine Kept.bump ?_ | refine Kept.put ?_ (.inr (by omega)) (by first | omega | (simp only [St.n_put, St.n_push]; omega)) _)); first | exact Kept.refl _ _ | assumption)
  rintro ⟨_, σ2⟩ ⟨rfl, kc⟩
  have kk : Kept noX σ σ2 := Kept.trans (by ((repeat (first | refine Kept.push ?_ _ | refine Kept.bump ?_ | refine Kept.put ?_ (.inr (by omega)) (by first | omega | (simp only [St.n_put, St.n_push]; omega)) _)); first | exact Kept.refl _ _ | assumption)) kc
  have g0 := kc.get σ.n (.cells [f, c, .sc (.int .i64 N.sent)]) (fun h => h) (by simp -implicitDefEqProofs (disch := first | (simp only [ne_eq, reduceCtorEq, not_false_eq_true]; done) | (simp -implicitDefEqProofs only [St.n_push, St.n_put]; done) | (simp -implicitDefEqProofs only [St.n_push, St.n_put]; omega) | omega) only [aCallv, aPtrEq, s_nil, s_cons, s_consG, s_op, s_gtt, s_gff, s_gtf, s_gft, s_region, s_reg, s_seq, s_seqn, s_seqr, s_seqe, s_skip, s_ret, s_exit, s_cond, s_condt, s_condf, s_block, s_blockn, s_blockr, s_blocke, s_finr, s_finn, AOp.run, AO.eval, put, Option.map_some, Option.map_none, upd_self, upd_other, ne_eq, reduceCtorEq, not_false_eq_true, aInt, Nat.reduceEqDiff, initEnv, List.getElem?_cons_zero, List.getElem?_cons_succ, Option.getD_some, Bool.false_eq_true, if_false, if_true, V.bool, V.i64, resultsOf, List.mapM_cons, List.mapM_nil, AR.get, Option.bind_eq_bind, Option.bind_some, Option.pure_def, beq_tt, beq_tf, beq_ft, beq_ff, Bool.not_true, Bool.not_false, Nat.succ_ne_zero, List.map_cons, List.map_nil, aExtract, aUn, Int.reduceEq, Int.reduceBEq, Int.reduceBNe, BEq.rfl, aBox, aLoad, aStore, aPart, aPlace, aArrAddr, aArrIdx, aIdx, aLenStr, aConv, aFold, aMinMax, aEqV, aNilCheck, splice, fillV, c_agg, c_sc, c_str, c_ptr, c_elt, c_vs, c_os, c_mp, c_fn, o_sc, o_str, o_ptr, o_elt, o_vs, o_os, o_mp, o_fn, List.all_cons, List.all_nil, Bool.and_true, Bool.and_self, Option.map_some, Option.bind_some, List.drop_succ_cons, List.drop_zero, List.take_succ_cons, List.take_zero, List.length_cons, List.length_nil, Nat.reduceAdd, Nat.zero_add, Nat.add_zero, Nat.reduceLeDiff, Nat.reduceMul, Nat.mul_one, List.cons_append, List.nil_append, St.n_push, St.n_put, get_push_eq, get_push_ne, get_put_eq, get_put_ne, w_some, Nat.le_refl, true_and, and_true, and_self, List.append_nil, b_add, b_sub, b_mul, b_quo, b_rem, b_and, b_or, b_xor, b_eql, b_neq, b_lss, b_leq, b_gtr, b_geq, Int.cast_ofNat_Int, Int.toNat_zero, Int.toNat_one, Int.reduceLT, Int.reduceLE, Int.reduceToNat, Int.reduceGT, Int.reduceGE, Int.reduceNeg, decide_true, decide_false, Int.reduceAdd, Int.reduceSub, bne_self_eq_false, wrap64, d_draw, d_nil, d_e, d_cons, d_consG, d_op, d_gtt, d_gff, d_gtf, d_gft, chkAdd, effAdd, AOp.kind, chkAll, chkSee, Bool.and_true, Bool.true_and, Nat.reduceLT, s_gu, d_gu])
  have g1 := kc.get (σ.n + 1) (.cells [.sc .nilS, .sc .nilS, .sc (.int .i64 0)]) (fun h => h) (by simp -implicitDefEqProofs (disch := first | (simp only [ne_eq, reduceCtorEq, not_false_eq_true]; done) | (simp -implicitDefEqProofs only [St.n_push, St.n_put]; done) | (simp -implicitDefEqProofs only [St.n_push, St.n_put]; omega) | omega) only [aCallv, aPtrEq, s_nil, s_cons, s_consG, s_op, s_gtt, s_gff, s_gtf, s_gft, s_region, s_reg, s_seq, s_seqn, s_seqr, s_seqe, s_skip, s_ret, s_exit, s_cond, s_condt, s_condf, s_block, s_blockn, s_blockr, s_blocke, s_finr, s_finn, AOp.run, AO.eval, put, Option.map_some, Option.map_none, upd_self, upd_other, ne_eq, reduceCtorEq, not_false_eq_true, aInt, Nat.reduceEqDiff, initEnv, List.getElem?_cons_zero, List.getElem?_cons_succ, Option.getD_some, Bool.false_eq_true, if_false, if_true, V.bool, V.i64, resultsOf, List.mapM_cons, List.mapM_nil, AR.get, Option.bind_eq_bind, Option.bind_some, Option.pure_def, beq_tt, beq_tf, beq_ft, beq_ff, Bool.not_true, Bool.not_false, Nat.succ_ne_zero, List.map_cons, List.map_nil, aExtract, aUn, Int.reduceEq, Int.reduceBEq, Int.reduceBNe, BEq.rfl, aBox, aLoad, aStore, aPart, aPlace, aArrAddr, aArrIdx, aIdx, aLenStr, aConv, aFold, aMinMax, aEqV, aNilCheck, splice, fillV, c_agg, c_sc, c_str, c_ptr, c_elt, c_vs, c_os, c_mp, c_fn, o_sc, o_str, o_ptr, o_elt, o_vs, o_os, o_mp, o_fn, List.all_cons, List.all_nil, Bool.and_true, Bool.and_self, Option.map_some, Option.bind_some, List.drop_succ_cons, List.drop_zero, List.take_succ_cons, List.take_zero, List.length_cons, List.length_nil, Nat.reduceAdd, Nat.zero_add, Nat.add_zero, Nat.reduceLeDiff, Nat.reduceMul, Nat.mul_one, List.cons_append, List.nil_append, St.n_push, St.n_put, get_push_eq, get_push_ne, get_put_eq, get_put_ne, w_some, Nat.le_refl, true_and, and_true, and_self, List.append_nil, b_add, b_sub, b_mul, b_quo, b_rem, b_and, b_or, b_xor, b_eql, b_neq, b_lss, b_leq, b_gtr, b_geq, Int.cast_ofNat_Int, Int.toNat_zero, Int.toNat_one, Int.reduceLT, Int.reduceLE, Int.reduceToNat, Int.reduceGT, Int.reduceGE, Int.reduceNeg, decide_true, decide_false, Int.reduceAdd, Int.reduceSub, bne_self_eq_false, wrap64, d_draw, d_nil, d_e, d_cons, d_consG, d_op, d_gtt, d_gff, d_gtf, d_gft, chkAdd, effAdd, AOp.kind, chkAll, chkSee, Bool.and_true, Bool.true_and, Nat.reduceLT, s_gu, d_gu])
  have g2 := kc.get (σ.n + 1 + 1) (.cells [.sc (.int .i64 0), .sc (.int .i64 0), .sc (.int .i64 0), .str []]) (fun h => h) (by simp -implicitDefEqProofs (disch := first | (simp only [ne_eq, reduceCtorEq, not_false_eq_true]; done) | (simp -implicitDefEqProofs only [St.n_push, St.n_put]; done) | (simp -implicitDefEqProofs only [St.n_push, St.n_put]; omega) | omega) only [aCallv, aPtrEq, s_nil, s_cons, s_consG, s_op, s_gtt, s_gff, s_gtf, s_gft, s_region, s_reg, s_seq, s_seqn, s_seqr, s_seqe, s_skip, s_ret, s_exit, s_cond, s_condt, s_condf, s_block, s_blockn, s_blockr, s_blocke, s_finr, s_finn, AOp.run, AO.eval, put, Option.map_some, Option.map_none, upd_self, upd_other, ne_eq, reduceCtorEq, not_false_eq_true, aInt, Nat.reduceEqDiff, initEnv, List.getElem?_cons_zero, List.getElem?_cons_succ, Option.getD_some, Bool.false_eq_true, if_false, if_true, V.bool, V.i64, resultsOf, List.mapM_cons, List.mapM_nil, AR.get, Option.bind_eq_bind, Option.bind_some, Option.pure_def, beq_tt, beq_tf, beq_ft, beq_ff, Bool.not_true, Bool.not_false, Nat.succ_ne_zero, List.map_cons, List.map_nil, aExtract, aUn, Int.reduceEq, Int.reduceBEq, Int.reduceBNe, BEq.rfl, aBox, aLoad, aStore, aPart, aPlace, aArrAddr, aArrIdx, aIdx, aLenStr, aConv, aFold, aMinMax, aEqV, aNilCheck, splice, fillV, c_agg, c_sc, c_str, c_ptr, c_elt, c_vs, c_os, c_mp, c_fn, o_sc, o_str, o_ptr, o_elt, o_vs, o_os, o_mp, o_fn, List.all_cons, List.all_nil, Bool.and_true, Bool.and_self, Option.map_some, Option.bind_some, List.drop_succ_cons, List.drop_zero, List.take_succ_cons, List.take_zero, List.length_cons, List.length_nil, Nat.reduceAdd, Nat.zero_add, Nat.add_zero, Nat.reduceLeDiff, Nat.reduceMul, Nat.mul_one, List.cons_append, List.nil_append, St.n_push, St.n_put, get_push_eq, get_push_ne, get_put_eq, get_put_ne, w_some, Nat.le_refl, true_and, and_true, and_self, List.append_nil, b_add, b_sub, b_mul, b_quo, b_rem, b_and, b_or, b_xor, b_eql, b_neq, b_lss, b_leq, b_gtr, b_geq, Int.cast_ofNat_Int, Int.toNat_zero, Int.toNat_one, Int.reduceLT, Int.reduceLE, Int.reduceToNat, Int.reduceGT, Int.reduceGE, Int.reduceNeg, decide_true, decide_false, Int.reduceAdd, Int.reduceSub, bne_self_eq_false, wrap64, d_draw, d_nil, d_e, d_cons, d_consG, d_op, d_gtt, d_gff, d_gtf, d_gft, chkAdd, effAdd, AOp.kind, chkAll, chkSee, Bool.and_true, Bool.true_and, Nat.reduceLT, s_gu, d_gu])
  dsimp only at kk g0 g1 g2
  clear kc
  have b1 := St.get_lt g1
  have b2 := St.get_lt g2
  unfold ndeliver nfind
  cases hf : N.ls.findIdx? (·.id == id) with
  | none =>
    have d2 : decide (idx none < 0) = true := rfl
    simp -implicitDefEqProofs (disch := first | (simp only [ne_eq, reduceCtorEq, not_false_eq_true]; done) | (simp -implicitDefEqProofs only [St.n_push, St.n_put]; done) | (simp -implicitDefEqProofs only [St.n_push, St.n_put]; omega) | omega) only [g0, g1, g2, f1, f2, c1, c2, d2, l0, lc, aCallv, aPtrEq, s_nil, s_cons, s_consG, s_op, s_gtt, s_gff, s_gtf, s_gft, s_region, s_reg, s_seq, s_seqn, s_seqr, s_seqe, s_skip, s_ret, s_exit, s_cond, s_condt, s_condf, s_block, s_blockn, s_blockr, s_blocke, s_finr, s_finn, AOp.run, AO.eval, put, Option.map_some, Option.map_none, upd_self, upd_other, ne_eq, reduceCtorEq, not_false_eq_true, aInt, Nat.reduceEqDiff, initEnv, List.getElem?_cons_zero, List.getElem?_cons_succ, Option.getD_some, Bool.false_eq_true, if_false, if_true, V.bool, V.i64, resultsOf, List.mapM_cons, List.mapM_nil, AR.get, Option.bind_eq_bind, Option.bind_some, Option.pure_def, beq_tt, beq_tf, beq_ft, beq_ff, Bool.not_true, Bool.not_false, Nat.succ_ne_zero, List.map_cons, List.map_nil, aExtract, aUn, Int.reduceEq, Int.reduceBEq, Int.reduceBNe, BEq.rfl, aBox, aLoad, aStore, aPart, aPlace, aArrAddr, aArrIdx, aIdx, aLenStr, aConv, aFold, aMinMax, aEqV, aNilCheck, splice, fillV, c_agg, c_sc, c_str, c_ptr, c_elt, c_vs, c_os, c_mp, c_fn, o_sc, o_str, o_ptr, o_elt, o_vs, o_os, o_mp, o_fn, List.all_cons, List.all_nil, Bool.and_true, Bool.and_self, Option.map_some, Option.bind_some, List.drop_succ_cons, List.drop_zero, List.take_succ_cons, List.take_zero, List.length_cons, List.length_nil, Nat.reduceAdd, Nat.zero_add, Nat.add_zero, Nat.reduceLeDiff, Nat.reduceMul, Nat.mul_one, List.cons_append, List.nil_append, St.n_push, St.n_put, get_push_eq, get_push_ne, get_put_eq, get_put_ne, w_some, Nat.le_refl, true_and, and_true, and_self, List.append_nil, b_add, b_sub, b_mul, b_quo, b_rem, b_and, b_or, b_xor, b_eql, b_neq, b_lss, b_leq, b_gtr, b_geq, Int.cast_ofNat_Int, Int.toNat_zero, Int.toNat_one, Int.reduceLT, Int.reduceLE, Int.reduceToNat, Int.reduceGT, Int.reduceGE, Int.reduceNeg, decide_true, decide_false, Int.reduceAdd, Int.reduceSub, bne_self_eq_false, wrap64, d_draw, d_nil, d_e, d_cons, d_consG, d_op, d_gtt, d_gff, d_gtf, d_gft, chkAdd, effAdd, AOp.kind, chkAll, chkSee, Bool.and_true, Bool.true_and, Nat.reduceLT, s_gu, d_gu]
    refine ⟨fo, f, rfl, h.kept0 ?_, ?_, fun p hp => .inl hp⟩
    all_goals ((repeat (first | refine Kept.push ?_ _ | refine Kept.bump ?_ | refine Kept.put ?_ (.inr (by omega)) (by first | omega | (simp only [St.n_put, St.n_push]; omega)) _)); first | exact Kept.refl _ _ | assumption)
  | some i =>
    have d2 : decide ((i : Int) < 0) = false := by simp only [decide_eq_false_iff_not]; omega
    obtain ⟨hi, -, -⟩ := List.findIdx?_eq_some_iff_getElem.1 hf
    have hel := List.getElem?_eq_getElem hi
    have h2 := h.kept0 kk
    have hsize := h2.fl.size
    have hln := h.ln
    have e0 : idx (some i) = (i : Int) := rfl
    have n2 := kk.n
    -- a new row
    have k3 : Kept noX σ2 ((σ2.push (.cells [.sc .nilS, .sc .nilS, .sc (.int .i64 0)])).put σ2.n (some (.cells [.sc .nilS, c, .sc (.int .i64 N.sent)]))) := by ((repeat (first | refine Kept.push ?_ _ | refine Kept.bump ?_ | refine Kept.put ?_ (.inr (by omega)) (by first | omega | (simp only [St.n_put, St.n_push]; omega)) _)); first | exact Kept.refl _ _ | assumption)
    have g3 : ((σ2.push (.cells [.sc .nilS, .sc .nilS, .sc (.int .i64 0)])).put σ2.n (some (.cells [.sc .nilS, c, .sc (.int .i64 N.sent)]))).get σ2.n = some (.cells [.sc .nilS, c, .sc (.int .i64 N.sent)]) := get_put_self get_push_self
    generalize hσ3 : (σ2.push (.cells [.sc .nilS, .sc .nilS, .sc (.int .i64 0)])).put σ2.n (some (.cells [.sc .nilS, c, .sc (.int .i64 N.sent)])) = σ3 at k3 g3
    have g30 := k3.get _ _ (fun h => h) g0
    have g31 := k3.get _ _ (fun h => h) g1
    have g32 := k3.get _ _ (fun h => h) g2
    have h3 := h2.kept0 k3
    obtain ⟨y, hy1, hy2⟩ := h3.fl.take hi
    simp -implicitDefEqProofs (disch := first | (simp only [ne_eq, reduceCtorEq, not_false_eq_true]; done) | (simp -implicitDefEqProofs only [St.n_push, St.n_put]; done) | (simp -implicitDefEqProofs only [St.n_push, St.n_put]; omega) | omega) only [g0, g1, f1, f2, c1, c2, d2, e0, hσ3, g3, g30, hy1, hsize, aCallv, aPtrEq, s_nil, s_cons, s_consG, s_op, s_gtt, s_gff, s_gtf, s_gft, s_region, s_reg, s_seq, s_seqn, s_seqr, s_seqe, s_skip, s_ret, s_exit, s_cond, s_condt, s_condf, s_block, s_blockn, s_blockr, s_blocke, s_finr, s_finn, AOp.run, AO.eval, put, Option.map_some, Option.map_none, upd_self, upd_other, ne_eq, reduceCtorEq, not_false_eq_true, aInt, Nat.reduceEqDiff, initEnv, List.getElem?_cons_zero, List.getElem?_cons_succ, Option.getD_some, Bool.false_eq_true, if_false, if_true, V.bool, V.i64, resultsOf, List.mapM_cons, List.mapM_nil, AR.get, Option.bind_eq_bind, Option.bind_some, Option.pure_def, beq_tt, beq_tf, beq_ft, beq_ff, Bool.not_true, Bool.not_false, Nat.succ_ne_zero, List.map_cons, List.map_nil, aExtract, aUn, Int.reduceEq, Int.reduceBEq, Int.reduceBNe, BEq.rfl, aBox, aLoad, aStore, aPart, aPlace, aArrAddr, aArrIdx, aIdx, aLenStr, aConv, aFold, aMinMax, aEqV, aNilCheck, splice, fillV, c_agg, c_sc, c_str, c_ptr, c_elt, c_vs, c_os, c_mp, c_fn, o_sc, o_str, o_ptr, o_elt, o_vs, o_os, o_mp, o_fn, List.all_cons, List.all_nil, Bool.and_true, Bool.and_self, Option.map_some, Option.bind_some, List.drop_succ_cons, List.drop_zero, List.take_succ_cons, List.take_zero, List.length_cons, List.length_nil, Nat.reduceAdd, Nat.zero_add, Nat.add_zero, Nat.reduceLeDiff, Nat.reduceMul, Nat.mul_one, List.cons_append, List.nil_append, St.n_push, St.n_put, get_push_eq, get_push_ne, get_put_eq, get_put_ne, w_some, Nat.le_refl, true_and, and_true, and_self, List.append_nil, b_add, b_sub, b_mul, b_quo, b_rem, b_and, b_or, b_xor, b_eql, b_neq, b_lss, b_leq, b_gtr, b_geq, Int.cast_ofNat_Int, Int.toNat_zero, Int.toNat_one, Int.reduceLT, Int.reduceLE, Int.reduceToNat, Int.reduceGT, Int.reduceGE, Int.reduceNeg, decide_true, decide_false, Int.reduceAdd, Int.reduceSub, bne_self_eq_false, wrap64, d_draw, d_nil, d_e, d_cons, d_consG, d_op, d_gtt, d_gff, d_gtf, d_gft, chkAdd, effAdd, AOp.kind, chkAll, chkSee, Bool.and_true, Bool.true_and, Nat.reduceLT, s_gu, d_gu]
    repeat (first | refine w_fin ?_ | refine w_seq ?_ | refine w_block ?_ | refine w_reg ?_ | refine w_op ?_ | refine w_dop ?_)
    refine (appM (σ0 := σ2) k3 (fo := none) (ls := []) (m := N.ls.take i) ⟨.nil, fun _ _ h => by cases h⟩ (fun _ h => by cases h) hy2 (by simp) (by simp; omega)).mono ?_
    rintro ⟨v, σ4⟩ ⟨fo4, hfe, hfo4, k4, mv⟩
    have g40 := mv.kept.get _ _ (fun h => by cases h) g30
    have g43 := mv.kept.get _ _ (fun h => by cases h) g3
    have own := mv.own
    dsimp only at hfe k4 g40 g43 own
    clear mv
    have hn3 := St.get_lt g3
    obtain ⟨v1, v2⟩ := hfe.1.cell
    have b43 := St.get_lt g43
    have ne4 : ∀ p, fo4 = some p → ¬ p = σ2.n := fun p hp => by
      rcases own p hp with h | h
      · cases h
      · omega
    have h4 := h2.kept0 k4
    have k5 : Kept noX σ2 (σ4.put σ2.n (some (.cells [v, c, .sc (.int .i64 N.sent)]))) := by ((repeat (first | refine Kept.push ?_ _ | refine Kept.bump ?_ | refine Kept.put ?_ (.inr (by omega)) (by first | omega | (simp only [St.n_put, St.n_push]; omega)) _)); first | exact Kept.refl _ _ | assumption)
    have hfe5 : Fe (σ4.put σ2.n (some (.cells [v, c, .sc (.int .i64 N.sent)]))) fo4 v ([] ++ N.ls.take i) := hfe.kept (X := (· = σ2.n)) ((Kept.refl (· = σ2.n) _).put (.inl rfl) b43 _) ne4
    have g53 : (σ4.put σ2.n (some (.cells [v, c, .sc (.int .i64 N.sent)]))).get σ2.n = some (.cells [v, c, .sc (.int .i64 N.sent)]) := get_put_self g43
    generalize hσ5 : σ4.put σ2.n (some (.cells [v, c, .sc (.int .i64 N.sent)])) = σ5 at k5 hfe5 g53
    have g50 := k5.get _ _ (fun h => h) g0
    have h5 := h2.kept0 k5
    obtain ⟨z, hz1, hz2⟩ := h5.fl.drop hi
    have w1 : IntKind.i64.wrap ((i : Int) + 1) = (i : Int) + 1 := wrap64 (by omega) (by omega)
    rw [List.nil_append] at hfe5
    simp -implicitDefEqProofs (disch := first | (simp only [ne_eq, reduceCtorEq, not_false_eq_true]; done) | (simp -implicitDefEqProofs only [St.n_push, St.n_put]; done) | (simp -implicitDefEqProofs only [St.n_push, St.n_put]; omega) | omega) only [g40, g43, v1, v2, hσ5, g50, g53, hz1, hsize, w1, aCallv, aPtrEq, s_nil, s_cons, s_consG, s_op, s_gtt, s_gff, s_gtf, s_gft, s_region, s_reg, s_seq, s_seqn, s_seqr, s_seqe, s_skip, s_ret, s_exit, s_cond, s_condt, s_condf, s_block, s_blockn, s_blockr, s_blocke, s_finr, s_finn, AOp.run, AO.eval, put, Option.map_some, Option.map_none, upd_self, upd_other, ne_eq, reduceCtorEq, not_false_eq_true, aInt, Nat.reduceEqDiff, initEnv, List.getElem?_cons_zero, List.getElem?_cons_succ, Option.getD_some, Bool.false_eq_true, if_false, if_true, V.bool, V.i64, resultsOf, List.mapM_cons, List.mapM_nil, AR.get, Option.bind_eq_bind, Option.bind_some, Option.pure_def, beq_tt, beq_tf, beq_ft, beq_ff, Bool.not_true, Bool.not_false, Nat.succ_ne_zero, List.map_cons, List.map_nil, aExtract, aUn, Int.reduceEq, Int.reduceBEq, Int.reduceBNe, BEq.rfl, aBox, aLoad, aStore, aPart, aPlace, aArrAddr, aArrIdx, aIdx, aLenStr, aConv, aFold, aMinMax, aEqV, aNilCheck, splice, fillV, c_agg, c_sc, c_str, c_ptr, c_elt, c_vs, c_os, c_mp, c_fn, o_sc, o_str, o_ptr, o_elt, o_vs, o_os, o_mp, o_fn, List.all_cons, List.all_nil, Bool.and_true, Bool.and_self, Option.map_some, Option.bind_some, List.drop_succ_cons, List.drop_zero, List.take_succ_cons, List.take_zero, List.length_cons, List.length_nil, Nat.reduceAdd, Nat.zero_add, Nat.add_zero, Nat.reduceLeDiff, Nat.reduceMul, Nat.mul_one, List.cons_append, List.nil_append, St.n_push, St.n_put, get_push_eq, get_push_ne, get_put_eq, get_put_ne, w_some, Nat.le_refl, true_and, and_true, and_self, List.append_nil, b_add, b_sub, b_mul, b_quo, b_rem, b_and, b_or, b_xor, b_eql, b_neq, b_lss, b_leq, b_gtr, b_geq, Int.cast_ofNat_Int, Int.toNat_zero, Int.toNat_one, Int.reduceLT, Int.reduceLE, Int.reduceToNat, Int.reduceGT, Int.reduceGE, Int.reduceNeg, decide_true, decide_false, Int.reduceAdd, Int.reduceSub, bne_self_eq_false, wrap64, d_draw, d_nil, d_e, d_cons, d_consG, d_op, d_gtt, d_gff, d_gtf, d_gft, chkAdd, effAdd, AOp.kind, chkAll, chkSee, Bool.and_true, Bool.true_and, Nat.reduceLT, s_gu, d_gu]
    repeat (first | refine w_fin ?_ | refine w_seq ?_ | refine w_block ?_ | refine w_reg ?_ | refine w_op ?_ | refine w_dop ?_)
    refine (appM (σ0 := σ2) k5 (fo := fo4) (ls := N.ls.take i) (m := N.ls.drop (i + 1)) hfe5 hfo4 hz2 (by simp; omega) (by simp; omega)).mono ?_
    rintro ⟨w, σ6⟩ ⟨fo6, hfe6, hfo6, k6, mv⟩
    have g63 := mv.kept.get _ _ (fun h => ne4 _ h rfl) g53
    have own6 := mv.own
    dsimp only at hfe6 k6 g63 own6
    clear mv
    have g60 := k6.get _ _ (fun h => h) g0
    have g61 := k6.get _ _ (fun h => h) g1
    have g62 := k6.get _ _ (fun h => h) g2
    obtain ⟨w1', w2⟩ := hfe6.1.cell
    have h6 := h2.kept0 k6
    obtain ⟨p, xs, hpo, ha, gp, ha1, ha2⟩ := h6.fl.at hel
    have b63 := St.get_lt g63
    have b61 := St.get_lt g61
    have b62 := St.get_lt g62
    have b53 := St.get_lt g53
    have ne6 : ∀ p, fo6 = some p → ¬ (p = σ2.n ∨ p = σ.n + 1 ∨ p = σ.n + 1 + 1) := fun p hp hq => by
      have a1 := hfo6 p hp
      rcases own6 p hp with h | h
      · have := ne4 p h; omega
      · omega
    have hpn : p < σ.n := by
      have := h.fl
      subst hpo
      exact this.lt
    have hpe : p ≠ σ2.n ∧ p ≠ σ.n + 1 := by omega
    have hpf := hpe.1
    have hpg := hpe.2
    simp -implicitDefEqProofs (disch := first | (simp only [ne_eq, reduceCtorEq, not_false_eq_true]; done) | (simp -implicitDefEqProofs only [St.n_push, St.n_put]; done) | (simp -implicitDefEqProofs only [St.n_push, St.n_put]; omega) | omega) only [g63, g60, g61, g62, w1', w2, c1, c2, ha, gp, ha1, ha2, hsize, hel, lc, aCallv, aPtrEq, s_nil, s_cons, s_consG, s_op, s_gtt, s_gff, s_gtf, s_gft, s_region, s_reg, s_seq, s_seqn, s_seqr, s_seqe, s_skip, s_ret, s_exit, s_cond, s_condt, s_condf, s_block, s_blockn, s_blockr, s_blocke, s_finr, s_finn, AOp.run, AO.eval, put, Option.map_some, Option.map_none, upd_self, upd_other, ne_eq, reduceCtorEq, not_false_eq_true, aInt, Nat.reduceEqDiff, initEnv, List.getElem?_cons_zero, List.getElem?_cons_succ, Option.getD_some, Bool.false_eq_true, if_false, if_true, V.bool, V.i64, resultsOf, List.mapM_cons, List.mapM_nil, AR.get, Option.bind_eq_bind, Option.bind_some, Option.pure_def, beq_tt, beq_tf, beq_ft, beq_ff, Bool.not_true, Bool.not_false, Nat.succ_ne_zero, List.map_cons, List.map_nil, aExtract, aUn, Int.reduceEq, Int.reduceBEq, Int.reduceBNe, BEq.rfl, aBox, aLoad, aStore, aPart, aPlace, aArrAddr, aArrIdx, aIdx, aLenStr, aConv, aFold, aMinMax, aEqV, aNilCheck, splice, fillV, c_agg, c_sc, c_str, c_ptr, c_elt, c_vs, c_os, c_mp, c_fn, o_sc, o_str, o_ptr, o_elt, o_vs, o_os, o_mp, o_fn, List.all_cons, List.all_nil, Bool.and_true, Bool.and_self, Option.map_some, Option.bind_some, List.drop_succ_cons, List.drop_zero, List.take_succ_cons, List.take_zero, List.length_cons, List.length_nil, Nat.reduceAdd, Nat.zero_add, Nat.add_zero, Nat.reduceLeDiff, Nat.reduceMul, Nat.mul_one, List.cons_append, List.nil_append, St.n_push, St.n_put, get_push_eq, get_push_ne, get_put_eq, get_put_ne, w_some, Nat.le_refl, true_and, and_true, and_self, List.append_nil, b_add, b_sub, b_mul, b_quo, b_rem, b_and, b_or, b_xor, b_eql, b_neq, b_lss, b_leq, b_gtr, b_geq, Int.cast_ofNat_Int, Int.toNat_zero, Int.toNat_one, Int.reduceLT, Int.reduceLE, Int.reduceToNat, Int.reduceGT, Int.reduceGE, Int.reduceNeg, decide_true, decide_false, Int.reduceAdd, Int.reduceSub, bne_self_eq_false, wrap64, d_draw, d_nil, d_e, d_cons, d_consG, d_op, d_gtt, d_gff, d_gtf, d_gft, chkAdd, effAdd, AOp.kind, chkAll, chkSee, Bool.and_true, Bool.true_and, Nat.reduceLT, s_gu, d_gu]
    refine ⟨fo6, w, rfl, ⟨?_, h.cu, h.ks, by have := (List.eraseIdx_sublist N.ls i).length_le; dsimp only; omega, h.lc⟩, ?_, fun p hp => .inr (by have := hfo6 p hp; omega)⟩
    · rw [← List.eraseIdx_eq_take_drop_succ] at hfe6
      refine hfe6.1.kept (X := fun x => x = σ2.n ∨ x = σ.n + 1 ∨ x = σ.n + 1 + 1) ?_ ne6
      repeat (refine Kept.put ?_ (.inl (by simp)) (by first | omega | (simp only [St.n_put]; omega)) _)
      exact Kept.refl _ _
    · have k7 := kk.trans k6
      ((repeat (first | refine Kept.push ?_ _ | refine Kept.bump ?_ | refine Kept.put ?_ (.inr (by omega)) (by first | omega | (simp only [St.n_put, St.n_push]; omega)) _)); first | exact Kept.refl _ _ | assumption)

/-! ## The cuts grow -/
inductive Cg (σ0 σ : St) : V → List (Int × Int) → Prop
  | nil : Cg σ0 σ (.sc .nilS) []
  | vs {t : Nat} {cs : List (Int × Int)} (h : σ.get t = some .tok) (h0 : σ0.n ≤ t) : Cg σ0 σ (.vs (.tok t) 2 cs.length (cfl cs)) cs
theorem Cg.cu {σ0 σ : St} {c : V} {cs : List (Int × Int)} (h : Cg σ0 σ c cs) : Cu c cs := by
  cases h with
  | nil => exact .nil
  | vs => exact .vs
theorem cfl_one (cs : List (Int × Int)) : (cfl cs).all V.oneCell = true := by
  induction cs with
  | nil => rfl
  | cons l ls ih =>
    rw [show cfl (l :: ls) = cc l ++ cfl ls from by simp [cfl], List.all_append, ih]
    rfl
theorem cfl_append (a b : List (Int × Int)) : cfl (a ++ b) = cfl a ++ cfl b := by simp [cfl]
theorem Cu.src {σ : St} {c : V} {cs : List (Int × Int)} (h : Cu c cs) : aSrc σ 2 c = some (cs.length, cfl cs) := by
  cases h with
  | nil => rfl
  | vs => simp only [aSrc, if_true]
theorem appC {σ0 σ : St} (k : Kept noX σ0 σ) {c y : V} {cs m : List (Int × Int)} (h : Cg σ0 σ c cs) (hy : aSrc σ 2 y = some (m.length, cfl m)) (hn : cs.length ≤ 1000) (hm : m.length ≤ 1000) :
    W (aAppend false 2 16 σ c y) fun r => Cg σ0 r.2 r.1 (cs ++ m) ∧ Kept noX σ0 r.2 ∧ ∀ o x, σ.get o = some (.cells x) → r.2.get o = some (.cells x) := by
  by_cases hz : m.length = 0
  · have : m = [] := List.length_eq_zero_iff.1 hz
    subst this
    refine ⟨(c, σ), ?_, by rw [List.append_nil]; exact h, k, fun _ _ h => h⟩
    simp only [aAppend, hy, Option.bind_some, List.length_nil, if_true]
    cases h <;> rfl
  cases h with
  | nil =>
    refine ⟨(.vs (.tok σ.n) 2 m.length (cfl m), σ.push .tok), ?_, .vs get_push_self k.n, k.push _, fun o x h => get_push_lt h⟩
    have e4 : m.length * 16 ≤ roomB ∧ m.length ≤ roomB := by unfold roomB; omega
    simp only [aAppend, hy, Option.bind_some, hz, if_false, cfl_one, if_true, aGrow, aFresh, e4, true_and, Nat.zero_add, Nat.zero_mul, List.length_nil, List.nil_append, Bool.false_eq_true]
  | @vs t _ h1 h0 =>
    refine ⟨(.vs (.tok σ.n) 2 (cs.length + m.length) (cfl cs ++ cfl m), (σ.put t none).push .tok), ?_, ?_, ?_, fun o x h => ?_⟩
    · have e4 : (cs.length + m.length) * 16 ≤ roomB ∧ cs.length + m.length ≤ roomB := by unfold roomB; omega
      simp only [aAppend, hy, Option.bind_some, hz, if_false, cfl_one, if_true, aGrow, aTok, h1, e4, and_self]
    · have := Cg.vs (σ0 := σ0) (σ := (σ.put t none).push .tok) (t := σ.n) (cs := cs ++ m) (by rw [St.get_push]; simp [St.n_put]) k.n
      rw [cfl_append, List.length_append] at this
      exact this
    · exact (k.put (.inr h0) (St.get_lt h1) _).push _
    · refine get_push_lt (get_put_other (St.get_lt h1) ?_ h)
      rintro rfl
      rw [h1] at h
      cases h
theorem Cg.kept {X : Nat → Prop} {σ0 σ σ' : St} {c : V} {cs : List (Int × Int)} (h : Cg σ0 σ c cs) (k : Kept X σ σ') (hx : ∀ x, X x → ∃ l, σ.get x = some (.cells l)) : Cg σ0 σ' c cs := by
  cases h with
  | nil => exact .nil
  | vs h1 h0 =>
    refine .vs (k.get _ _ (fun hq => ?_) h1) h0
    obtain ⟨l, hl⟩ := hx _ hq
    rw [h1] at hl
    cases hl

theorem cfl_take (ls : List (Int × Int)) (i : Nat) : (cfl ls).take (i * 2) = cfl (ls.take i) := by
  induction i generalizing ls with
  | zero => simp [cfl]
  | succ i ih =>
    cases ls with
    | nil => simp [cfl]
    | cons l ls =>
      rw [show cfl (l :: ls) = cc l ++ cfl ls from by simp [cfl], List.take_succ_cons, show cfl (l :: ls.take i) = cc l ++ cfl (ls.take i) from by simp [cfl], ← ih, show (i + 1) * 2 = (cc l).length + i * 2 by show _ = 2 + _; omega, List.take_length_add_append]
theorem cfl_drop (ls : List (Int × Int)) (i : Nat) : (cfl ls).drop (i * 2) = cfl (ls.drop i) := by
  induction i generalizing ls with
  | zero => simp
  | succ i ih =>
    cases ls with
    | nil => simp [cfl]
    | cons l ls =>
      rw [show cfl (l :: ls) = cc l ++ cfl ls from by simp [cfl], List.drop_succ_cons, ← ih, show (i + 1) * 2 = 2 + i * 2 by omega, ← List.drop_drop]
      rfl
theorem Cu.take {σ : St} {c : V} {cs : List (Int × Int)} (h : Cu c cs) {i : Nat} (hi : i < cs.length) :
    ∃ y, aSliceR σ c none (some (.sc (.int .i64 i))) none = some y ∧ ∀ σ, aSrc σ 2 y = some ((cs.take i).length, cfl (cs.take i)) := by
  cases h with
  | nil => simp at hi
  | vs =>
    have e1 : (0 : Int) ≤ i ∧ (i : Int) ≤ cs.length := by omega
    refine ⟨_, by simp only [aSliceR, aSlice, aBounds, aBnd, e1, and_self, if_true, Option.bind_some, Int.toNat_natCast, Option.map_some]; rfl, fun σ => ?_⟩
    have e3 : (cs.take i).length = i := by rw [List.length_take]; omega
    simp only [aSrc, if_true, Nat.sub_zero, Nat.zero_mul, List.drop_zero, cfl_take, e3]
theorem Cu.drop {σ : St} {c : V} {cs : List (Int × Int)} (h : Cu c cs) {i : Nat} (hi : i < cs.length) :
    ∃ y, aSliceR σ c (some (.sc (.int .i64 ((i : Int) + 1)))) none none = some y ∧ ∀ σ, aSrc σ 2 y = some ((cs.drop (i + 1)).length, cfl (cs.drop (i + 1))) := by
  cases h with
  | nil => simp at hi
  | vs =>
    have e2 : (0 : Int) ≤ (i : Int) + 1 ∧ (i : Int) + 1 ≤ (cs.length : Int) := by omega
    have e4 : ((i : Int) + 1).toNat = i + 1 := by omega
    refine ⟨_, by simp only [aSliceR, aSlice, aBounds, aBnd, e2, and_self, if_true, Option.bind_some, e4, Option.map_some]; rfl, fun σ => ?_⟩
    have e5 : ((cfl cs).drop ((i + 1) * 2)).take ((cs.length - (i + 1)) * 2) = cfl (cs.drop (i + 1)) := by
      rw [cfl_drop, List.take_of_length_le (by rw [cfl_length, List.length_drop]; omega)]
    simp only [aSrc, if_true, e5, List.length_drop]
end Go.Proofs.Ythnfafphaopnkaa.netR
