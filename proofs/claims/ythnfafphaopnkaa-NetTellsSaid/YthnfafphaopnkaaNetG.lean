/-
  The network: what stays so; how great; the same.
-/
import Derived.Test.YthnfafphaopnkaaNetM
namespace Go.Proofs.Ythnfafphaopnkaa.netR
open Go.Ab
set_option maxRecDepth 100000
set_option maxHeartbeats 8000000
set_option linter.unusedSimpArgs false
set_option linter.unusedVariables false

theorem up_iff {ls : List Lt} : (∀ (i j : Nat) (a b : Lt), ls[i]? = some a → ls[j]? = some b → i < j → a.id < b.id) ↔ ls.Pairwise (fun a b => a.id < b.id) := by
  rw [List.pairwise_iff_getElem]
  constructor
  · intro h i j hi hj hij
    exact h i j _ _ (List.getElem?_eq_getElem hi) (List.getElem?_eq_getElem hj) hij
  · intro h i j a b ha hb hij
    obtain ⟨h1, rfl⟩ := List.getElem?_eq_some_iff.1 ha
    obtain ⟨h2, rfl⟩ := List.getElem?_eq_some_iff.1 hb
    exact h i j h1 h2 hij

theorem Iv.put {N : NS} (h : Iv N) (hs : N.sent ≤ 999) (l : Lt) : Iv (nput N l).1 ∧ (nput N l).1.sent ≤ N.sent + 1 := by
  unfold nput
  split
  · exact ⟨h, Nat.le_succ _⟩
  · rename_i hl
    refine ⟨⟨⟨?_, ?_, ?_⟩, ?_, h.nd⟩, Nat.le_refl _⟩
    · rw [up_iff, List.pairwise_append]
      refine ⟨up_iff.1 h.up.1, List.pairwise_singleton _ _, fun a ha b hb => ?_⟩
      have := h.ids a ha
      simp only [List.mem_singleton] at hb
      subst hb
      simp only
      omega
    · intro x hx
      rcases List.mem_append.1 hx with hx | hx
      · exact h.up.2.1 x hx
      · simp only [List.mem_singleton] at hx
        subst hx
        simp only
        omega
    · simp only [List.length_append, List.length_cons, List.length_nil]; omega
    · intro x hx
      rcases List.mem_append.1 hx with hx | hx
      · have := h.ids x hx; simp only; omega
      · simp only [List.mem_singleton] at hx
        subst hx
        simp only
        omega
theorem Iv.del {N : NS} (h : Iv N) (i : Nat) : Iv { N with ls := N.ls.eraseIdx i } := by
  refine ⟨⟨?_, ?_, ?_⟩, ?_, h.nd⟩
  · rw [up_iff]
    exact (up_iff.1 h.up.1).sublist (List.eraseIdx_sublist _ _)
  · intro x hx; exact h.up.2.1 x (List.mem_of_mem_eraseIdx hx)
  · exact Nat.le_trans (List.eraseIdx_sublist _ _).length_le h.up.2.2
  · intro x hx; exact h.ids x (List.mem_of_mem_eraseIdx hx)
theorem Iv.turn {N : NS} (h : Iv N) (a b : Int) (t : Bool) : Iv (nturn N a b t).1 ∧ (nturn N a b t).1.sent = N.sent := by
  unfold nturn
  split
  · exact ⟨h, rfl⟩
  · split
    · refine ⟨⟨h.up, h.ids, ?_⟩, rfl⟩
      dsimp only
      split
      · exact h.nd
      · rename_i hn
        rw [List.nodup_append]
        refine ⟨h.nd, by simp, fun x hx y hy => ?_⟩
        simp only [List.mem_singleton] at hy
        subst hy
        intro he
        exact hn (he ▸ hx)
    · refine ⟨⟨h.up, h.ids, ?_⟩, rfl⟩
      dsimp only
      split
      · exact h.nd.sublist (List.eraseIdx_sublist _ _)
      · exact h.nd
theorem Iv.play {N : NS} (h : Iv N) (hs : N.sent ≤ 999) (o : Op) : Iv (nplay N o).1 ∧ (nplay N o).1.sent ≤ N.sent + 1 := by
  unfold nplay
  split
  · unfold nsend
    split
    · exact ⟨h, Nat.le_succ _⟩
    · split
      · exact ⟨h, Nat.le_succ _⟩
      · split
        · exact ⟨h, Nat.le_succ _⟩
        · exact h.put hs _
  have hd : Iv (ndeliver N o.a).1 ∧ (ndeliver N o.a).1.sent ≤ N.sent + 1 := by
    unfold ndeliver
    split
    · exact ⟨h, Nat.le_succ _⟩
    · exact ⟨h.del _, Nat.le_succ _⟩
  split
  · exact hd
  split
  · exact hd
  split
  · unfold ntwice
    split
    · exact ⟨h, Nat.le_succ _⟩
    · exact h.put hs _
  split
  · exact ⟨(h.turn _ _ _).1, by rw [(h.turn _ _ _).2]; exact Nat.le_succ _⟩
  split
  · exact ⟨(h.turn _ _ _).1, by rw [(h.turn _ _ _).2]; exact Nat.le_succ _⟩
  exact ⟨h, Nat.le_succ _⟩
def N0 : NS := ⟨[], [], 0⟩
theorem Iv.zero : Iv N0 := ⟨⟨fun i j a b h => by simp [N0] at h, fun l h => by simp [N0] at h, by simp [N0]⟩, fun l h => by simp [N0] at h, List.nodup_nil⟩

theorem new_ok (k : Nat) (ys : YlF) (σ : St) : callY Tab.tbl (k + 1) ys 10 [] σ = some (.ptr (σ.n + 1) 0, (σ.push (.map [] 0)).push (.cells [.sc .nilS, .mp σ.n, .sc (.int .i64 0)])) := by
  rw [s_call (af := Tab.a10) rfl (by simp [Tab.a10])]
  generalize callY Tab.tbl k = cy
  simp -implicitDefEqProofs (disch := first | (simp only [ne_eq, reduceCtorEq, not_false_eq_true]; done) | (simp -implicitDefEqProofs only [St.n_push, St.n_put]; done) | (simp -implicitDefEqProofs only [St.n_push, St.n_put]; omega) | omega) only [Tab.a10, XOp.run, aCallv, aPtrEq, s_nil, s_cons, s_consG, s_op, s_gtt, s_gff, s_gtf, s_gft, s_region, s_reg, s_seq, s_seqn, s_seqr, s_seqe, s_skip, s_ret, s_exit, s_cond, s_condt, s_condf, s_block, s_blockn, s_blockr, s_blocke, s_finr, s_finn, AOp.run, AO.eval, put, Option.map_some, Option.map_none, upd_self, upd_other, ne_eq, reduceCtorEq, not_false_eq_true, aInt, Nat.reduceEqDiff, initEnv, List.getElem?_cons_zero, List.getElem?_cons_succ, Option.getD_some, Bool.false_eq_true, if_false, if_true, V.bool, V.i64, resultsOf, List.mapM_cons, List.mapM_nil, AR.get, Option.bind_eq_bind, Option.bind_some, Option.pure_def, beq_tt, beq_tf, beq_ft, beq_ff, Bool.not_true, Bool.not_false, Nat.succ_ne_zero, List.map_cons, List.map_nil, aExtract, aUn, Int.reduceEq, Int.reduceBEq, Int.reduceBNe, BEq.rfl, aBox, aLoad, aStore, aPart, aPlace, aArrAddr, aArrIdx, aIdx, aLenStr, aConv, aFold, aMinMax, aEqV, aNilCheck, splice, fillV, V.cellsOf, V.oneCell, List.all_cons, List.all_nil, Bool.and_true, Bool.and_self, Option.map_some, Option.bind_some, List.drop_succ_cons, List.drop_zero, List.take_succ_cons, List.take_zero, List.length_cons, List.length_nil, Nat.reduceAdd, Nat.zero_add, Nat.add_zero, Nat.reduceLeDiff, Nat.reduceMul, Nat.mul_one, List.cons_append, List.nil_append, St.n_push, St.n_put, get_push_eq, get_push_ne, get_put_eq, get_put_ne, w_some, Nat.le_refl, true_and, and_true, and_self, List.append_nil, b_add, b_sub, b_mul, b_quo, b_rem, b_and, b_or, b_xor, b_eql, b_neq, b_lss, b_leq, b_gtr, b_geq, Int.cast_ofNat_Int, Int.toNat_zero, Int.toNat_one, Int.reduceLT, Int.reduceLE, Int.reduceToNat, Int.reduceGT, Int.reduceGE, Int.reduceNeg, decide_true, decide_false, Int.reduceAdd, Int.reduceSub, bne_self_eq_false, wrap64, d_draw, d_nil, d_e, d_cons, d_consG, d_op, d_gtt, d_gff, d_gtf, d_gft, chkAdd, effAdd, AOp.kind, chkAll, chkSee, Bool.and_true, Bool.true_and, Nat.reduceLT, s_gu, d_gu]
theorem new_R (σ : St) : NR ((σ.push (.map [] 0)).push (.cells [.sc .nilS, .mp σ.n, .sc (.int .i64 0)])) (σ.n + 1) σ.n none N0 := by
  refine ⟨.sc .nilS, [], 0, ?_, .nil, ?_, ⟨rfl⟩, by simp⟩
  · simp -implicitDefEqProofs (disch := first | (simp only [ne_eq, reduceCtorEq, not_false_eq_true]; done) | (simp -implicitDefEqProofs only [St.n_push, St.n_put]; done) | (simp -implicitDefEqProofs only [St.n_push, St.n_put]; omega) | omega) only [aCallv, aPtrEq, s_nil, s_cons, s_consG, s_op, s_gtt, s_gff, s_gtf, s_gft, s_region, s_reg, s_seq, s_seqn, s_seqr, s_seqe, s_skip, s_ret, s_exit, s_cond, s_condt, s_condf, s_block, s_blockn, s_blockr, s_blocke, s_finr, s_finn, AOp.run, AO.eval, put, Option.map_some, Option.map_none, upd_self, upd_other, ne_eq, reduceCtorEq, not_false_eq_true, aInt, Nat.reduceEqDiff, initEnv, List.getElem?_cons_zero, List.getElem?_cons_succ, Option.getD_some, Bool.false_eq_true, if_false, if_true, V.bool, V.i64, resultsOf, List.mapM_cons, List.mapM_nil, AR.get, Option.bind_eq_bind, Option.bind_some, Option.pure_def, beq_tt, beq_tf, beq_ft, beq_ff, Bool.not_true, Bool.not_false, Nat.succ_ne_zero, List.map_cons, List.map_nil, aExtract, aUn, Int.reduceEq, Int.reduceBEq, Int.reduceBNe, BEq.rfl, aBox, aLoad, aStore, aPart, aPlace, aArrAddr, aArrIdx, aIdx, aLenStr, aConv, aFold, aMinMax, aEqV, aNilCheck, splice, fillV, V.cellsOf, V.oneCell, List.all_cons, List.all_nil, Bool.and_true, Bool.and_self, Option.map_some, Option.bind_some, List.drop_succ_cons, List.drop_zero, List.take_succ_cons, List.take_zero, List.length_cons, List.length_nil, Nat.reduceAdd, Nat.zero_add, Nat.add_zero, Nat.reduceLeDiff, Nat.reduceMul, Nat.mul_one, List.cons_append, List.nil_append, St.n_push, St.n_put, get_push_eq, get_push_ne, get_put_eq, get_put_ne, w_some, Nat.le_refl, true_and, and_true, and_self, List.append_nil, b_add, b_sub, b_mul, b_quo, b_rem, b_and, b_or, b_xor, b_eql, b_neq, b_lss, b_leq, b_gtr, b_geq, Int.cast_ofNat_Int, Int.toNat_zero, Int.toNat_one, Int.reduceLT, Int.reduceLE, Int.reduceToNat, Int.reduceGT, Int.reduceGE, Int.reduceNeg, decide_true, decide_false, Int.reduceAdd, Int.reduceSub, bne_self_eq_false, wrap64, d_draw, d_nil, d_e, d_cons, d_consG, d_op, d_gtt, d_gff, d_gtf, d_gft, chkAdd, effAdd, AOp.kind, chkAll, chkSee, Bool.and_true, Bool.true_and, Nat.reduceLT, s_gu, d_gu]
    rfl
  · simp -implicitDefEqProofs (disch := first | (simp only [ne_eq, reduceCtorEq, not_false_eq_true]; done) | (simp -implicitDefEqProofs only [St.n_push, St.n_put]; done) | (simp -implicitDefEqProofs only [St.n_push, St.n_put]; omega) | omega) only [aCallv, aPtrEq, s_nil, s_cons, s_consG, s_op, s_gtt, s_gff, s_gtf, s_gft, s_region, s_reg, s_seq, s_seqn, s_seqr, s_seqe, s_skip, s_ret, s_exit, s_cond, s_condt, s_condf, s_block, s_blockn, s_blockr, s_blocke, s_finr, s_finn, AOp.run, AO.eval, put, Option.map_some, Option.map_none, upd_self, upd_other, ne_eq, reduceCtorEq, not_false_eq_true, aInt, Nat.reduceEqDiff, initEnv, List.getElem?_cons_zero, List.getElem?_cons_succ, Option.getD_some, Bool.false_eq_true, if_false, if_true, V.bool, V.i64, resultsOf, List.mapM_cons, List.mapM_nil, AR.get, Option.bind_eq_bind, Option.bind_some, Option.pure_def, beq_tt, beq_tf, beq_ft, beq_ff, Bool.not_true, Bool.not_false, Nat.succ_ne_zero, List.map_cons, List.map_nil, aExtract, aUn, Int.reduceEq, Int.reduceBEq, Int.reduceBNe, BEq.rfl, aBox, aLoad, aStore, aPart, aPlace, aArrAddr, aArrIdx, aIdx, aLenStr, aConv, aFold, aMinMax, aEqV, aNilCheck, splice, fillV, V.cellsOf, V.oneCell, List.all_cons, List.all_nil, Bool.and_true, Bool.and_self, Option.map_some, Option.bind_some, List.drop_succ_cons, List.drop_zero, List.take_succ_cons, List.take_zero, List.length_cons, List.length_nil, Nat.reduceAdd, Nat.zero_add, Nat.add_zero, Nat.reduceLeDiff, Nat.reduceMul, Nat.mul_one, List.cons_append, List.nil_append, St.n_push, St.n_put, get_push_eq, get_push_ne, get_put_eq, get_put_ne, w_some, Nat.le_refl, true_and, and_true, and_self, List.append_nil, b_add, b_sub, b_mul, b_quo, b_rem, b_and, b_or, b_xor, b_eql, b_neq, b_lss, b_leq, b_gtr, b_geq, Int.cast_ofNat_Int, Int.toNat_zero, Int.toNat_one, Int.reduceLT, Int.reduceLE, Int.reduceToNat, Int.reduceGT, Int.reduceGE, Int.reduceNeg, decide_true, decide_false, Int.reduceAdd, Int.reduceSub, bne_self_eq_false, wrap64, d_draw, d_nil, d_e, d_cons, d_consG, d_op, d_gtt, d_gff, d_gtf, d_gft, chkAdd, effAdd, AOp.kind, chkAll, chkSee, Bool.and_true, Bool.true_and, Nat.reduceLT, s_gu, d_gu]

/-! ## Lists of calls -/
def ofl (ops : List Op) : List V := (ops.map oc).flatten
structure Ops (x : V) (ops : List Op) : Prop where
  len : aLen x = some (.sc (.int .i64 ops.length))
  size : slSize 4 x = true
  el : ∀ i : Nat, i < ops.length → aSlAddr x (.sc (.int .i64 i)) = some (.elt (ofl ops) (i * 4))
  i64 : ∀ o ∈ ops, I64 o.a ∧ I64 o.b ∧ I64 o.k
  len2 : ops.length ≤ 9223372036854775807
theorem Ops.at {x : V} {ops : List Op} (h : Ops x ops) {i : Nat} (hi : i < ops.length) : (i * 4 + 4 ≤ (ofl ops).length) = True ∧ ((ofl ops).drop (i * 4)).take 4 = oc ops[i] := by
  obtain ⟨p1, p2⟩ := flat_at (sz := 4) (es := ops.map oc) (fun a ha => by obtain ⟨l, _, rfl⟩ := List.mem_map.1 ha; rfl) (i := i) (x := oc ops[i]) (by simp [hi])
  exact ⟨by simp only [eq_iff_iff, iff_true]; exact p1, p2⟩

theorem great_ok (k : Nat) (ys : YlF) (σ : St) (x : V) (ops : List Op) (h : Ops x ops) (hk : 9223372036854775808 ≤ k) :
    W (callY Tab.tbl (k + 1) ys 16 [x] σ) fun r => ∃ b, r = (.sc (.bool b), σ) ∧ (b = false → ops.length ≤ 400) := by
  rw [s_call (af := Tab.a16) rfl (by simp [Tab.a16])]
  have hlen := h.len
  have hsize := h.size
  have hl2 := h.len2
  generalize callY Tab.tbl k = cy
  simp -implicitDefEqProofs (disch := first | (simp only [ne_eq, reduceCtorEq, not_false_eq_true]; done) | (simp -implicitDefEqProofs only [St.n_push, St.n_put]; done) | (simp -implicitDefEqProofs only [St.n_push, St.n_put]; omega) | omega) only [Tab.a16, aCallv, aPtrEq, s_nil, s_cons, s_consG, s_op, s_gtt, s_gff, s_gtf, s_gft, s_region, s_reg, s_seq, s_seqn, s_seqr, s_seqe, s_skip, s_ret, s_exit, s_cond, s_condt, s_condf, s_block, s_blockn, s_blockr, s_blocke, s_finr, s_finn, AOp.run, AO.eval, put, Option.map_some, Option.map_none, upd_self, upd_other, ne_eq, reduceCtorEq, not_false_eq_true, aInt, Nat.reduceEqDiff, initEnv, List.getElem?_cons_zero, List.getElem?_cons_succ, Option.getD_some, Bool.false_eq_true, if_false, if_true, V.bool, V.i64, resultsOf, List.mapM_cons, List.mapM_nil, AR.get, Option.bind_eq_bind, Option.bind_some, Option.pure_def, beq_tt, beq_tf, beq_ft, beq_ff, Bool.not_true, Bool.not_false, Nat.succ_ne_zero, List.map_cons, List.map_nil, aExtract, aUn, Int.reduceEq, Int.reduceBEq, Int.reduceBNe, BEq.rfl, aBox, aLoad, aStore, aPart, aPlace, aArrAddr, aArrIdx, aIdx, aLenStr, aConv, aFold, aMinMax, aEqV, aNilCheck, splice, fillV, V.cellsOf, V.oneCell, List.all_cons, List.all_nil, Bool.and_true, Bool.and_self, Option.map_some, Option.bind_some, List.drop_succ_cons, List.drop_zero, List.take_succ_cons, List.take_zero, List.length_cons, List.length_nil, Nat.reduceAdd, Nat.zero_add, Nat.add_zero, Nat.reduceLeDiff, Nat.reduceMul, Nat.mul_one, List.cons_append, List.nil_append, St.n_push, St.n_put, get_push_eq, get_push_ne, get_put_eq, get_put_ne, w_some, Nat.le_refl, true_and, and_true, and_self, List.append_nil, b_add, b_sub, b_mul, b_quo, b_rem, b_and, b_or, b_xor, b_eql, b_neq, b_lss, b_leq, b_gtr, b_geq, Int.cast_ofNat_Int, Int.toNat_zero, Int.toNat_one, Int.reduceLT, Int.reduceLE, Int.reduceToNat, Int.reduceGT, Int.reduceGE, Int.reduceNeg, decide_true, decide_false, Int.reduceAdd, Int.reduceSub, bne_self_eq_false, wrap64, d_draw, d_nil, d_e, d_cons, d_consG, d_op, d_gtt, d_gff, d_gtf, d_gft, chkAdd, effAdd, AOp.kind, chkAll, chkSee, Bool.and_true, Bool.true_and, Nat.reduceLT, s_gu, d_gu]
  repeat (first | refine w_fin ?_ | refine w_seq ?_ | refine w_block ?_ | refine w_reg ?_ | refine w_op ?_ | refine w_dop ?_)
  refine w_loop (fun m ρ σ' => ∃ (i : Nat) (n : Int), m = ops.length - i ∧ i ≤ ops.length ∧ ρ 0 = x ∧ ρ 3 = .sc (.int .i64 n) ∧ ρ 4 = .sc (.int .i64 i) ∧ σ' = σ) ops.length (by omega) ?_ ?_
  · refine ⟨0, 0, rfl, Nat.zero_le _, ?_, ?_, ?_, rfl⟩
    all_goals first | rfl | (simp -implicitDefEqProofs (disch := first | (simp only [ne_eq, reduceCtorEq, not_false_eq_true]; done) | (simp -implicitDefEqProofs only [St.n_push, St.n_put]; done) | (simp -implicitDefEqProofs only [St.n_push, St.n_put]; omega) | omega) only [aCallv, aPtrEq, s_nil, s_cons, s_consG, s_op, s_gtt, s_gff, s_gtf, s_gft, s_region, s_reg, s_seq, s_seqn, s_seqr, s_seqe, s_skip, s_ret, s_exit, s_cond, s_condt, s_condf, s_block, s_blockn, s_blockr, s_blocke, s_finr, s_finn, AOp.run, AO.eval, put, Option.map_some, Option.map_none, upd_self, upd_other, ne_eq, reduceCtorEq, not_false_eq_true, aInt, Nat.reduceEqDiff, initEnv, List.getElem?_cons_zero, List.getElem?_cons_succ, Option.getD_some, Bool.false_eq_true, if_false, if_true, V.bool, V.i64, resultsOf, List.mapM_cons, List.mapM_nil, AR.get, Option.bind_eq_bind, Option.bind_some, Option.pure_def, beq_tt, beq_tf, beq_ft, beq_ff, Bool.not_true, Bool.not_false, Nat.succ_ne_zero, List.map_cons, List.map_nil, aExtract, aUn, Int.reduceEq, Int.reduceBEq, Int.reduceBNe, BEq.rfl, aBox, aLoad, aStore, aPart, aPlace, aArrAddr, aArrIdx, aIdx, aLenStr, aConv, aFold, aMinMax, aEqV, aNilCheck, splice, fillV, V.cellsOf, V.oneCell, List.all_cons, List.all_nil, Bool.and_true, Bool.and_self, Option.map_some, Option.bind_some, List.drop_succ_cons, List.drop_zero, List.take_succ_cons, List.take_zero, List.length_cons, List.length_nil, Nat.reduceAdd, Nat.zero_add, Nat.add_zero, Nat.reduceLeDiff, Nat.reduceMul, Nat.mul_one, List.cons_append, List.nil_append, St.n_push, St.n_put, get_push_eq, get_push_ne, get_put_eq, get_put_ne, w_some, Nat.le_refl, true_and, and_true, and_self, List.append_nil, b_add, b_sub, b_mul, b_quo, b_rem, b_and, b_or, b_xor, b_eql, b_neq, b_lss, b_leq, b_gtr, b_geq, Int.cast_ofNat_Int, Int.toNat_zero, Int.toNat_one, Int.reduceLT, Int.reduceLE, Int.reduceToNat, Int.reduceGT, Int.reduceGE, Int.reduceNeg, decide_true, decide_false, Int.reduceAdd, Int.reduceSub, bne_self_eq_false, wrap64, d_draw, d_nil, d_e, d_cons, d_consG, d_op, d_gtt, d_gff, d_gtf, d_gft, chkAdd, effAdd, AOp.kind, chkAll, chkSee, Bool.and_true, Bool.true_and, Nat.reduceLT, s_gu, d_gu]; done) | (simp -implicitDefEqProofs (disch := first | (simp only [ne_eq, reduceCtorEq, not_false_eq_true]; done) | (simp -implicitDefEqProofs only [St.n_push, St.n_put]; done) | (simp -implicitDefEqProofs only [St.n_push, St.n_put]; omega) | omega) only [aCallv, aPtrEq, s_nil, s_cons, s_consG, s_op, s_gtt, s_gff, s_gtf, s_gft, s_region, s_reg, s_seq, s_seqn, s_seqr, s_seqe, s_skip, s_ret, s_exit, s_cond, s_condt, s_condf, s_block, s_blockn, s_blockr, s_blocke, s_finr, s_finn, AOp.run, AO.eval, put, Option.map_some, Option.map_none, upd_self, upd_other, ne_eq, reduceCtorEq, not_false_eq_true, aInt, Nat.reduceEqDiff, initEnv, List.getElem?_cons_zero, List.getElem?_cons_succ, Option.getD_some, Bool.false_eq_true, if_false, if_true, V.bool, V.i64, resultsOf, List.mapM_cons, List.mapM_nil, AR.get, Option.bind_eq_bind, Option.bind_some, Option.pure_def, beq_tt, beq_tf, beq_ft, beq_ff, Bool.not_true, Bool.not_false, Nat.succ_ne_zero, List.map_cons, List.map_nil, aExtract, aUn, Int.reduceEq, Int.reduceBEq, Int.reduceBNe, BEq.rfl, aBox, aLoad, aStore, aPart, aPlace, aArrAddr, aArrIdx, aIdx, aLenStr, aConv, aFold, aMinMax, aEqV, aNilCheck, splice, fillV, V.cellsOf, V.oneCell, List.all_cons, List.all_nil, Bool.and_true, Bool.and_self, Option.map_some, Option.bind_some, List.drop_succ_cons, List.drop_zero, List.take_succ_cons, List.take_zero, List.length_cons, List.length_nil, Nat.reduceAdd, Nat.zero_add, Nat.add_zero, Nat.reduceLeDiff, Nat.reduceMul, Nat.mul_one, List.cons_append, List.nil_append, St.n_push, St.n_put, get_push_eq, get_push_ne, get_put_eq, get_put_ne, w_some, Nat.le_refl, true_and, and_true, and_self, List.append_nil, b_add, b_sub, b_mul, b_quo, b_rem, b_and, b_or, b_xor, b_eql, b_neq, b_lss, b_leq, b_gtr, b_geq, Int.cast_ofNat_Int, Int.toNat_zero, Int.toNat_one, Int.reduceLT, Int.reduceLE, Int.reduceToNat, Int.reduceGT, Int.reduceGE, Int.reduceNeg, decide_true, decide_false, Int.reduceAdd, Int.reduceSub, bne_self_eq_false, wrap64, d_draw, d_nil, d_e, d_cons, d_consG, d_op, d_gtt, d_gff, d_gtf, d_gft, chkAdd, effAdd, AOp.kind, chkAll, chkSee, Bool.and_true, Bool.true_and, Nat.reduceLT, s_gu, d_gu]; rfl)
  · intro m ρ σ' ⟨i, n, hm, hi, e0, e3, e4, hσ⟩
    subst hσ
    by_cases hl : i < ops.length
    · have c1 : decide ((i : Int) < (ops.length : Int)) = true := by simpa using hl
      obtain ⟨p1, p2⟩ := h.at hl
      have hat := h.el i hl
      have p3 : (ofl ops)[i * 4 + 3]? = some (.str ops[i].s) := by
        have := congrArg (fun l => l[3]?) p2
        simp only [oc, List.getElem?_take, List.getElem?_drop] at this
        simpa using this
      generalize ops[i] = o at *
      have w1 : IntKind.i64.wrap ((i : Int) + 1) = (i : Int) + 1 := wrap64 (by omega) (by omega)
      simp -implicitDefEqProofs (disch := first | (simp only [ne_eq, reduceCtorEq, not_false_eq_true]; done) | (simp -implicitDefEqProofs only [St.n_push, St.n_put]; done) | (simp -implicitDefEqProofs only [St.n_push, St.n_put]; omega) | omega) only [hlen, c1, e0, e4, e3, hat, hsize, p3, aCallv, aPtrEq, s_nil, s_cons, s_consG, s_op, s_gtt, s_gff, s_gtf, s_gft, s_region, s_reg, s_seq, s_seqn, s_seqr, s_seqe, s_skip, s_ret, s_exit, s_cond, s_condt, s_condf, s_block, s_blockn, s_blockr, s_blocke, s_finr, s_finn, AOp.run, AO.eval, put, Option.map_some, Option.map_none, upd_self, upd_other, ne_eq, reduceCtorEq, not_false_eq_true, aInt, Nat.reduceEqDiff, initEnv, List.getElem?_cons_zero, List.getElem?_cons_succ, Option.getD_some, Bool.false_eq_true, if_false, if_true, V.bool, V.i64, resultsOf, List.mapM_cons, List.mapM_nil, AR.get, Option.bind_eq_bind, Option.bind_some, Option.pure_def, beq_tt, beq_tf, beq_ft, beq_ff, Bool.not_true, Bool.not_false, Nat.succ_ne_zero, List.map_cons, List.map_nil, aExtract, aUn, Int.reduceEq, Int.reduceBEq, Int.reduceBNe, BEq.rfl, aBox, aLoad, aStore, aPart, aPlace, aArrAddr, aArrIdx, aIdx, aLenStr, aConv, aFold, aMinMax, aEqV, aNilCheck, splice, fillV, V.cellsOf, V.oneCell, List.all_cons, List.all_nil, Bool.and_true, Bool.and_self, Option.map_some, Option.bind_some, List.drop_succ_cons, List.drop_zero, List.take_succ_cons, List.take_zero, List.length_cons, List.length_nil, Nat.reduceAdd, Nat.zero_add, Nat.add_zero, Nat.reduceLeDiff, Nat.reduceMul, Nat.mul_one, List.cons_append, List.nil_append, St.n_push, St.n_put, get_push_eq, get_push_ne, get_put_eq, get_put_ne, w_some, Nat.le_refl, true_and, and_true, and_self, List.append_nil, b_add, b_sub, b_mul, b_quo, b_rem, b_and, b_or, b_xor, b_eql, b_neq, b_lss, b_leq, b_gtr, b_geq, Int.cast_ofNat_Int, Int.toNat_zero, Int.toNat_one, Int.reduceLT, Int.reduceLE, Int.reduceToNat, Int.reduceGT, Int.reduceGE, Int.reduceNeg, decide_true, decide_false, Int.reduceAdd, Int.reduceSub, bne_self_eq_false, d_draw, d_nil, d_e, d_cons, d_consG, d_op, d_gtt, d_gff, d_gtf, d_gft, chkAdd, effAdd, AOp.kind, chkAll, chkSee, Bool.and_true, Bool.true_and, Nat.reduceLT, s_gu, d_gu]
      generalize IntKind.i64.wrap (n + _) = n'
      cases c2 : decide (n' > 65536) with
      | true =>
        simp -implicitDefEqProofs (disch := first | (simp only [ne_eq, reduceCtorEq, not_false_eq_true]; done) | (simp -implicitDefEqProofs only [St.n_push, St.n_put]; done) | (simp -implicitDefEqProofs only [St.n_push, St.n_put]; omega) | omega) only [c2, aCallv, aPtrEq, s_nil, s_cons, s_consG, s_op, s_gtt, s_gff, s_gtf, s_gft, s_region, s_reg, s_seq, s_seqn, s_seqr, s_seqe, s_skip, s_ret, s_exit, s_cond, s_condt, s_condf, s_block, s_blockn, s_blockr, s_blocke, s_finr, s_finn, AOp.run, AO.eval, put, Option.map_some, Option.map_none, upd_self, upd_other, ne_eq, reduceCtorEq, not_false_eq_true, aInt, Nat.reduceEqDiff, initEnv, List.getElem?_cons_zero, List.getElem?_cons_succ, Option.getD_some, Bool.false_eq_true, if_false, if_true, V.bool, V.i64, resultsOf, List.mapM_cons, List.mapM_nil, AR.get, Option.bind_eq_bind, Option.bind_some, Option.pure_def, beq_tt, beq_tf, beq_ft, beq_ff, Bool.not_true, Bool.not_false, Nat.succ_ne_zero, List.map_cons, List.map_nil, aExtract, aUn, Int.reduceEq, Int.reduceBEq, Int.reduceBNe, BEq.rfl, aBox, aLoad, aStore, aPart, aPlace, aArrAddr, aArrIdx, aIdx, aLenStr, aConv, aFold, aMinMax, aEqV, aNilCheck, splice, fillV, V.cellsOf, V.oneCell, List.all_cons, List.all_nil, Bool.and_true, Bool.and_self, Option.map_some, Option.bind_some, List.drop_succ_cons, List.drop_zero, List.take_succ_cons, List.take_zero, List.length_cons, List.length_nil, Nat.reduceAdd, Nat.zero_add, Nat.add_zero, Nat.reduceLeDiff, Nat.reduceMul, Nat.mul_one, List.cons_append, List.nil_append, St.n_push, St.n_put, get_push_eq, get_push_ne, get_put_eq, get_put_ne, w_some, Nat.le_refl, true_and, and_true, and_self, List.append_nil, b_add, b_sub, b_mul, b_quo, b_rem, b_and, b_or, b_xor, b_eql, b_neq, b_lss, b_leq, b_gtr, b_geq, Int.cast_ofNat_Int, Int.toNat_zero, Int.toNat_one, Int.reduceLT, Int.reduceLE, Int.reduceToNat, Int.reduceGT, Int.reduceGE, Int.reduceNeg, decide_true, decide_false, Int.reduceAdd, Int.reduceSub, bne_self_eq_false, wrap64, d_draw, d_nil, d_e, d_cons, d_consG, d_op, d_gtt, d_gff, d_gtf, d_gft, chkAdd, effAdd, AOp.kind, chkAll, chkSee, Bool.and_true, Bool.true_and, Nat.reduceLT, s_gu, d_gu]
        exact ⟨true, rfl, fun h => by cases h⟩
      | false =>
        simp -implicitDefEqProofs (disch := first | (simp only [ne_eq, reduceCtorEq, not_false_eq_true]; done) | (simp -implicitDefEqProofs only [St.n_push, St.n_put]; done) | (simp -implicitDefEqProofs only [St.n_push, St.n_put]; omega) | omega) only [c2, e4, w1, aCallv, aPtrEq, s_nil, s_cons, s_consG, s_op, s_gtt, s_gff, s_gtf, s_gft, s_region, s_reg, s_seq, s_seqn, s_seqr, s_seqe, s_skip, s_ret, s_exit, s_cond, s_condt, s_condf, s_block, s_blockn, s_blockr, s_blocke, s_finr, s_finn, AOp.run, AO.eval, put, Option.map_some, Option.map_none, upd_self, upd_other, ne_eq, reduceCtorEq, not_false_eq_true, aInt, Nat.reduceEqDiff, initEnv, List.getElem?_cons_zero, List.getElem?_cons_succ, Option.getD_some, Bool.false_eq_true, if_false, if_true, V.bool, V.i64, resultsOf, List.mapM_cons, List.mapM_nil, AR.get, Option.bind_eq_bind, Option.bind_some, Option.pure_def, beq_tt, beq_tf, beq_ft, beq_ff, Bool.not_true, Bool.not_false, Nat.succ_ne_zero, List.map_cons, List.map_nil, aExtract, aUn, Int.reduceEq, Int.reduceBEq, Int.reduceBNe, BEq.rfl, aBox, aLoad, aStore, aPart, aPlace, aArrAddr, aArrIdx, aIdx, aLenStr, aConv, aFold, aMinMax, aEqV, aNilCheck, splice, fillV, V.cellsOf, V.oneCell, List.all_cons, List.all_nil, Bool.and_true, Bool.and_self, Option.map_some, Option.bind_some, List.drop_succ_cons, List.drop_zero, List.take_succ_cons, List.take_zero, List.length_cons, List.length_nil, Nat.reduceAdd, Nat.zero_add, Nat.add_zero, Nat.reduceLeDiff, Nat.reduceMul, Nat.mul_one, List.cons_append, List.nil_append, St.n_push, St.n_put, get_push_eq, get_push_ne, get_put_eq, get_put_ne, w_some, Nat.le_refl, true_and, and_true, and_self, List.append_nil, b_add, b_sub, b_mul, b_quo, b_rem, b_and, b_or, b_xor, b_eql, b_neq, b_lss, b_leq, b_gtr, b_geq, Int.cast_ofNat_Int, Int.toNat_zero, Int.toNat_one, Int.reduceLT, Int.reduceLE, Int.reduceToNat, Int.reduceGT, Int.reduceGE, Int.reduceNeg, decide_true, decide_false, Int.reduceAdd, Int.reduceSub, bne_self_eq_false, d_draw, d_nil, d_e, d_cons, d_consG, d_op, d_gtt, d_gff, d_gtf, d_gft, chkAdd, effAdd, AOp.kind, chkAll, chkSee, Bool.and_true, Bool.true_and, Nat.reduceLT, s_gu, d_gu]
        refine ⟨ops.length - (i + 1), by omega, i + 1, n', rfl, hl, e0, rfl, by simp⟩
    · have c1 : decide ((i : Int) < (ops.length : Int)) = false := by simpa using hl
      simp -implicitDefEqProofs (disch := first | (simp only [ne_eq, reduceCtorEq, not_false_eq_true]; done) | (simp -implicitDefEqProofs only [St.n_push, St.n_put]; done) | (simp -implicitDefEqProofs only [St.n_push, St.n_put]; omega) | omega) only [hlen, c1, e0, e4, aCallv, aPtrEq, s_nil, s_cons, s_consG, s_op, s_gtt, s_gff, s_gtf, s_gft, s_region, s_reg, s_seq, s_seqn, s_seqr, s_seqe, s_skip, s_ret, s_exit, s_cond, s_condt, s_condf, s_block, s_blockn, s_blockr, s_blocke, s_finr, s_finn, AOp.run, AO.eval, put, Option.map_some, Option.map_none, upd_self, upd_other, ne_eq, reduceCtorEq, not_false_eq_true, aInt, Nat.reduceEqDiff, initEnv, List.getElem?_cons_zero, List.getElem?_cons_succ, Option.getD_some, Bool.false_eq_true, if_false, if_true, V.bool, V.i64, resultsOf, List.mapM_cons, List.mapM_nil, AR.get, Option.bind_eq_bind, Option.bind_some, Option.pure_def, beq_tt, beq_tf, beq_ft, beq_ff, Bool.not_true, Bool.not_false, Nat.succ_ne_zero, List.map_cons, List.map_nil, aExtract, aUn, Int.reduceEq, Int.reduceBEq, Int.reduceBNe, BEq.rfl, aBox, aLoad, aStore, aPart, aPlace, aArrAddr, aArrIdx, aIdx, aLenStr, aConv, aFold, aMinMax, aEqV, aNilCheck, splice, fillV, V.cellsOf, V.oneCell, List.all_cons, List.all_nil, Bool.and_true, Bool.and_self, Option.map_some, Option.bind_some, List.drop_succ_cons, List.drop_zero, List.take_succ_cons, List.take_zero, List.length_cons, List.length_nil, Nat.reduceAdd, Nat.zero_add, Nat.add_zero, Nat.reduceLeDiff, Nat.reduceMul, Nat.mul_one, List.cons_append, List.nil_append, St.n_push, St.n_put, get_push_eq, get_push_ne, get_put_eq, get_put_ne, w_some, Nat.le_refl, true_and, and_true, and_self, List.append_nil, b_add, b_sub, b_mul, b_quo, b_rem, b_and, b_or, b_xor, b_eql, b_neq, b_lss, b_leq, b_gtr, b_geq, Int.cast_ofNat_Int, Int.toNat_zero, Int.toNat_one, Int.reduceLT, Int.reduceLE, Int.reduceToNat, Int.reduceGT, Int.reduceGE, Int.reduceNeg, decide_true, decide_false, Int.reduceAdd, Int.reduceSub, bne_self_eq_false, wrap64, d_draw, d_nil, d_e, d_cons, d_consG, d_op, d_gtt, d_gff, d_gtf, d_gft, chkAdd, effAdd, AOp.kind, chkAll, chkSee, Bool.and_true, Bool.true_and, Nat.reduceLT, s_gu, d_gu]
      refine ⟨_, rfl, fun hb => ?_⟩
      simp only [decide_eq_false_iff_not] at hb
      omega

abbrev qL : EqT := .struct [(0, none, .int .i64), (1, none, .int .i64), (2, none, .int .i64), (3, none, .str)]
theorem eqL (σ : St) (a : Lt) : aEqV σ qL (.agg (lc a)) (.agg (lc a)) = some true := by
  simp [aEqV, aEqFs, lc, aPart, aEqInt, aEqStr]
abbrev qT : EqT := .struct [(0, none, .int .i64), (1, some 4, qL), (5, none, .int .i64)]
theorem eqT (σ : St) (a : Td) : aEqV σ qT (.agg (tc a)) (.agg (tc a)) = some true := by
  simp [aEqV, aEqFs, tc, aPart, aEqInt, aEqStr]

/-- Two lists of the same letters. -/
theorem same_ok (k : Nat) (ys : YlF) (σ : St) (fo go : Option Nat) (f g : V) (ls : List Lt) (hf : Fl σ fo f ls) (hg : Fl σ go g ls) (hl : ls.length ≤ 1000) (hk : 1001 ≤ k) :
    callY Tab.tbl (k + 1) ys 19 [f, g] σ = some (.sc (.bool true), σ) := by
  suffices h : W (callY Tab.tbl (k + 1) ys 19 [f, g] σ) fun r => r = (.sc (.bool true), σ) by
    obtain ⟨r, h1, rfl⟩ := h
    exact h1
  rw [s_call (af := Tab.a19) rfl (by simp [Tab.a19])]
  generalize callY Tab.tbl k = cy
  have l1 := hf.len
  have l2 := hg.len
  have s1 := hf.size
  have s2 := hg.size
  simp -implicitDefEqProofs (disch := first | (simp only [ne_eq, reduceCtorEq, not_false_eq_true]; done) | (simp -implicitDefEqProofs only [St.n_push, St.n_put]; done) | (simp -implicitDefEqProofs only [St.n_push, St.n_put]; omega) | omega) only [Tab.a19, l1, l2, aCallv, aPtrEq, s_nil, s_cons, s_consG, s_op, s_gtt, s_gff, s_gtf, s_gft, s_region, s_reg, s_seq, s_seqn, s_seqr, s_seqe, s_skip, s_ret, s_exit, s_cond, s_condt, s_condf, s_block, s_blockn, s_blockr, s_blocke, s_finr, s_finn, AOp.run, AO.eval, put, Option.map_some, Option.map_none, upd_self, upd_other, ne_eq, reduceCtorEq, not_false_eq_true, aInt, Nat.reduceEqDiff, initEnv, List.getElem?_cons_zero, List.getElem?_cons_succ, Option.getD_some, Bool.false_eq_true, if_false, if_true, V.bool, V.i64, resultsOf, List.mapM_cons, List.mapM_nil, AR.get, Option.bind_eq_bind, Option.bind_some, Option.pure_def, beq_tt, beq_tf, beq_ft, beq_ff, Bool.not_true, Bool.not_false, Nat.succ_ne_zero, List.map_cons, List.map_nil, aExtract, aUn, Int.reduceEq, Int.reduceBEq, Int.reduceBNe, BEq.rfl, aBox, aLoad, aStore, aPart, aPlace, aArrAddr, aArrIdx, aIdx, aLenStr, aConv, aFold, aMinMax, aEqV, aNilCheck, splice, fillV, V.cellsOf, V.oneCell, List.all_cons, List.all_nil, Bool.and_true, Bool.and_self, Option.map_some, Option.bind_some, List.drop_succ_cons, List.drop_zero, List.take_succ_cons, List.take_zero, List.length_cons, List.length_nil, Nat.reduceAdd, Nat.zero_add, Nat.add_zero, Nat.reduceLeDiff, Nat.reduceMul, Nat.mul_one, List.cons_append, List.nil_append, St.n_push, St.n_put, get_push_eq, get_push_ne, get_put_eq, get_put_ne, w_some, Nat.le_refl, true_and, and_true, and_self, List.append_nil, b_add, b_sub, b_mul, b_quo, b_rem, b_and, b_or, b_xor, b_eql, b_neq, b_lss, b_leq, b_gtr, b_geq, Int.cast_ofNat_Int, Int.toNat_zero, Int.toNat_one, Int.reduceLT, Int.reduceLE, Int.reduceToNat, Int.reduceGT, Int.reduceGE, Int.reduceNeg, decide_true, decide_false, Int.reduceAdd, Int.reduceSub, bne_self_eq_false, wrap64, d_draw, d_nil, d_e, d_cons, d_consG, d_op, d_gtt, d_gff, d_gtf, d_gft, chkAdd, effAdd, AOp.kind, chkAll, chkSee, Bool.and_true, Bool.true_and, Nat.reduceLT, s_gu, d_gu]
  repeat (first | refine w_fin ?_ | refine w_seq ?_ | refine w_block ?_ | refine w_reg ?_ | refine w_op ?_ | refine w_dop ?_)
  refine w_loop (fun m ρ σ' => ∃ i : Nat, m = ls.length - i ∧ i ≤ ls.length ∧ ρ 0 = f ∧ ρ 1 = g ∧ ρ 5 = .sc (.int .i64 i) ∧ σ' = σ) ls.length (by omega) ?_ ?_
  · refine ⟨0, rfl, Nat.zero_le _, ?_, ?_, ?_, rfl⟩
    all_goals first | rfl | (simp -implicitDefEqProofs (disch := first | (simp only [ne_eq, reduceCtorEq, not_false_eq_true]; done) | (simp -implicitDefEqProofs only [St.n_push, St.n_put]; done) | (simp -implicitDefEqProofs only [St.n_push, St.n_put]; omega) | omega) only [aCallv, aPtrEq, s_nil, s_cons, s_consG, s_op, s_gtt, s_gff, s_gtf, s_gft, s_region, s_reg, s_seq, s_seqn, s_seqr, s_seqe, s_skip, s_ret, s_exit, s_cond, s_condt, s_condf, s_block, s_blockn, s_blockr, s_blocke, s_finr, s_finn, AOp.run, AO.eval, put, Option.map_some, Option.map_none, upd_self, upd_other, ne_eq, reduceCtorEq, not_false_eq_true, aInt, Nat.reduceEqDiff, initEnv, List.getElem?_cons_zero, List.getElem?_cons_succ, Option.getD_some, Bool.false_eq_true, if_false, if_true, V.bool, V.i64, resultsOf, List.mapM_cons, List.mapM_nil, AR.get, Option.bind_eq_bind, Option.bind_some, Option.pure_def, beq_tt, beq_tf, beq_ft, beq_ff, Bool.not_true, Bool.not_false, Nat.succ_ne_zero, List.map_cons, List.map_nil, aExtract, aUn, Int.reduceEq, Int.reduceBEq, Int.reduceBNe, BEq.rfl, aBox, aLoad, aStore, aPart, aPlace, aArrAddr, aArrIdx, aIdx, aLenStr, aConv, aFold, aMinMax, aEqV, aNilCheck, splice, fillV, V.cellsOf, V.oneCell, List.all_cons, List.all_nil, Bool.and_true, Bool.and_self, Option.map_some, Option.bind_some, List.drop_succ_cons, List.drop_zero, List.take_succ_cons, List.take_zero, List.length_cons, List.length_nil, Nat.reduceAdd, Nat.zero_add, Nat.add_zero, Nat.reduceLeDiff, Nat.reduceMul, Nat.mul_one, List.cons_append, List.nil_append, St.n_push, St.n_put, get_push_eq, get_push_ne, get_put_eq, get_put_ne, w_some, Nat.le_refl, true_and, and_true, and_self, List.append_nil, b_add, b_sub, b_mul, b_quo, b_rem, b_and, b_or, b_xor, b_eql, b_neq, b_lss, b_leq, b_gtr, b_geq, Int.cast_ofNat_Int, Int.toNat_zero, Int.toNat_one, Int.reduceLT, Int.reduceLE, Int.reduceToNat, Int.reduceGT, Int.reduceGE, Int.reduceNeg, decide_true, decide_false, Int.reduceAdd, Int.reduceSub, bne_self_eq_false, wrap64, d_draw, d_nil, d_e, d_cons, d_consG, d_op, d_gtt, d_gff, d_gtf, d_gft, chkAdd, effAdd, AOp.kind, chkAll, chkSee, Bool.and_true, Bool.true_and, Nat.reduceLT, s_gu, d_gu]; done) | (simp -implicitDefEqProofs (disch := first | (simp only [ne_eq, reduceCtorEq, not_false_eq_true]; done) | (simp -implicitDefEqProofs only [St.n_push, St.n_put]; done) | (simp -implicitDefEqProofs only [St.n_push, St.n_put]; omega) | omega) only [aCallv, aPtrEq, s_nil, s_cons, s_consG, s_op, s_gtt, s_gff, s_gtf, s_gft, s_region, s_reg, s_seq, s_seqn, s_seqr, s_seqe, s_skip, s_ret, s_exit, s_cond, s_condt, s_condf, s_block, s_blockn, s_blockr, s_blocke, s_finr, s_finn, AOp.run, AO.eval, put, Option.map_some, Option.map_none, upd_self, upd_other, ne_eq, reduceCtorEq, not_false_eq_true, aInt, Nat.reduceEqDiff, initEnv, List.getElem?_cons_zero, List.getElem?_cons_succ, Option.getD_some, Bool.false_eq_true, if_false, if_true, V.bool, V.i64, resultsOf, List.mapM_cons, List.mapM_nil, AR.get, Option.bind_eq_bind, Option.bind_some, Option.pure_def, beq_tt, beq_tf, beq_ft, beq_ff, Bool.not_true, Bool.not_false, Nat.succ_ne_zero, List.map_cons, List.map_nil, aExtract, aUn, Int.reduceEq, Int.reduceBEq, Int.reduceBNe, BEq.rfl, aBox, aLoad, aStore, aPart, aPlace, aArrAddr, aArrIdx, aIdx, aLenStr, aConv, aFold, aMinMax, aEqV, aNilCheck, splice, fillV, V.cellsOf, V.oneCell, List.all_cons, List.all_nil, Bool.and_true, Bool.and_self, Option.map_some, Option.bind_some, List.drop_succ_cons, List.drop_zero, List.take_succ_cons, List.take_zero, List.length_cons, List.length_nil, Nat.reduceAdd, Nat.zero_add, Nat.add_zero, Nat.reduceLeDiff, Nat.reduceMul, Nat.mul_one, List.cons_append, List.nil_append, St.n_push, St.n_put, get_push_eq, get_push_ne, get_put_eq, get_put_ne, w_some, Nat.le_refl, true_and, and_true, and_self, List.append_nil, b_add, b_sub, b_mul, b_quo, b_rem, b_and, b_or, b_xor, b_eql, b_neq, b_lss, b_leq, b_gtr, b_geq, Int.cast_ofNat_Int, Int.toNat_zero, Int.toNat_one, Int.reduceLT, Int.reduceLE, Int.reduceToNat, Int.reduceGT, Int.reduceGE, Int.reduceNeg, decide_true, decide_false, Int.reduceAdd, Int.reduceSub, bne_self_eq_false, wrap64, d_draw, d_nil, d_e, d_cons, d_consG, d_op, d_gtt, d_gff, d_gtf, d_gft, chkAdd, effAdd, AOp.kind, chkAll, chkSee, Bool.and_true, Bool.true_and, Nat.reduceLT, s_gu, d_gu]; rfl)
  · intro m ρ σ' ⟨i, hm, hi, e0, e1, e5, hσ⟩
    subst hσ
    by_cases hl : i < ls.length
    · have c1 : decide ((i : Int) < (ls.length : Int)) = true := by simpa using hl
      obtain ⟨p, cs, rfl, ha, gp, ha1, ha2⟩ := hf.at (List.getElem?_eq_getElem hl)
      obtain ⟨q, ds, rfl, hb, gq, hb1, hb2⟩ := hg.at (List.getElem?_eq_getElem hl)
      have he := eqL σ' ls[i]
      simp -implicitDefEqProofs (disch := first | (simp only [ne_eq, reduceCtorEq, not_false_eq_true]; done) | (simp -implicitDefEqProofs only [St.n_push, St.n_put]; done) | (simp -implicitDefEqProofs only [St.n_push, St.n_put]; omega) | omega) only [l1, c1, e0, e1, e5, ha, hb, gp, gq, ha1, ha2, hb1, hb2, s1, s2, he, aCallv, aPtrEq, s_nil, s_cons, s_consG, s_op, s_gtt, s_gff, s_gtf, s_gft, s_region, s_reg, s_seq, s_seqn, s_seqr, s_seqe, s_skip, s_ret, s_exit, s_cond, s_condt, s_condf, s_block, s_blockn, s_blockr, s_blocke, s_finr, s_finn, AOp.run, AO.eval, put, Option.map_some, Option.map_none, upd_self, upd_other, ne_eq, reduceCtorEq, not_false_eq_true, aInt, Nat.reduceEqDiff, initEnv, List.getElem?_cons_zero, List.getElem?_cons_succ, Option.getD_some, Bool.false_eq_true, if_false, if_true, V.bool, V.i64, resultsOf, List.mapM_cons, List.mapM_nil, AR.get, Option.bind_eq_bind, Option.bind_some, Option.pure_def, beq_tt, beq_tf, beq_ft, beq_ff, Bool.not_true, Bool.not_false, Nat.succ_ne_zero, List.map_cons, List.map_nil, aExtract, aUn, Int.reduceEq, Int.reduceBEq, Int.reduceBNe, BEq.rfl, aBox, aLoad, aStore, aPart, aPlace, aArrAddr, aArrIdx, aIdx, aLenStr, aConv, aFold, aMinMax, aNilCheck, splice, fillV, V.cellsOf, V.oneCell, List.all_cons, List.all_nil, Bool.and_true, Bool.and_self, Option.map_some, Option.bind_some, List.drop_succ_cons, List.drop_zero, List.take_succ_cons, List.take_zero, List.length_cons, List.length_nil, Nat.reduceAdd, Nat.zero_add, Nat.add_zero, Nat.reduceLeDiff, Nat.reduceMul, Nat.mul_one, List.cons_append, List.nil_append, St.n_push, St.n_put, get_push_eq, get_push_ne, get_put_eq, get_put_ne, w_some, Nat.le_refl, true_and, and_true, and_self, List.append_nil, b_add, b_sub, b_mul, b_quo, b_rem, b_and, b_or, b_xor, b_eql, b_neq, b_lss, b_leq, b_gtr, b_geq, Int.cast_ofNat_Int, Int.toNat_zero, Int.toNat_one, Int.reduceLT, Int.reduceLE, Int.reduceToNat, Int.reduceGT, Int.reduceGE, Int.reduceNeg, decide_true, decide_false, Int.reduceAdd, Int.reduceSub, bne_self_eq_false, wrap64, d_draw, d_nil, d_e, d_cons, d_consG, d_op, d_gtt, d_gff, d_gtf, d_gft, chkAdd, effAdd, AOp.kind, chkAll, chkSee, Bool.and_true, Bool.true_and, Nat.reduceLT, s_gu, d_gu]
      exact ⟨ls.length - (i + 1), by omega, i + 1, rfl, hl, rfl⟩
    · have c1 : decide ((i : Int) < (ls.length : Int)) = false := by simpa using hl
      simp -implicitDefEqProofs (disch := first | (simp only [ne_eq, reduceCtorEq, not_false_eq_true]; done) | (simp -implicitDefEqProofs only [St.n_push, St.n_put]; done) | (simp -implicitDefEqProofs only [St.n_push, St.n_put]; omega) | omega) only [l1, c1, e0, e5, aCallv, aPtrEq, s_nil, s_cons, s_consG, s_op, s_gtt, s_gff, s_gtf, s_gft, s_region, s_reg, s_seq, s_seqn, s_seqr, s_seqe, s_skip, s_ret, s_exit, s_cond, s_condt, s_condf, s_block, s_blockn, s_blockr, s_blocke, s_finr, s_finn, AOp.run, AO.eval, put, Option.map_some, Option.map_none, upd_self, upd_other, ne_eq, reduceCtorEq, not_false_eq_true, aInt, Nat.reduceEqDiff, initEnv, List.getElem?_cons_zero, List.getElem?_cons_succ, Option.getD_some, Bool.false_eq_true, if_false, if_true, V.bool, V.i64, resultsOf, List.mapM_cons, List.mapM_nil, AR.get, Option.bind_eq_bind, Option.bind_some, Option.pure_def, beq_tt, beq_tf, beq_ft, beq_ff, Bool.not_true, Bool.not_false, Nat.succ_ne_zero, List.map_cons, List.map_nil, aExtract, aUn, Int.reduceEq, Int.reduceBEq, Int.reduceBNe, BEq.rfl, aBox, aLoad, aStore, aPart, aPlace, aArrAddr, aArrIdx, aIdx, aLenStr, aConv, aFold, aMinMax, aEqV, aNilCheck, splice, fillV, V.cellsOf, V.oneCell, List.all_cons, List.all_nil, Bool.and_true, Bool.and_self, Option.map_some, Option.bind_some, List.drop_succ_cons, List.drop_zero, List.take_succ_cons, List.take_zero, List.length_cons, List.length_nil, Nat.reduceAdd, Nat.zero_add, Nat.add_zero, Nat.reduceLeDiff, Nat.reduceMul, Nat.mul_one, List.cons_append, List.nil_append, St.n_push, St.n_put, get_push_eq, get_push_ne, get_put_eq, get_put_ne, w_some, Nat.le_refl, true_and, and_true, and_self, List.append_nil, b_add, b_sub, b_mul, b_quo, b_rem, b_and, b_or, b_xor, b_eql, b_neq, b_lss, b_leq, b_gtr, b_geq, Int.cast_ofNat_Int, Int.toNat_zero, Int.toNat_one, Int.reduceLT, Int.reduceLE, Int.reduceToNat, Int.reduceGT, Int.reduceGE, Int.reduceNeg, decide_true, decide_false, Int.reduceAdd, Int.reduceSub, bne_self_eq_false, wrap64, d_draw, d_nil, d_e, d_cons, d_consG, d_op, d_gtt, d_gff, d_gtf, d_gft, chkAdd, effAdd, AOp.kind, chkAll, chkSee, Bool.and_true, Bool.true_and, Nat.reduceLT, s_gu, d_gu]
end Go.Proofs.Ythnfafphaopnkaa.netR
