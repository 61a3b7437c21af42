/-
  The network, its functions: what each comes to.
-/
import Derived.Test.YthnfafphaopnkaaAbT
import Derived.Test.YthnfafphaopnkaaAbA
import Derived.Test.YthnfafphaopnkaaAbW
namespace Go.Proofs.Ythnfafphaopnkaa.netR
open Go.Ab
set_option maxRecDepth 100000
set_option maxHeartbeats 8000000
set_option linter.unusedSimpArgs false
set_option linter.unusedVariables false

structure Lt where
  id : Int
  fr : Int
  to : Int
  b : List UInt8
def lc (l : Lt) : List V := [.sc (.int .i64 l.id), .sc (.int .i64 l.fr), .sc (.int .i64 l.to), .str l.b]
def flat (ls : List Lt) : List V := (ls.map lc).flatten
theorem lc_len (l : Lt) : (lc l).length = 4 := rfl
theorem flat_length (ls : List Lt) : (flat ls).length = ls.length * 4 := by
  unfold flat
  rw [flat_len (sz := 4)]
  · simp
  · intro a ha
    obtain ⟨l, _, rfl⟩ := List.mem_map.1 ha
    rfl
theorem flat_append (a b : List Lt) : flat (a ++ b) = flat a ++ flat b := by simp [flat]
theorem flat_one (l : Lt) : flat [l] = lc l := by simp [flat]
theorem flat_drop (ls : List Lt) (i : Nat) : (flat ls).drop (i * 4) = flat (ls.drop i) := by
  induction i generalizing ls with
  | zero => simp
  | succ i ih =>
    cases ls with
    | nil => simp [flat]
    | cons l ls =>
      rw [show flat (l :: ls) = lc l ++ flat ls from by simp [flat], List.drop_succ_cons, ← ih, show (i + 1) * 4 = 4 + i * 4 by omega, ← List.drop_drop]
      rfl
theorem flat_take (ls : List Lt) (i : Nat) : (flat ls).take (i * 4) = flat (ls.take i) := by
  induction i generalizing ls with
  | zero => simp [flat]
  | succ i ih =>
    cases ls with
    | nil => simp [flat]
    | cons l ls =>
      rw [show flat (l :: ls) = lc l ++ flat ls from by simp [flat], List.take_succ_cons, show flat (l :: ls.take i) = lc l ++ flat (ls.take i) from by simp [flat], ← ih, show (i + 1) * 4 = (lc l).length + i * 4 by rw [lc_len]; omega, List.take_length_add_append]
theorem flat_one' (ls : List Lt) : (flat ls).all V.oneCell = true := by
  induction ls with
  | nil => rfl
  | cons l ls ih =>
    rw [show flat (l :: ls) = lc l ++ flat ls from by simp [flat], List.all_append, ih]
    rfl

/-- Letters in flight: whose object (none: no cells). -/
inductive Fl (σ : St) : Option Nat → V → List Lt → Prop
  | nil : Fl σ none (.sc .nilS) []
  | vs : Fl σ none (.vs .exact 4 0 []) []
  | os {o : Nat} {ls : List Lt} {cs : List V} (h1 : σ.get o = some (.cells cs)) (h2 : cs.take (ls.length * 4) = flat ls) (k : Nat) (h3 : cs.length = k * 4) (h4 : ls.length ≤ k) : Fl σ (some o) (.os o 0 4 ls.length none) ls
theorem Fl.kept {X : Nat → Prop} {σ σ' : St} {o : Option Nat} {f : V} {ls : List Lt} (h : Fl σ o f ls) (k : Kept X σ σ') (hx : ∀ p, o = some p → ¬ X p) : Fl σ' o f ls := by
  cases h with
  | nil => exact .nil
  | vs => exact .vs
  | os h1 h2 k' h3 h4 => exact .os (k.get _ _ (hx _ rfl) h1) h2 k' h3 h4
theorem Fl.len {σ : St} {o : Option Nat} {f : V} {ls : List Lt} (h : Fl σ o f ls) : aLen f = some (.sc (.int .i64 ls.length)) := by
  cases h <;> rfl
theorem Fl.size {σ : St} {o : Option Nat} {f : V} {ls : List Lt} (h : Fl σ o f ls) : slSize 4 f = true := by
  cases h <;> rfl
theorem Fl.lt {σ : St} {o : Nat} {f : V} {ls : List Lt} (h : Fl σ (some o) f ls) : o < σ.n := by
  cases h with
  | os h1 => exact St.get_lt h1
theorem Fl.ne_map {σ : St} {m c : Nat} {es : List (V × V × Nat)} {fo : Option Nat} {f : V} {ls : List Lt} (h : Fl σ fo f ls) (hm : σ.get m = some (.map es c)) : fo ≠ some m := by
  rintro rfl
  cases h with
  | os h1 => rw [hm] at h1; cases h1
/-- A letter's cells. -/
theorem Fl.at {σ : St} {o : Option Nat} {f : V} {ls : List Lt} (h : Fl σ o f ls) {i : Nat} {l : Lt} (hi : ls[i]? = some l) : ∃ p cs, o = some p ∧ aSlAddr f (.sc (.int .i64 i)) = some (.ptr p (i * 4)) ∧ σ.get p = some (.cells cs) ∧ (i * 4 + 4 ≤ cs.length) = True ∧ (cs.drop (i * 4)).take 4 = lc l := by
  have hl : i < ls.length := (List.getElem?_eq_some_iff.1 hi).1
  cases h with
  | nil => simp at hl
  | vs => simp at hl
  | @os o _ cs h1 h2 k h3 h4 =>
    refine ⟨o, cs, rfl, ?_, h1, by simp; omega, ?_⟩
    · have : (0 : Int) ≤ i ∧ (i : Int) < ls.length := by omega
      simp [aSlAddr, aIdx, this]
    · obtain ⟨p1, p2⟩ := flat_at (sz := 4) (es := ls.map lc) (fun a ha => by obtain ⟨l, _, rfl⟩ := List.mem_map.1 ha; rfl) (i := i) (x := lc l) (by simp [hi])
      have e : flat ls = (ls.map lc).flatten := rfl
      rw [← e, ← h2] at p2
      have hle : i * 4 + 4 ≤ cs.length := by omega
      rw [List.drop_take, List.take_take] at p2
      rw [← p2]
      congr 1
      omega

theorem cmp_ok (k : Nat) (ys : YlF) (σ : St) (l : Lt) (id : Int) : W (callY Tab.tbl (k + 1) ys 39 [.agg (lc l), .sc (.int .i64 id)] σ) fun o => o.1 = .sc (.int .i64 (IntKind.i64.wrap (l.id - id))) ∧ Kept noX σ o.2 := by
  rw [s_call (af := Tab.a39) rfl (by simp [Tab.a39])]
  generalize callY Tab.tbl k = cy
  simp -implicitDefEqProofs (disch := first | (simp only [ne_eq, reduceCtorEq, not_false_eq_true]; done) | (simp -implicitDefEqProofs only [St.n_push, St.n_put]; done) | (simp -implicitDefEqProofs only [St.n_push, St.n_put]; omega) | omega) only [Tab.a39, lc, aCallv, aPtrEq, s_nil, s_cons, s_consG, s_op, s_gtt, s_gff, s_gtf, s_gft, s_region, s_reg, s_seq, s_seqn, s_seqr, s_seqe, s_skip, s_ret, s_exit, s_cond, s_condt, s_condf, s_block, s_blockn, s_blockr, s_blocke, s_finr, s_finn, AOp.run, AO.eval, put, Option.map_some, Option.map_none, upd_self, upd_other, ne_eq, reduceCtorEq, not_false_eq_true, aInt, Nat.reduceEqDiff, initEnv, List.getElem?_cons_zero, List.getElem?_cons_succ, Option.getD_some, Bool.false_eq_true, if_false, if_true, V.bool, V.i64, resultsOf, List.mapM_cons, List.mapM_nil, AR.get, Option.bind_eq_bind, Option.bind_some, Option.pure_def, beq_tt, beq_tf, beq_ft, beq_ff, Bool.not_true, Bool.not_false, Nat.succ_ne_zero, List.map_cons, List.map_nil, aExtract, aUn, Int.reduceEq, Int.reduceBEq, Int.reduceBNe, BEq.rfl, aBox, aLoad, aStore, aPart, aPlace, aArrAddr, aArrIdx, aIdx, aLenStr, aConv, aFold, aMinMax, aEqV, aNilCheck, splice, fillV, V.cellsOf, V.oneCell, List.all_cons, List.all_nil, Bool.and_true, Bool.and_self, Option.map_some, Option.bind_some, List.drop_succ_cons, List.drop_zero, List.take_succ_cons, List.take_zero, List.length_cons, List.length_nil, Nat.reduceAdd, Nat.zero_add, Nat.add_zero, Nat.reduceLeDiff, Nat.reduceMul, Nat.mul_one, List.cons_append, List.nil_append, St.n_push, St.n_put, get_push_eq, get_push_ne, get_put_eq, get_put_ne, w_some, Nat.le_refl, true_and, and_true, and_self, List.append_nil, b_add, b_sub, b_mul, b_quo, b_rem, b_and, b_or, b_xor, b_eql, b_neq, b_lss, b_leq, b_gtr, b_geq, Int.cast_ofNat_Int, Int.toNat_zero, Int.toNat_one, Int.reduceLT, Int.reduceLE, Int.reduceToNat, Int.reduceGT, Int.reduceGE, Int.reduceNeg, decide_true, decide_false, Int.reduceAdd, Int.reduceSub, bne_self_eq_false, d_draw, d_nil, d_e, d_cons, d_consG, d_op, d_gtt, d_gff, d_gtf, d_gft, chkAdd, effAdd, AOp.kind, chkAll, chkSee, Bool.and_true, Bool.true_and, Nat.reduceLT, s_gu, d_gu]
  exact (Kept.refl _ _).push _

theorem wrap_u {n : Int} (h0 : 0 ≤ n) (h1 : n ≤ 1000) : IntKind.u64.wrap n = n := by
  unfold IntKind.wrap
  simp [IntKind.signed, IntKind.bits]
  omega
theorem wrap_0 {n : Int} (h : -9223372036854775808 ≤ n) (h1 : n ≤ 9223372036854775807) (m : Int) (hm : 0 ≤ m) (hm1 : m ≤ 1000) : IntKind.i64.wrap (m - n) = 0 ↔ m = n := by
  unfold IntKind.wrap
  simp [IntKind.signed, IntKind.bits]
  omega
theorem half {a b : Nat} (h : a + b ≤ 1000) : aBin .shr (.sc (.int .u64 (IntKind.u64.wrap ((a : Int) + b)))) (.sc (.int .u64 1)) = some (.sc (.int .u64 (((a + b) / 2 : Nat) : Int))) := by
  rw [wrap_u (by omega) (by omega)]
  have e : ((a : Int) + b).fdiv 2 = (((a + b) / 2 : Nat) : Int) := by rw [Int.fdiv_eq_ediv_of_nonneg _ (by decide)]; omega
  simp [aBin, aShift, IntKind.bits, e]
/-- Letters by rising numbers. -/
def Up (ls : List Lt) : Prop := (∀ (i j : Nat) (a b : Lt), ls[i]? = some a → ls[j]? = some b → i < j → a.id < b.id) ∧ (∀ l ∈ ls, 1 ≤ l.id ∧ l.id ≤ 1000) ∧ ls.length ≤ 256
def Found (ls : List Lt) (id : Int) (i : Nat) (b : Bool) : Prop := (b = true → ∃ l, ls[i]? = some l ∧ l.id = id) ∧ (b = false → ∀ l ∈ ls, l.id ≠ id)

theorem bs_ok (k : Nat) (ys : YlF) (σ : St) (o : Option Nat) (f : V) (ls : List Lt) (id : Int) (hf : Fl σ o f ls) (hs : Up ls) (hk : 257 ≤ k) (hi0 : -9223372036854775808 ≤ id) (hi1 : id ≤ 9223372036854775807) :
    W (callY Tab.tbl (k + 2) ys 38 [f, .sc (.int .i64 id), .fn (.func 39) [] []] σ) fun r => ∃ (i : Nat) (b : Bool), r.1 = .tup [.sc (.int .i64 i), .sc (.bool b)] ∧ Kept noX σ r.2 ∧ Found ls id i b := by
  rw [s_call (af := Tab.a38) rfl (by simp [Tab.a38])]
  have hc := fun σ => cmp_ok k ys σ
  have hlen := hf.len
  have hsize := hf.size
  generalize callY Tab.tbl (k + 1) = cy at hc ⊢
  simp -implicitDefEqProofs (disch := first | (simp only [ne_eq, reduceCtorEq, not_false_eq_true]; done) | (simp -implicitDefEqProofs only [St.n_push, St.n_put]; done) | (simp -implicitDefEqProofs only [St.n_push, St.n_put]; omega) | omega) only [hlen, Tab.a38, aCallv, aPtrEq, s_nil, s_cons, s_consG, s_op, s_gtt, s_gff, s_gtf, s_gft, s_region, s_reg, s_seq, s_seqn, s_seqr, s_seqe, s_skip, s_ret, s_exit, s_cond, s_condt, s_condf, s_block, s_blockn, s_blockr, s_blocke, s_finr, s_finn, AOp.run, AO.eval, put, Option.map_some, Option.map_none, upd_self, upd_other, ne_eq, reduceCtorEq, not_false_eq_true, aInt, Nat.reduceEqDiff, initEnv, List.getElem?_cons_zero, List.getElem?_cons_succ, Option.getD_some, Bool.false_eq_true, if_false, if_true, V.bool, V.i64, resultsOf, List.mapM_cons, List.mapM_nil, AR.get, Option.bind_eq_bind, Option.bind_some, Option.pure_def, beq_tt, beq_tf, beq_ft, beq_ff, Bool.not_true, Bool.not_false, Nat.succ_ne_zero, List.map_cons, List.map_nil, aExtract, aUn, Int.reduceEq, Int.reduceBEq, Int.reduceBNe, BEq.rfl, aBox, aLoad, aStore, aPart, aPlace, aArrAddr, aArrIdx, aIdx, aLenStr, aConv, aFold, aMinMax, aEqV, aNilCheck, splice, fillV, V.cellsOf, V.oneCell, List.all_cons, List.all_nil, Bool.and_true, Bool.and_self, Option.map_some, Option.bind_some, List.drop_succ_cons, List.drop_zero, List.take_succ_cons, List.take_zero, List.length_cons, List.length_nil, Nat.reduceAdd, Nat.zero_add, Nat.add_zero, Nat.reduceLeDiff, Nat.reduceMul, Nat.mul_one, List.cons_append, List.nil_append, St.n_push, St.n_put, get_push_eq, get_push_ne, get_put_eq, get_put_ne, w_some, Nat.le_refl, true_and, and_true, and_self, List.append_nil, b_add, b_sub, b_mul, b_quo, b_rem, b_and, b_or, b_xor, b_eql, b_neq, b_lss, b_leq, b_gtr, b_geq, Int.cast_ofNat_Int, Int.toNat_zero, Int.toNat_one, Int.reduceLT, Int.reduceLE, Int.reduceToNat, Int.reduceGT, Int.reduceGE, Int.reduceNeg, decide_true, decide_false, Int.reduceAdd, Int.reduceSub, bne_self_eq_false, wrap64, d_draw, d_nil, d_e, d_cons, d_consG, d_op, d_gtt, d_gff, d_gtf, d_gft, chkAdd, effAdd, AOp.kind, chkAll, chkSee, Bool.and_true, Bool.true_and, Nat.reduceLT, s_gu, d_gu]
  repeat (first | refine w_fin ?_ | refine w_seq ?_ | refine w_block ?_ | refine w_reg ?_ | refine w_op ?_ | refine w_dop ?_)
  refine w_loop (fun m ρ σ' => ∃ (i j : Nat), m = j - i ∧ i ≤ j ∧ j ≤ ls.length ∧ ρ 9 = .sc (.int .i64 i) ∧ ρ 10 = .sc (.int .i64 j) ∧ ρ 0 = f ∧ ρ 1 = .sc (.int .i64 id) ∧ ρ 2 = .fn (.func 39) [] [] ∧ ρ 8 = .sc (.int .i64 ls.length) ∧ Kept noX σ σ' ∧ ∀ p l, ls[p]? = some l → l.id = id → i ≤ p ∧ p ≤ j) ls.length (by have := hs.2.2; omega) ?_ ?_
  · refine ⟨0, ls.length, rfl, Nat.zero_le _, Nat.le_refl _, ?_, ?_, ?_, ?_, ?_, ?_, Kept.refl _ _, fun p l hp _ => ⟨Nat.zero_le _, Nat.le_of_lt (List.getElem?_eq_some_iff.1 hp).1⟩⟩
    all_goals first | rfl | (simp -implicitDefEqProofs (disch := first | (simp only [ne_eq, reduceCtorEq, not_false_eq_true]; done) | (simp -implicitDefEqProofs only [St.n_push, St.n_put]; done) | (simp -implicitDefEqProofs only [St.n_push, St.n_put]; omega) | omega) only [aCallv, aPtrEq, s_nil, s_cons, s_consG, s_op, s_gtt, s_gff, s_gtf, s_gft, s_region, s_reg, s_seq, s_seqn, s_seqr, s_seqe, s_skip, s_ret, s_exit, s_cond, s_condt, s_condf, s_block, s_blockn, s_blockr, s_blocke, s_finr, s_finn, AOp.run, AO.eval, put, Option.map_some, Option.map_none, upd_self, upd_other, ne_eq, reduceCtorEq, not_false_eq_true, aInt, Nat.reduceEqDiff, initEnv, List.getElem?_cons_zero, List.getElem?_cons_succ, Option.getD_some, Bool.false_eq_true, if_false, if_true, V.bool, V.i64, resultsOf, List.mapM_cons, List.mapM_nil, AR.get, Option.bind_eq_bind, Option.bind_some, Option.pure_def, beq_tt, beq_tf, beq_ft, beq_ff, Bool.not_true, Bool.not_false, Nat.succ_ne_zero, List.map_cons, List.map_nil, aExtract, aUn, Int.reduceEq, Int.reduceBEq, Int.reduceBNe, BEq.rfl, aBox, aLoad, aStore, aPart, aPlace, aArrAddr, aArrIdx, aIdx, aLenStr, aConv, aFold, aMinMax, aEqV, aNilCheck, splice, fillV, V.cellsOf, V.oneCell, List.all_cons, List.all_nil, Bool.and_true, Bool.and_self, Option.map_some, Option.bind_some, List.drop_succ_cons, List.drop_zero, List.take_succ_cons, List.take_zero, List.length_cons, List.length_nil, Nat.reduceAdd, Nat.zero_add, Nat.add_zero, Nat.reduceLeDiff, Nat.reduceMul, Nat.mul_one, List.cons_append, List.nil_append, St.n_push, St.n_put, get_push_eq, get_push_ne, get_put_eq, get_put_ne, w_some, Nat.le_refl, true_and, and_true, and_self, List.append_nil, b_add, b_sub, b_mul, b_quo, b_rem, b_and, b_or, b_xor, b_eql, b_neq, b_lss, b_leq, b_gtr, b_geq, Int.cast_ofNat_Int, Int.toNat_zero, Int.toNat_one, Int.reduceLT, Int.reduceLE, Int.reduceToNat, Int.reduceGT, Int.reduceGE, Int.reduceNeg, decide_true, decide_false, Int.reduceAdd, Int.reduceSub, bne_self_eq_false, wrap64, d_draw, d_nil, d_e, d_cons, d_consG, d_op, d_gtt, d_gff, d_gtf, d_gft, chkAdd, effAdd, AOp.kind, chkAll, chkSee, Bool.and_true, Bool.true_and, Nat.reduceLT, s_gu, d_gu]; done) | (simp -implicitDefEqProofs (disch := first | (simp only [ne_eq, reduceCtorEq, not_false_eq_true]; done) | (simp -implicitDefEqProofs only [St.n_push, St.n_put]; done) | (simp -implicitDefEqProofs only [St.n_push, St.n_put]; omega) | omega) only [aCallv, aPtrEq, s_nil, s_cons, s_consG, s_op, s_gtt, s_gff, s_gtf, s_gft, s_region, s_reg, s_seq, s_seqn, s_seqr, s_seqe, s_skip, s_ret, s_exit, s_cond, s_condt, s_condf, s_block, s_blockn, s_blockr, s_blocke, s_finr, s_finn, AOp.run, AO.eval, put, Option.map_some, Option.map_none, upd_self, upd_other, ne_eq, reduceCtorEq, not_false_eq_true, aInt, Nat.reduceEqDiff, initEnv, List.getElem?_cons_zero, List.getElem?_cons_succ, Option.getD_some, Bool.false_eq_true, if_false, if_true, V.bool, V.i64, resultsOf, List.mapM_cons, List.mapM_nil, AR.get, Option.bind_eq_bind, Option.bind_some, Option.pure_def, beq_tt, beq_tf, beq_ft, beq_ff, Bool.not_true, Bool.not_false, Nat.succ_ne_zero, List.map_cons, List.map_nil, aExtract, aUn, Int.reduceEq, Int.reduceBEq, Int.reduceBNe, BEq.rfl, aBox, aLoad, aStore, aPart, aPlace, aArrAddr, aArrIdx, aIdx, aLenStr, aConv, aFold, aMinMax, aEqV, aNilCheck, splice, fillV, V.cellsOf, V.oneCell, List.all_cons, List.all_nil, Bool.and_true, Bool.and_self, Option.map_some, Option.bind_some, List.drop_succ_cons, List.drop_zero, List.take_succ_cons, List.take_zero, List.length_cons, List.length_nil, Nat.reduceAdd, Nat.zero_add, Nat.add_zero, Nat.reduceLeDiff, Nat.reduceMul, Nat.mul_one, List.cons_append, List.nil_append, St.n_push, St.n_put, get_push_eq, get_push_ne, get_put_eq, get_put_ne, w_some, Nat.le_refl, true_and, and_true, and_self, List.append_nil, b_add, b_sub, b_mul, b_quo, b_rem, b_and, b_or, b_xor, b_eql, b_neq, b_lss, b_leq, b_gtr, b_geq, Int.cast_ofNat_Int, Int.toNat_zero, Int.toNat_one, Int.reduceLT, Int.reduceLE, Int.reduceToNat, Int.reduceGT, Int.reduceGE, Int.reduceNeg, decide_true, decide_false, Int.reduceAdd, Int.reduceSub, bne_self_eq_false, wrap64, d_draw, d_nil, d_e, d_cons, d_consG, d_op, d_gtt, d_gff, d_gtf, d_gft, chkAdd, effAdd, AOp.kind, chkAll, chkSee, Bool.and_true, Bool.true_and, Nat.reduceLT, s_gu, d_gu]; rfl)
  · intro m ρ σ' ⟨i, j, hm, hij, hj, e9, e10, e0, e1, e2, e8, hkp, hp⟩
    have hl6 := hs.2.2
    by_cases hl : i < j
    · have c1 : decide ((i : Int) < (j : Int)) = true := by simpa using hl
      have hh := half (a := i) (b := j) (by omega)
      simp -implicitDefEqProofs (disch := first | (simp only [ne_eq, reduceCtorEq, not_false_eq_true]; done) | (simp -implicitDefEqProofs only [St.n_push, St.n_put]; done) | (simp -implicitDefEqProofs only [St.n_push, St.n_put]; omega) | omega) only [c1, e9, e10, e0, e1, e2, e8, hh, aCallv, aPtrEq, s_nil, s_cons, s_consG, s_op, s_gtt, s_gff, s_gtf, s_gft, s_region, s_reg, s_seq, s_seqn, s_seqr, s_seqe, s_skip, s_ret, s_exit, s_cond, s_condt, s_condf, s_block, s_blockn, s_blockr, s_blocke, s_finr, s_finn, AOp.run, AO.eval, put, Option.map_some, Option.map_none, upd_self, upd_other, ne_eq, reduceCtorEq, not_false_eq_true, aInt, Nat.reduceEqDiff, initEnv, List.getElem?_cons_zero, List.getElem?_cons_succ, Option.getD_some, Bool.false_eq_true, if_false, if_true, V.bool, V.i64, resultsOf, List.mapM_cons, List.mapM_nil, AR.get, Option.bind_eq_bind, Option.bind_some, Option.pure_def, beq_tt, beq_tf, beq_ft, beq_ff, Bool.not_true, Bool.not_false, Nat.succ_ne_zero, List.map_cons, List.map_nil, aExtract, aUn, Int.reduceEq, Int.reduceBEq, Int.reduceBNe, BEq.rfl, aBox, aLoad, aStore, aPart, aPlace, aArrAddr, aArrIdx, aIdx, aLenStr, aConv, aFold, aMinMax, aEqV, aNilCheck, splice, fillV, V.cellsOf, V.oneCell, List.all_cons, List.all_nil, Bool.and_true, Bool.and_self, Option.map_some, Option.bind_some, List.drop_succ_cons, List.drop_zero, List.take_succ_cons, List.take_zero, List.length_cons, List.length_nil, Nat.reduceAdd, Nat.zero_add, Nat.add_zero, Nat.reduceLeDiff, Nat.reduceMul, Nat.mul_one, List.cons_append, List.nil_append, St.n_push, St.n_put, get_push_eq, get_push_ne, get_put_eq, get_put_ne, w_some, Nat.le_refl, true_and, and_true, and_self, List.append_nil, b_add, b_sub, b_mul, b_quo, b_rem, b_and, b_or, b_xor, b_eql, b_neq, b_lss, b_leq, b_gtr, b_geq, Int.cast_ofNat_Int, Int.toNat_zero, Int.toNat_one, Int.reduceLT, Int.reduceLE, Int.reduceToNat, Int.reduceGT, Int.reduceGE, Int.reduceNeg, decide_true, decide_false, Int.reduceAdd, Int.reduceSub, bne_self_eq_false, wrap64, d_draw, d_nil, d_e, d_cons, d_consG, d_op, d_gtt, d_gff, d_gtf, d_gft, chkAdd, effAdd, AOp.kind, chkAll, chkSee, Bool.and_true, Bool.true_and, Nat.reduceLT, s_gu, d_gu]
      have hlh : (i + j) / 2 < ls.length := by omega
      obtain ⟨p, cs, rfl, ha, gp, ha1, ha2⟩ := hf.at (List.getElem?_eq_getElem hlh)
      have gp2 := hkp.get p _ (fun h => h) gp
      have hw : IntKind.i64.wrap (((i + j) / 2 : Nat) : Int) = (((i + j) / 2 : Nat) : Int) := wrap64 (by omega) (by omega)
      simp -implicitDefEqProofs (disch := first | (simp only [ne_eq, reduceCtorEq, not_false_eq_true]; done) | (simp -implicitDefEqProofs only [St.n_push, St.n_put]; done) | (simp -implicitDefEqProofs only [St.n_push, St.n_put]; omega) | omega) only [hw, ha, ha1, ha2, gp2, hsize, e1, aCallv, aPtrEq, s_nil, s_cons, s_consG, s_op, s_gtt, s_gff, s_gtf, s_gft, s_region, s_reg, s_seq, s_seqn, s_seqr, s_seqe, s_skip, s_ret, s_exit, s_cond, s_condt, s_condf, s_block, s_blockn, s_blockr, s_blocke, s_finr, s_finn, AOp.run, AO.eval, put, Option.map_some, Option.map_none, upd_self, upd_other, ne_eq, reduceCtorEq, not_false_eq_true, aInt, Nat.reduceEqDiff, initEnv, List.getElem?_cons_zero, List.getElem?_cons_succ, Option.getD_some, Bool.false_eq_true, if_false, if_true, V.bool, V.i64, resultsOf, List.mapM_cons, List.mapM_nil, AR.get, Option.bind_eq_bind, Option.bind_some, Option.pure_def, beq_tt, beq_tf, beq_ft, beq_ff, Bool.not_true, Bool.not_false, Nat.succ_ne_zero, List.map_cons, List.map_nil, aExtract, aUn, Int.reduceEq, Int.reduceBEq, Int.reduceBNe, BEq.rfl, aBox, aLoad, aStore, aPart, aPlace, aArrAddr, aArrIdx, aIdx, aLenStr, aConv, aFold, aMinMax, aEqV, aNilCheck, splice, fillV, V.cellsOf, V.oneCell, List.all_cons, List.all_nil, Bool.and_true, Bool.and_self, Option.map_some, Option.bind_some, List.drop_succ_cons, List.drop_zero, List.take_succ_cons, List.take_zero, List.length_cons, List.length_nil, Nat.reduceAdd, Nat.zero_add, Nat.add_zero, Nat.reduceLeDiff, Nat.reduceMul, Nat.mul_one, List.cons_append, List.nil_append, St.n_push, St.n_put, get_push_eq, get_push_ne, get_put_eq, get_put_ne, w_some, Nat.le_refl, true_and, and_true, and_self, List.append_nil, b_add, b_sub, b_mul, b_quo, b_rem, b_and, b_or, b_xor, b_eql, b_neq, b_lss, b_leq, b_gtr, b_geq, Int.cast_ofNat_Int, Int.toNat_zero, Int.toNat_one, Int.reduceLT, Int.reduceLE, Int.reduceToNat, Int.reduceGT, Int.reduceGE, Int.reduceNeg, decide_true, decide_false, Int.reduceAdd, Int.reduceSub, bne_self_eq_false, wrap64, d_draw, d_nil, d_e, d_cons, d_consG, d_op, d_gtt, d_gff, d_gtf, d_gft, chkAdd, effAdd, AOp.kind, chkAll, chkSee, Bool.and_true, Bool.true_and, Nat.reduceLT, s_gu, d_gu]
      repeat (first | refine w_fin ?_ | refine w_seq ?_ | refine w_block ?_ | refine w_reg ?_ | refine w_op ?_ | refine w_dop ?_)
      refine (hc _ _ _).mono ?_
      rintro ⟨_, σ2⟩ ⟨rfl, hk2⟩
      dsimp only at hk2
      have hid := hs.2.1 _ (List.getElem_mem hlh)
      have hww : ∀ (p : Nat) (l : Lt), ls[p]? = some l → l.id = id → IntKind.i64.wrap (ls[(i + j) / 2].id - id) = ls[(i + j) / 2].id - id ∧ (p < (i + j) / 2 → id < ls[(i + j) / 2].id) ∧ ((i + j) / 2 < p → ls[(i + j) / 2].id < id) ∧ ((i + j) / 2 = p → ls[(i + j) / 2].id = id) := by
        intro p l h1 h2
        obtain ⟨hp1, hp2⟩ := List.getElem?_eq_some_iff.1 h1
        have h3 := hs.2.1 _ (List.getElem_mem hp1)
        rw [hp2, h2] at h3
        refine ⟨wrap64 (by omega) (by omega), fun h => ?_, fun h => ?_, fun h => ?_⟩
        · rw [← h2]; exact hs.1 _ _ _ _ h1 (List.getElem?_eq_getElem hlh) h
        · rw [← h2]; exact hs.1 _ _ _ _ (List.getElem?_eq_getElem hlh) h1 h
        · subst h; rw [hp2, h2]
      by_cases hq : IntKind.i64.wrap (ls[(i + j) / 2].id - id) < 0
      · have c2 : decide (IntKind.i64.wrap (ls[(i + j) / 2].id - id) < 0) = true := by simpa using hq
        simp -implicitDefEqProofs (disch := first | (simp only [ne_eq, reduceCtorEq, not_false_eq_true]; done) | (simp -implicitDefEqProofs only [St.n_push, St.n_put]; done) | (simp -implicitDefEqProofs only [St.n_push, St.n_put]; omega) | omega) only [c2, aCallv, aPtrEq, s_nil, s_cons, s_consG, s_op, s_gtt, s_gff, s_gtf, s_gft, s_region, s_reg, s_seq, s_seqn, s_seqr, s_seqe, s_skip, s_ret, s_exit, s_cond, s_condt, s_condf, s_block, s_blockn, s_blockr, s_blocke, s_finr, s_finn, AOp.run, AO.eval, put, Option.map_some, Option.map_none, upd_self, upd_other, ne_eq, reduceCtorEq, not_false_eq_true, aInt, Nat.reduceEqDiff, initEnv, List.getElem?_cons_zero, List.getElem?_cons_succ, Option.getD_some, Bool.false_eq_true, if_false, if_true, V.bool, V.i64, resultsOf, List.mapM_cons, List.mapM_nil, AR.get, Option.bind_eq_bind, Option.bind_some, Option.pure_def, beq_tt, beq_tf, beq_ft, beq_ff, Bool.not_true, Bool.not_false, Nat.succ_ne_zero, List.map_cons, List.map_nil, aExtract, aUn, Int.reduceEq, Int.reduceBEq, Int.reduceBNe, BEq.rfl, aBox, aLoad, aStore, aPart, aPlace, aArrAddr, aArrIdx, aIdx, aLenStr, aConv, aFold, aMinMax, aEqV, aNilCheck, splice, fillV, V.cellsOf, V.oneCell, List.all_cons, List.all_nil, Bool.and_true, Bool.and_self, Option.map_some, Option.bind_some, List.drop_succ_cons, List.drop_zero, List.take_succ_cons, List.take_zero, List.length_cons, List.length_nil, Nat.reduceAdd, Nat.zero_add, Nat.add_zero, Nat.reduceLeDiff, Nat.reduceMul, Nat.mul_one, List.cons_append, List.nil_append, St.n_push, St.n_put, get_push_eq, get_push_ne, get_put_eq, get_put_ne, w_some, Nat.le_refl, true_and, and_true, and_self, List.append_nil, b_add, b_sub, b_mul, b_quo, b_rem, b_and, b_or, b_xor, b_eql, b_neq, b_lss, b_leq, b_gtr, b_geq, Int.cast_ofNat_Int, Int.toNat_zero, Int.toNat_one, Int.reduceLT, Int.reduceLE, Int.reduceToNat, Int.reduceGT, Int.reduceGE, Int.reduceNeg, decide_true, decide_false, Int.reduceAdd, Int.reduceSub, bne_self_eq_false, d_draw, d_nil, d_e, d_cons, d_consG, d_op, d_gtt, d_gff, d_gtf, d_gft, chkAdd, effAdd, AOp.kind, chkAll, chkSee, Bool.and_true, Bool.true_and, Nat.reduceLT, s_gu, d_gu]
        have hw3 : IntKind.i64.wrap ((((i + j) / 2 : Nat) : Int) + 1) = (((i + j) / 2 + 1 : Nat) : Int) := by rw [wrap64 (by omega) (by omega)]; omega
        refine ⟨j - ((i + j) / 2 + 1), by omega, (i + j) / 2 + 1, j, rfl, by omega, hj, ?_, e10, e0, e1, e2, e8, hkp.trans hk2, ?_⟩
        · rw [hw3]
        · intro p l hl1 hl2
          obtain ⟨h1, h2⟩ := hp p l hl1 hl2
          refine ⟨?_, h2⟩
          apply Classical.byContradiction
          intro hn
          obtain ⟨w1, w2, w3, w4⟩ := hww p l hl1 hl2
          rw [w1] at hq
          rcases Nat.lt_trichotomy p ((i + j) / 2) with h | h | h
          · have := w2 h; omega
          · have := w4 h.symm; omega
          · omega
      · have c2 : decide (IntKind.i64.wrap (ls[(i + j) / 2].id - id) < 0) = false := by simpa using hq
        simp -implicitDefEqProofs (disch := first | (simp only [ne_eq, reduceCtorEq, not_false_eq_true]; done) | (simp -implicitDefEqProofs only [St.n_push, St.n_put]; done) | (simp -implicitDefEqProofs only [St.n_push, St.n_put]; omega) | omega) only [c2, aCallv, aPtrEq, s_nil, s_cons, s_consG, s_op, s_gtt, s_gff, s_gtf, s_gft, s_region, s_reg, s_seq, s_seqn, s_seqr, s_seqe, s_skip, s_ret, s_exit, s_cond, s_condt, s_condf, s_block, s_blockn, s_blockr, s_blocke, s_finr, s_finn, AOp.run, AO.eval, put, Option.map_some, Option.map_none, upd_self, upd_other, ne_eq, reduceCtorEq, not_false_eq_true, aInt, Nat.reduceEqDiff, initEnv, List.getElem?_cons_zero, List.getElem?_cons_succ, Option.getD_some, Bool.false_eq_true, if_false, if_true, V.bool, V.i64, resultsOf, List.mapM_cons, List.mapM_nil, AR.get, Option.bind_eq_bind, Option.bind_some, Option.pure_def, beq_tt, beq_tf, beq_ft, beq_ff, Bool.not_true, Bool.not_false, Nat.succ_ne_zero, List.map_cons, List.map_nil, aExtract, aUn, Int.reduceEq, Int.reduceBEq, Int.reduceBNe, BEq.rfl, aBox, aLoad, aStore, aPart, aPlace, aArrAddr, aArrIdx, aIdx, aLenStr, aConv, aFold, aMinMax, aEqV, aNilCheck, splice, fillV, V.cellsOf, V.oneCell, List.all_cons, List.all_nil, Bool.and_true, Bool.and_self, Option.map_some, Option.bind_some, List.drop_succ_cons, List.drop_zero, List.take_succ_cons, List.take_zero, List.length_cons, List.length_nil, Nat.reduceAdd, Nat.zero_add, Nat.add_zero, Nat.reduceLeDiff, Nat.reduceMul, Nat.mul_one, List.cons_append, List.nil_append, St.n_push, St.n_put, get_push_eq, get_push_ne, get_put_eq, get_put_ne, w_some, Nat.le_refl, true_and, and_true, and_self, List.append_nil, b_add, b_sub, b_mul, b_quo, b_rem, b_and, b_or, b_xor, b_eql, b_neq, b_lss, b_leq, b_gtr, b_geq, Int.cast_ofNat_Int, Int.toNat_zero, Int.toNat_one, Int.reduceLT, Int.reduceLE, Int.reduceToNat, Int.reduceGT, Int.reduceGE, Int.reduceNeg, decide_true, decide_false, Int.reduceAdd, Int.reduceSub, bne_self_eq_false, d_draw, d_nil, d_e, d_cons, d_consG, d_op, d_gtt, d_gff, d_gtf, d_gft, chkAdd, effAdd, AOp.kind, chkAll, chkSee, Bool.and_true, Bool.true_and, Nat.reduceLT, s_gu, d_gu]
        refine ⟨(i + j) / 2 - i, by omega, i, (i + j) / 2, rfl, by omega, by omega, e9, rfl, e0, e1, e2, e8, hkp.trans hk2, ?_⟩
        intro p l hl1 hl2
        obtain ⟨h1, h2⟩ := hp p l hl1 hl2
        refine ⟨h1, ?_⟩
        apply Classical.byContradiction
        intro hn
        obtain ⟨w1, w2, w3, w4⟩ := hww p l hl1 hl2
        rw [w1] at hq
        have := w3 (by omega)
        omega
    · have c1 : decide ((i : Int) < (j : Int)) = false := by simpa using hl
      simp -implicitDefEqProofs (disch := first | (simp only [ne_eq, reduceCtorEq, not_false_eq_true]; done) | (simp -implicitDefEqProofs only [St.n_push, St.n_put]; done) | (simp -implicitDefEqProofs only [St.n_push, St.n_put]; omega) | omega) only [c1, e9, e10, aCallv, aPtrEq, s_nil, s_cons, s_consG, s_op, s_gtt, s_gff, s_gtf, s_gft, s_region, s_reg, s_seq, s_seqn, s_seqr, s_seqe, s_skip, s_ret, s_exit, s_cond, s_condt, s_condf, s_block, s_blockn, s_blockr, s_blocke, s_finr, s_finn, AOp.run, AO.eval, put, Option.map_some, Option.map_none, upd_self, upd_other, ne_eq, reduceCtorEq, not_false_eq_true, aInt, Nat.reduceEqDiff, initEnv, List.getElem?_cons_zero, List.getElem?_cons_succ, Option.getD_some, Bool.false_eq_true, if_false, if_true, V.bool, V.i64, resultsOf, List.mapM_cons, List.mapM_nil, AR.get, Option.bind_eq_bind, Option.bind_some, Option.pure_def, beq_tt, beq_tf, beq_ft, beq_ff, Bool.not_true, Bool.not_false, Nat.succ_ne_zero, List.map_cons, List.map_nil, aExtract, aUn, Int.reduceEq, Int.reduceBEq, Int.reduceBNe, BEq.rfl, aBox, aLoad, aStore, aPart, aPlace, aArrAddr, aArrIdx, aIdx, aLenStr, aConv, aFold, aMinMax, aEqV, aNilCheck, splice, fillV, V.cellsOf, V.oneCell, List.all_cons, List.all_nil, Bool.and_true, Bool.and_self, Option.map_some, Option.bind_some, List.drop_succ_cons, List.drop_zero, List.take_succ_cons, List.take_zero, List.length_cons, List.length_nil, Nat.reduceAdd, Nat.zero_add, Nat.add_zero, Nat.reduceLeDiff, Nat.reduceMul, Nat.mul_one, List.cons_append, List.nil_append, St.n_push, St.n_put, get_push_eq, get_push_ne, get_put_eq, get_put_ne, w_some, Nat.le_refl, true_and, and_true, and_self, List.append_nil, b_add, b_sub, b_mul, b_quo, b_rem, b_and, b_or, b_xor, b_eql, b_neq, b_lss, b_leq, b_gtr, b_geq, Int.cast_ofNat_Int, Int.toNat_zero, Int.toNat_one, Int.reduceLT, Int.reduceLE, Int.reduceToNat, Int.reduceGT, Int.reduceGE, Int.reduceNeg, decide_true, decide_false, Int.reduceAdd, Int.reduceSub, bne_self_eq_false, wrap64, d_draw, d_nil, d_e, d_cons, d_consG, d_op, d_gtt, d_gff, d_gtf, d_gft, chkAdd, effAdd, AOp.kind, chkAll, chkSee, Bool.and_true, Bool.true_and, Nat.reduceLT, s_gu, d_gu]
      by_cases hi : i < ls.length
      · have c2 : decide ((i : Int) < (ls.length : Int)) = true := by simpa using hi
        obtain ⟨p, cs, rfl, ha, gp, ha1, ha2⟩ := hf.at (List.getElem?_eq_getElem hi)
        have gp2 := hkp.get p _ (fun h => h) gp
        simp -implicitDefEqProofs (disch := first | (simp only [ne_eq, reduceCtorEq, not_false_eq_true]; done) | (simp -implicitDefEqProofs only [St.n_push, St.n_put]; done) | (simp -implicitDefEqProofs only [St.n_push, St.n_put]; omega) | omega) only [e8, e9, e2, e0, c2, ha, ha1, ha2, gp2, hsize, e1, aCallv, aPtrEq, s_nil, s_cons, s_consG, s_op, s_gtt, s_gff, s_gtf, s_gft, s_region, s_reg, s_seq, s_seqn, s_seqr, s_seqe, s_skip, s_ret, s_exit, s_cond, s_condt, s_condf, s_block, s_blockn, s_blockr, s_blocke, s_finr, s_finn, AOp.run, AO.eval, put, Option.map_some, Option.map_none, upd_self, upd_other, ne_eq, reduceCtorEq, not_false_eq_true, aInt, Nat.reduceEqDiff, initEnv, List.getElem?_cons_zero, List.getElem?_cons_succ, Option.getD_some, Bool.false_eq_true, if_false, if_true, V.bool, V.i64, resultsOf, List.mapM_cons, List.mapM_nil, AR.get, Option.bind_eq_bind, Option.bind_some, Option.pure_def, beq_tt, beq_tf, beq_ft, beq_ff, Bool.not_true, Bool.not_false, Nat.succ_ne_zero, List.map_cons, List.map_nil, aExtract, aUn, Int.reduceEq, Int.reduceBEq, Int.reduceBNe, BEq.rfl, aBox, aLoad, aStore, aPart, aPlace, aArrAddr, aArrIdx, aIdx, aLenStr, aConv, aFold, aMinMax, aEqV, aNilCheck, splice, fillV, V.cellsOf, V.oneCell, List.all_cons, List.all_nil, Bool.and_true, Bool.and_self, Option.map_some, Option.bind_some, List.drop_succ_cons, List.drop_zero, List.take_succ_cons, List.take_zero, List.length_cons, List.length_nil, Nat.reduceAdd, Nat.zero_add, Nat.add_zero, Nat.reduceLeDiff, Nat.reduceMul, Nat.mul_one, List.cons_append, List.nil_append, St.n_push, St.n_put, get_push_eq, get_push_ne, get_put_eq, get_put_ne, w_some, Nat.le_refl, true_and, and_true, and_self, List.append_nil, b_add, b_sub, b_mul, b_quo, b_rem, b_and, b_or, b_xor, b_eql, b_neq, b_lss, b_leq, b_gtr, b_geq, Int.cast_ofNat_Int, Int.toNat_zero, Int.toNat_one, Int.reduceLT, Int.reduceLE, Int.reduceToNat, Int.reduceGT, Int.reduceGE, Int.reduceNeg, decide_true, decide_false, Int.reduceAdd, Int.reduceSub, bne_self_eq_false, wrap64, d_draw, d_nil, d_e, d_cons, d_consG, d_op, d_gtt, d_gff, d_gtf, d_gft, chkAdd, effAdd, AOp.kind, chkAll, chkSee, Bool.and_true, Bool.true_and, Nat.reduceLT, s_gu, d_gu]
        repeat (first | refine w_fin ?_ | refine w_seq ?_ | refine w_block ?_ | refine w_reg ?_ | refine w_op ?_ | refine w_dop ?_)
        refine (hc _ _ _).mono ?_
        rintro ⟨_, σ2⟩ ⟨rfl, hk2⟩
        dsimp only at hk2
        simp -implicitDefEqProofs (disch := first | (simp only [ne_eq, reduceCtorEq, not_false_eq_true]; done) | (simp -implicitDefEqProofs only [St.n_push, St.n_put]; done) | (simp -implicitDefEqProofs only [St.n_push, St.n_put]; omega) | omega) only [aCallv, aPtrEq, s_nil, s_cons, s_consG, s_op, s_gtt, s_gff, s_gtf, s_gft, s_region, s_reg, s_seq, s_seqn, s_seqr, s_seqe, s_skip, s_ret, s_exit, s_cond, s_condt, s_condf, s_block, s_blockn, s_blockr, s_blocke, s_finr, s_finn, AOp.run, AO.eval, put, Option.map_some, Option.map_none, upd_self, upd_other, ne_eq, reduceCtorEq, not_false_eq_true, aInt, Nat.reduceEqDiff, initEnv, List.getElem?_cons_zero, List.getElem?_cons_succ, Option.getD_some, Bool.false_eq_true, if_false, if_true, V.bool, V.i64, resultsOf, List.mapM_cons, List.mapM_nil, AR.get, Option.bind_eq_bind, Option.bind_some, Option.pure_def, beq_tt, beq_tf, beq_ft, beq_ff, Bool.not_true, Bool.not_false, Nat.succ_ne_zero, List.map_cons, List.map_nil, aExtract, aUn, Int.reduceEq, Int.reduceBEq, Int.reduceBNe, BEq.rfl, aBox, aLoad, aStore, aPart, aPlace, aArrAddr, aArrIdx, aIdx, aLenStr, aConv, aFold, aMinMax, aEqV, aNilCheck, splice, fillV, V.cellsOf, V.oneCell, List.all_cons, List.all_nil, Bool.and_true, Bool.and_self, Option.map_some, Option.bind_some, List.drop_succ_cons, List.drop_zero, List.take_succ_cons, List.take_zero, List.length_cons, List.length_nil, Nat.reduceAdd, Nat.zero_add, Nat.add_zero, Nat.reduceLeDiff, Nat.reduceMul, Nat.mul_one, List.cons_append, List.nil_append, St.n_push, St.n_put, get_push_eq, get_push_ne, get_put_eq, get_put_ne, w_some, Nat.le_refl, true_and, and_true, and_self, List.append_nil, b_add, b_sub, b_mul, b_quo, b_rem, b_and, b_or, b_xor, b_eql, b_neq, b_lss, b_leq, b_gtr, b_geq, Int.cast_ofNat_Int, Int.toNat_zero, Int.toNat_one, Int.reduceLT, Int.reduceLE, Int.reduceToNat, Int.reduceGT, Int.reduceGE, Int.reduceNeg, decide_true, decide_false, Int.reduceAdd, Int.reduceSub, bne_self_eq_false, d_draw, d_nil, d_e, d_cons, d_consG, d_op, d_gtt, d_gff, d_gtf, d_gft, chkAdd, effAdd, AOp.kind, chkAll, chkSee, Bool.and_true, Bool.true_and, Nat.reduceLT, s_gu, d_gu]
        refine ⟨i, _, rfl, hkp.trans hk2, ?_, ?_⟩
        · intro h
          refine ⟨_, List.getElem?_eq_getElem hi, ?_⟩
          have hid := hs.2.1 _ (List.getElem_mem hi)
          exact (wrap_0 hi0 hi1 _ (by omega) (by omega)).1 (by simpa using h)
        · intro h l hl1 hl2
          obtain ⟨p2, hp1, rfl⟩ := List.getElem_of_mem hl1
          have h3 := hp p2 _ (List.getElem?_eq_getElem hp1) hl2
          have h4 : p2 = i := by omega
          subst h4
          rw [hl2, Int.sub_self] at h
          exact absurd h (by decide)
      · have c2 : decide ((i : Int) < (ls.length : Int)) = false := by simpa using hi
        simp -implicitDefEqProofs (disch := first | (simp only [ne_eq, reduceCtorEq, not_false_eq_true]; done) | (simp -implicitDefEqProofs only [St.n_push, St.n_put]; done) | (simp -implicitDefEqProofs only [St.n_push, St.n_put]; omega) | omega) only [e8, e9, c2, aCallv, aPtrEq, s_nil, s_cons, s_consG, s_op, s_gtt, s_gff, s_gtf, s_gft, s_region, s_reg, s_seq, s_seqn, s_seqr, s_seqe, s_skip, s_ret, s_exit, s_cond, s_condt, s_condf, s_block, s_blockn, s_blockr, s_blocke, s_finr, s_finn, AOp.run, AO.eval, put, Option.map_some, Option.map_none, upd_self, upd_other, ne_eq, reduceCtorEq, not_false_eq_true, aInt, Nat.reduceEqDiff, initEnv, List.getElem?_cons_zero, List.getElem?_cons_succ, Option.getD_some, Bool.false_eq_true, if_false, if_true, V.bool, V.i64, resultsOf, List.mapM_cons, List.mapM_nil, AR.get, Option.bind_eq_bind, Option.bind_some, Option.pure_def, beq_tt, beq_tf, beq_ft, beq_ff, Bool.not_true, Bool.not_false, Nat.succ_ne_zero, List.map_cons, List.map_nil, aExtract, aUn, Int.reduceEq, Int.reduceBEq, Int.reduceBNe, BEq.rfl, aBox, aLoad, aStore, aPart, aPlace, aArrAddr, aArrIdx, aIdx, aLenStr, aConv, aFold, aMinMax, aEqV, aNilCheck, splice, fillV, V.cellsOf, V.oneCell, List.all_cons, List.all_nil, Bool.and_true, Bool.and_self, Option.map_some, Option.bind_some, List.drop_succ_cons, List.drop_zero, List.take_succ_cons, List.take_zero, List.length_cons, List.length_nil, Nat.reduceAdd, Nat.zero_add, Nat.add_zero, Nat.reduceLeDiff, Nat.reduceMul, Nat.mul_one, List.cons_append, List.nil_append, St.n_push, St.n_put, get_push_eq, get_push_ne, get_put_eq, get_put_ne, w_some, Nat.le_refl, true_and, and_true, and_self, List.append_nil, b_add, b_sub, b_mul, b_quo, b_rem, b_and, b_or, b_xor, b_eql, b_neq, b_lss, b_leq, b_gtr, b_geq, Int.cast_ofNat_Int, Int.toNat_zero, Int.toNat_one, Int.reduceLT, Int.reduceLE, Int.reduceToNat, Int.reduceGT, Int.reduceGE, Int.reduceNeg, decide_true, decide_false, Int.reduceAdd, Int.reduceSub, bne_self_eq_false, wrap64, d_draw, d_nil, d_e, d_cons, d_consG, d_op, d_gtt, d_gff, d_gtf, d_gft, chkAdd, effAdd, AOp.kind, chkAll, chkSee, Bool.and_true, Bool.true_and, Nat.reduceLT, s_gu, d_gu]
        refine ⟨i, _, rfl, hkp, (fun h => by cases h), ?_⟩
        intro _ l hl1 hl2
        obtain ⟨p, hp1, rfl⟩ := List.getElem_of_mem hl1
        have := hp p _ (List.getElem?_eq_getElem hp1) hl2
        omega

/-! ## Objects that are one's own -/
/-- What is X's may turn; what is X''s behind it was X's or is new. -/
structure Mv (X : Nat → Prop) (σ : St) (X' : Nat → Prop) (σ' : St) : Prop where
  kept : Kept X σ σ'
  own : ∀ x, X' x → X x ∨ σ.n ≤ x
theorem Mv.refl (X : Nat → Prop) (σ : St) : Mv X σ X σ := ⟨Kept.refl _ _, fun _ h => .inl h⟩
theorem Mv.trans {X Y Z : Nat → Prop} {a b c : St} (h : Mv X a Y b) (k : Mv Y b Z c) : Mv X a Z c := by
  refine ⟨⟨Nat.le_trans h.kept.n k.kept.n, fun o x hx ho => ?_⟩, fun x hx => ?_⟩
  · refine k.kept.get o x (fun hy => ?_) (h.kept.get o x hx ho)
    rcases h.own o hy with h1 | h1
    · exact hx h1
    · exact absurd (St.get_lt ho) (by omega)
  · rcases k.own x hx with h1 | h1
    · exact h.own x h1
    · exact .inr (Nat.le_trans h.kept.n h1)
theorem Mv.of {X X' : Nat → Prop} {σ σ' : St} (h : Kept noX σ σ') (hx : ∀ x, X' x → X x ∨ σ.n ≤ x) : Mv X σ X' σ' := ⟨h.sub (fun _ h => h.elim), hx⟩

/-- One letter more. -/
theorem app1 {σ : St} {fo : Option Nat} {f : V} {ls : List Lt} (h : Fl σ fo f ls) (hn : ls.length ≤ 1000) (l : Lt) : ∃ p σ', aAppend true 4 40 σ f (.vs .exact 4 1 (lc l)) = some (.os p 0 4 (ls.length + 1) none, σ') ∧ Fl σ' (some p) (.os p 0 4 (ls.length + 1) none) (ls ++ [l]) ∧ Mv (fo = some ·) σ (some p = some ·) σ' := by
  have hone : (lc l).all V.oneCell = true := rfl
  have hone2 := List.all_eq_true.1 hone
  cases h with
  | nil =>
    refine ⟨σ.n, σ.push (.cells (lc l)), by simp only [aAppend, aSrc, if_true, Option.bind_some, Nat.succ_ne_zero, if_false, hone, aGrow, aFresh, roomB]; rfl, ?_, ?_⟩
    · exact Fl.os (ls := [l]) (cs := lc l) get_push_self rfl 1 rfl (Nat.le_refl _)
    · exact ⟨(Kept.refl _ _).push _, fun x hx => .inr (by cases hx; exact Nat.le_refl _)⟩
  | vs =>
    refine ⟨σ.n, σ.push (.cells (lc l)), by simp only [aAppend, aSrc, if_true, Option.bind_some, Nat.succ_ne_zero, if_false, hone, aGrow, aFresh, roomB]; rfl, ?_, ?_⟩
    · exact Fl.os (ls := [l]) (cs := lc l) get_push_self rfl 1 rfl (Nat.le_refl _)
    · exact ⟨(Kept.refl _ _).push _, fun x hx => .inr (by cases hx; exact Nat.le_refl _)⟩
  | @os o _ cs h1 h2 k h3 h4 =>
    have hb : (ls.length + 1) * 40 ≤ roomB ∧ ls.length + 1 ≤ roomB := by unfold roomB; omega
    by_cases hr : ls.length = k
    · refine ⟨σ.n, (σ.put o none).push (.cells (cs ++ lc l)), ?_, ?_, ?_⟩
      · have e1 : ¬ ((ls.length + 1) * 4 ≤ cs.length) := by omega
        have e2 : ls.length * 4 = cs.length := by omega
        have e3 : cs.length / 4 * 4 = cs.length := by omega
        have e0 : (0 : Nat) < 4 := by decide
        have e4 : ls.length * 4 ≤ cs.length := by omega
        simp only [aAppend, aSrc, if_true, Option.bind_some, Nat.succ_ne_zero, if_false, hone, aGrow, h1, hb, e0, Nat.zero_add, e4, and_self, aObj, e1, e2, List.drop_zero]
        simp
      · have e : (cs ++ lc l).take ((ls ++ [l]).length * 4) = flat (ls ++ [l]) := by
          rw [List.take_of_length_le (by simp [lc_len]; omega), flat_append, flat_one, ← h2, List.take_of_length_le (by omega)]
        have := Fl.os (σ := (σ.put o none).push (.cells (cs ++ lc l))) (o := σ.n) (ls := ls ++ [l]) (cs := cs ++ lc l) (by rw [St.get_push]; simp [St.n_put]) e (k + 1) (by simp [lc_len]; omega) (by simp; omega)
        simpa using this
      · refine ⟨((Kept.refl (some o = some ·) _).put (.inl rfl) (St.get_lt h1) _).push _, fun x hx => .inr (by cases hx; exact Nat.le_refl _)⟩
    · refine ⟨o, σ.put o (some (.cells (splice cs (ls.length * 4) (lc l)))), ?_, ?_, ?_⟩
      · have e1 : (ls.length + 1) * 4 ≤ cs.length := by omega
        have e2 : ls.length * 4 ≤ cs.length := by omega
        have e0 : (0 : Nat) < 4 := by decide
        simp only [aAppend, aSrc, if_true, Option.bind_some, Nat.succ_ne_zero, if_false, hone, aGrow, h1, hb, e0, Nat.zero_add, and_self, aObj, e1, e2]
      · have e : (splice cs (ls.length * 4) (lc l)).take ((ls ++ [l]).length * 4) = flat (ls ++ [l]) := by
          unfold splice
          rw [flat_append, flat_one, h2, List.take_append_of_le_length (by simp [flat_length, lc_len]; omega), List.take_of_length_le (by simp [flat_length, lc_len]; omega)]
        have := Fl.os (σ := σ.put o (some (.cells (splice cs (ls.length * 4) (lc l))))) (o := o) (ls := ls ++ [l]) (get_put_self h1) e k (by rw [splice_length (by rw [lc_len]; omega), h3]) (by simp; omega)
        simpa using this
      · exact ⟨(Kept.refl (some o = some ·) _).put (.inl rfl) (St.get_lt h1) _, fun x hx => .inl hx⟩

/-! ## What a network is -/
structure NS where
  ls : List Lt
  ks : List (Int × Int)
  sent : Nat
def kV (p : Int × Int) : V := .agg [.sc (.int .i64 p.1), .sc (.int .i64 p.2)]
structure Mp (es : List (V × V × Nat)) (ks : List (Int × Int)) : Prop where
  ents : es.map (fun e => (e.1, e.2.1)) = ks.map fun p => (kV p, V.sc (.bool true))
/-- A network at n; fo: its letters' object. -/
def NR (σ : St) (n mo : Nat) (fo : Option Nat) (N : NS) : Prop :=
  ∃ f es c, σ.get n = some (.cells [f, .mp mo, .sc (.int .i64 N.sent)]) ∧ Fl σ fo f N.ls ∧ σ.get mo = some (.map es c) ∧ Mp es N.ks ∧ fo ≠ some n
def NX (n mo : Nat) (fo : Option Nat) : Nat → Prop := fun x => x = n ∨ x = mo ∨ fo = some x
/-- What holds of a network always. -/
structure Iv (N : NS) : Prop where
  up : Up N.ls
  ids : ∀ l ∈ N.ls, l.id ≤ N.sent
  nd : N.ks.Nodup
theorem NR.kept {σ σ' : St} {n mo : Nat} {fo : Option Nat} {N : NS} {X : Nat → Prop} (h : NR σ n mo fo N) (k : Kept X σ σ') (hx : ∀ x, NX n mo fo x → ¬ X x) : NR σ' n mo fo N := by
  obtain ⟨f, es, c, h1, h2, h3, h4, h5⟩ := h
  exact ⟨f, es, c, k.get _ _ (hx _ (.inl rfl)) h1, h2.kept k (fun p hp => hx _ (.inr (.inr hp))), k.get _ _ (hx _ (.inr (.inl rfl))) h3, h4, h5⟩
theorem NR.kept0 {σ σ' : St} {n mo : Nat} {fo : Option Nat} {N : NS} (h : NR σ n mo fo N) (k : Kept noX σ σ') : NR σ' n mo fo N := h.kept k (fun _ _ h => h)

theorem bsl (a b c d : V) : aBslice 4 1 [.sc (.int .i64 0), .sc (.int .i64 0), .sc (.int .i64 0), .str []] [(0, 4, .agg [a, b, c, d])] = some (.vs .exact 4 1 [a, b, c, d]) := rfl
def nput (N : NS) (l : Lt) : NS × Int × Int := if 256 ≤ N.ls.length then (N, 0, 8) else ({ N with ls := N.ls ++ [{ l with id := N.sent + 1 }], sent := N.sent + 1 }, N.sent + 1, 0)

theorem put_ok (k : Nat) (ys : YlF) (σ : St) (n mo : Nat) (fo : Option Nat) (N : NS) (l : Lt) (h : NR σ n mo fo N) (hi : N.ls.length ≤ 256) (hs : N.sent ≤ 1000) :
    W (callY Tab.tbl (k + 1) ys 25 [.ptr n 0, .agg (lc l)] σ) fun o => o.1 = .tup [.sc (.int .i64 (nput N l).2.1), .sc (.int .i64 (nput N l).2.2)] ∧ ∃ fo', NR o.2 n mo fo' (nput N l).1 ∧ Mv (NX n mo fo) σ (NX n mo fo') o.2 := by
  rw [s_call (af := Tab.a25) rfl (by simp [Tab.a25])]
  generalize callY Tab.tbl k = cy
  obtain ⟨f, es, c, h1, h2, h3, h4, h5⟩ := h
  have hlen := h2.len
  have hn := St.get_lt h1
  have hne : n ≠ σ.n := by omega
  have hmn : mo ≠ n := by rintro rfl; rw [h1] at h3; cases h3
  have hfm := h2.ne_map h3
  by_cases hl : 256 ≤ N.ls.length
  · have c1 : decide ((N.ls.length : Int) ≥ 256) = true := by simp only [decide_eq_true_eq]; omega
    simp -implicitDefEqProofs (disch := first | (simp only [ne_eq, reduceCtorEq, not_false_eq_true]; done) | (simp -implicitDefEqProofs only [St.n_push, St.n_put]; done) | (simp -implicitDefEqProofs only [St.n_push, St.n_put]; omega) | omega) only [h1, hlen, c1, Tab.a25, lc, nput, hl, aCallv, aPtrEq, s_nil, s_cons, s_consG, s_op, s_gtt, s_gff, s_gtf, s_gft, s_region, s_reg, s_seq, s_seqn, s_seqr, s_seqe, s_skip, s_ret, s_exit, s_cond, s_condt, s_condf, s_block, s_blockn, s_blockr, s_blocke, s_finr, s_finn, AOp.run, AO.eval, put, Option.map_some, Option.map_none, upd_self, upd_other, ne_eq, reduceCtorEq, not_false_eq_true, aInt, Nat.reduceEqDiff, initEnv, List.getElem?_cons_zero, List.getElem?_cons_succ, Option.getD_some, Bool.false_eq_true, if_false, if_true, V.bool, V.i64, resultsOf, List.mapM_cons, List.mapM_nil, AR.get, Option.bind_eq_bind, Option.bind_some, Option.pure_def, beq_tt, beq_tf, beq_ft, beq_ff, Bool.not_true, Bool.not_false, Nat.succ_ne_zero, List.map_cons, List.map_nil, aExtract, aUn, Int.reduceEq, Int.reduceBEq, Int.reduceBNe, BEq.rfl, aBox, aLoad, aStore, aPart, aPlace, aArrAddr, aArrIdx, aIdx, aLenStr, aConv, aFold, aMinMax, aEqV, aNilCheck, splice, fillV, V.cellsOf, V.oneCell, List.all_cons, List.all_nil, Bool.and_true, Bool.and_self, Option.map_some, Option.bind_some, List.drop_succ_cons, List.drop_zero, List.take_succ_cons, List.take_zero, List.length_cons, List.length_nil, Nat.reduceAdd, Nat.zero_add, Nat.add_zero, Nat.reduceLeDiff, Nat.reduceMul, Nat.mul_one, List.cons_append, List.nil_append, St.n_push, St.n_put, get_push_eq, get_push_ne, get_put_eq, get_put_ne, w_some, Nat.le_refl, true_and, and_true, and_self, List.append_nil, b_add, b_sub, b_mul, b_quo, b_rem, b_and, b_or, b_xor, b_eql, b_neq, b_lss, b_leq, b_gtr, b_geq, Int.cast_ofNat_Int, Int.toNat_zero, Int.toNat_one, Int.reduceLT, Int.reduceLE, Int.reduceToNat, Int.reduceGT, Int.reduceGE, Int.reduceNeg, decide_true, decide_false, Int.reduceAdd, Int.reduceSub, bne_self_eq_false, wrap64, d_draw, d_nil, d_e, d_cons, d_consG, d_op, d_gtt, d_gff, d_gtf, d_gft, chkAdd, effAdd, AOp.kind, chkAll, chkSee, Bool.and_true, Bool.true_and, Nat.reduceLT, s_gu, d_gu]
    have k0 : Kept noX σ (σ.push (.cells [.sc (.int .i64 l.id), .sc (.int .i64 l.fr), .sc (.int .i64 l.to), .str l.b])) := (Kept.refl _ _).push _
    exact ⟨fo, NR.kept0 ⟨f, es, c, h1, h2, h3, h4, h5⟩ k0, Mv.of k0 (fun _ h => .inl h)⟩
  · have c1 : decide ((N.ls.length : Int) ≥ 256) = false := by simp only [decide_eq_false_iff_not]; omega
    generalize hσ : ((σ.push (.cells [.sc (.int .i64 l.id), .sc (.int .i64 l.fr), .sc (.int .i64 l.to), .str l.b])).put n (some (.cells [f, .mp mo, .sc (.int .i64 (N.sent + 1))]))).put σ.n (some (.cells [.sc (.int .i64 (N.sent + 1)), .sc (.int .i64 l.fr), .sc (.int .i64 l.to), .str l.b])) = σ3
    have k3 : Kept (· = n) σ σ3 := by
      rw [← hσ]
      exact (((Kept.refl (· = n) σ).push _).put (.inl rfl) (by simp only [St.n_push]; omega) _).put (.inr (Nat.le_refl σ.n)) (by simp only [St.n_put, St.n_push]; omega) _
    have g1 : σ3.get n = some (.cells [f, .mp mo, .sc (.int .i64 (N.sent + 1))]) := by
      rw [← hσ]
      simp -implicitDefEqProofs (disch := first | (simp only [ne_eq, reduceCtorEq, not_false_eq_true]; done) | (simp -implicitDefEqProofs only [St.n_push, St.n_put]; done) | (simp -implicitDefEqProofs only [St.n_push, St.n_put]; omega) | omega) only [aCallv, aPtrEq, s_nil, s_cons, s_consG, s_op, s_gtt, s_gff, s_gtf, s_gft, s_region, s_reg, s_seq, s_seqn, s_seqr, s_seqe, s_skip, s_ret, s_exit, s_cond, s_condt, s_condf, s_block, s_blockn, s_blockr, s_blocke, s_finr, s_finn, AOp.run, AO.eval, put, Option.map_some, Option.map_none, upd_self, upd_other, ne_eq, reduceCtorEq, not_false_eq_true, aInt, Nat.reduceEqDiff, initEnv, List.getElem?_cons_zero, List.getElem?_cons_succ, Option.getD_some, Bool.false_eq_true, if_false, if_true, V.bool, V.i64, resultsOf, List.mapM_cons, List.mapM_nil, AR.get, Option.bind_eq_bind, Option.bind_some, Option.pure_def, beq_tt, beq_tf, beq_ft, beq_ff, Bool.not_true, Bool.not_false, Nat.succ_ne_zero, List.map_cons, List.map_nil, aExtract, aUn, Int.reduceEq, Int.reduceBEq, Int.reduceBNe, BEq.rfl, aBox, aLoad, aStore, aPart, aPlace, aArrAddr, aArrIdx, aIdx, aLenStr, aConv, aFold, aMinMax, aEqV, aNilCheck, splice, fillV, V.cellsOf, V.oneCell, List.all_cons, List.all_nil, Bool.and_true, Bool.and_self, Option.map_some, Option.bind_some, List.drop_succ_cons, List.drop_zero, List.take_succ_cons, List.take_zero, List.length_cons, List.length_nil, Nat.reduceAdd, Nat.zero_add, Nat.add_zero, Nat.reduceLeDiff, Nat.reduceMul, Nat.mul_one, List.cons_append, List.nil_append, St.n_push, St.n_put, get_push_eq, get_push_ne, get_put_eq, get_put_ne, w_some, Nat.le_refl, true_and, and_true, and_self, List.append_nil, b_add, b_sub, b_mul, b_quo, b_rem, b_and, b_or, b_xor, b_eql, b_neq, b_lss, b_leq, b_gtr, b_geq, Int.cast_ofNat_Int, Int.toNat_zero, Int.toNat_one, Int.reduceLT, Int.reduceLE, Int.reduceToNat, Int.reduceGT, Int.reduceGE, Int.reduceNeg, decide_true, decide_false, Int.reduceAdd, Int.reduceSub, bne_self_eq_false, wrap64, d_draw, d_nil, d_e, d_cons, d_consG, d_op, d_gtt, d_gff, d_gtf, d_gft, chkAdd, effAdd, AOp.kind, chkAll, chkSee, Bool.and_true, Bool.true_and, Nat.reduceLT, s_gu, d_gu]
    have g2 : σ3.get σ.n = some (.cells [.sc (.int .i64 (N.sent + 1)), .sc (.int .i64 l.fr), .sc (.int .i64 l.to), .str l.b]) := by
      rw [← hσ]
      simp -implicitDefEqProofs (disch := first | (simp only [ne_eq, reduceCtorEq, not_false_eq_true]; done) | (simp -implicitDefEqProofs only [St.n_push, St.n_put]; done) | (simp -implicitDefEqProofs only [St.n_push, St.n_put]; omega) | omega) only [aCallv, aPtrEq, s_nil, s_cons, s_consG, s_op, s_gtt, s_gff, s_gtf, s_gft, s_region, s_reg, s_seq, s_seqn, s_seqr, s_seqe, s_skip, s_ret, s_exit, s_cond, s_condt, s_condf, s_block, s_blockn, s_blockr, s_blocke, s_finr, s_finn, AOp.run, AO.eval, put, Option.map_some, Option.map_none, upd_self, upd_other, ne_eq, reduceCtorEq, not_false_eq_true, aInt, Nat.reduceEqDiff, initEnv, List.getElem?_cons_zero, List.getElem?_cons_succ, Option.getD_some, Bool.false_eq_true, if_false, if_true, V.bool, V.i64, resultsOf, List.mapM_cons, List.mapM_nil, AR.get, Option.bind_eq_bind, Option.bind_some, Option.pure_def, beq_tt, beq_tf, beq_ft, beq_ff, Bool.not_true, Bool.not_false, Nat.succ_ne_zero, List.map_cons, List.map_nil, aExtract, aUn, Int.reduceEq, Int.reduceBEq, Int.reduceBNe, BEq.rfl, aBox, aLoad, aStore, aPart, aPlace, aArrAddr, aArrIdx, aIdx, aLenStr, aConv, aFold, aMinMax, aEqV, aNilCheck, splice, fillV, V.cellsOf, V.oneCell, List.all_cons, List.all_nil, Bool.and_true, Bool.and_self, Option.map_some, Option.bind_some, List.drop_succ_cons, List.drop_zero, List.take_succ_cons, List.take_zero, List.length_cons, List.length_nil, Nat.reduceAdd, Nat.zero_add, Nat.add_zero, Nat.reduceLeDiff, Nat.reduceMul, Nat.mul_one, List.cons_append, List.nil_append, St.n_push, St.n_put, get_push_eq, get_push_ne, get_put_eq, get_put_ne, w_some, Nat.le_refl, true_and, and_true, and_self, List.append_nil, b_add, b_sub, b_mul, b_quo, b_rem, b_and, b_or, b_xor, b_eql, b_neq, b_lss, b_leq, b_gtr, b_geq, Int.cast_ofNat_Int, Int.toNat_zero, Int.toNat_one, Int.reduceLT, Int.reduceLE, Int.reduceToNat, Int.reduceGT, Int.reduceGE, Int.reduceNeg, decide_true, decide_false, Int.reduceAdd, Int.reduceSub, bne_self_eq_false, wrap64, d_draw, d_nil, d_e, d_cons, d_consG, d_op, d_gtt, d_gff, d_gtf, d_gft, chkAdd, effAdd, AOp.kind, chkAll, chkSee, Bool.and_true, Bool.true_and, Nat.reduceLT, s_gu, d_gu]
    have h2' : Fl σ3 fo f N.ls := h2.kept k3 (fun p hp hq => h5 (hq ▸ hp))
    obtain ⟨p, σ4, ha, hf', mv⟩ := app1 h2' (by omega) { l with id := N.sent + 1 }
    simp only [lc] at ha
    have hfo : ∀ p, fo = some p → p ≠ n ∧ p < σ.n := fun p hp => ⟨fun hq => h5 (hq ▸ hp), by subst hp; exact h2.lt⟩
    have g3 := mv.kept.get n _ (fun h => (hfo _ h).1 rfl) g1
    have g4 := mv.kept.get σ.n _ (fun h => absurd (hfo _ h).2 (Nat.lt_irrefl _)) g2
    have n4 := mv.kept.n
    have n3 := k3.n
    have n5 : n < σ4.n := by omega
    simp -implicitDefEqProofs (disch := first | (simp only [ne_eq, reduceCtorEq, not_false_eq_true]; done) | (simp -implicitDefEqProofs only [St.n_push, St.n_put]; done) | (simp -implicitDefEqProofs only [St.n_push, St.n_put]; omega) | omega) only [h1, hlen, c1, Tab.a25, lc, nput, hl, hσ, bsl, ha, g1, g2, g3, g4, aCallv, aPtrEq, s_nil, s_cons, s_consG, s_op, s_gtt, s_gff, s_gtf, s_gft, s_region, s_reg, s_seq, s_seqn, s_seqr, s_seqe, s_skip, s_ret, s_exit, s_cond, s_condt, s_condf, s_block, s_blockn, s_blockr, s_blocke, s_finr, s_finn, AOp.run, AO.eval, put, Option.map_some, Option.map_none, upd_self, upd_other, ne_eq, reduceCtorEq, not_false_eq_true, aInt, Nat.reduceEqDiff, initEnv, List.getElem?_cons_zero, List.getElem?_cons_succ, Option.getD_some, Bool.false_eq_true, if_false, if_true, V.bool, V.i64, resultsOf, List.mapM_cons, List.mapM_nil, AR.get, Option.bind_eq_bind, Option.bind_some, Option.pure_def, beq_tt, beq_tf, beq_ft, beq_ff, Bool.not_true, Bool.not_false, Nat.succ_ne_zero, List.map_cons, List.map_nil, aExtract, aUn, Int.reduceEq, Int.reduceBEq, Int.reduceBNe, BEq.rfl, aBox, aLoad, aStore, aPart, aPlace, aArrAddr, aArrIdx, aIdx, aLenStr, aConv, aFold, aMinMax, aEqV, aNilCheck, splice, fillV, V.cellsOf, V.oneCell, List.all_cons, List.all_nil, Bool.and_true, Bool.and_self, Option.map_some, Option.bind_some, List.drop_succ_cons, List.drop_zero, List.take_succ_cons, List.take_zero, List.length_cons, List.length_nil, Nat.reduceAdd, Nat.zero_add, Nat.add_zero, Nat.reduceLeDiff, Nat.reduceMul, Nat.mul_one, List.cons_append, List.nil_append, St.n_push, St.n_put, get_push_eq, get_push_ne, get_put_eq, get_put_ne, w_some, Nat.le_refl, true_and, and_true, and_self, List.append_nil, b_add, b_sub, b_mul, b_quo, b_rem, b_and, b_or, b_xor, b_eql, b_neq, b_lss, b_leq, b_gtr, b_geq, Int.cast_ofNat_Int, Int.toNat_zero, Int.toNat_one, Int.reduceLT, Int.reduceLE, Int.reduceToNat, Int.reduceGT, Int.reduceGE, Int.reduceNeg, decide_true, decide_false, Int.reduceAdd, Int.reduceSub, bne_self_eq_false, wrap64, d_draw, d_nil, d_e, d_cons, d_consG, d_op, d_gtt, d_gff, d_gtf, d_gft, chkAdd, effAdd, AOp.kind, chkAll, chkSee, Bool.and_true, Bool.true_and, Nat.reduceLT, s_gu, d_gu]
    have kk : Kept (NX n mo fo) σ (σ4.put n (some (.cells [.os p 0 4 (N.ls.length + 1) none, .mp mo, .sc (.int .i64 (N.sent + 1))]))) := by
      have k4 : Kept (NX n mo fo) σ σ4 := (k3.sub (fun o ho => .inl ho)).trans (mv.kept.sub fun o ho => .inr (.inr ho))
      exact k4.put (.inl (.inl rfl)) n5 _
    have own : ∀ x, some p = some x → fo = some x ∨ σ.n ≤ x := fun x hx => by
      rcases mv.own x hx with h | h
      · exact .inl h
      · exact .inr (by omega)
    have hfn : some p ≠ some n := fun h => by
      rcases own n h with h | h
      · exact h5 h
      · omega
    refine ⟨some p, ⟨_, es, c, get_put_self g3, ?_, ?_, h4, hfn⟩, kk, ?_⟩
    · refine hf'.kept (X := (· = n)) ((Kept.refl (· = n) _).put (.inl rfl) n5 _) (fun p hp hq => hfn (hq ▸ hp))
    · exact get_put_other n5 hmn (mv.kept.get mo _ hfm (k3.get mo _ hmn h3))
    · intro x hx
      rcases hx with hx | hx | hx
      · exact .inl (.inl hx)
      · exact .inl (.inr (.inl hx))
      · rcases own x hx with h | h
        · exact .inl (.inr (.inr h))
        · exact .inr h

def okA (a : Int) : Bool := decide (a ≥ 0) && decide (a < 16)
theorem address_ok (k : Nat) (ys : YlF) (σ : St) (a : Int) : callY Tab.tbl (k + 1) ys 23 [.sc (.int .i64 a)] σ = some (.sc (.bool (okA a)), σ) := by
  rw [s_call (af := Tab.a23) rfl (by simp [Tab.a23])]
  generalize callY Tab.tbl k = cy
  unfold okA
  cases h : decide (a ≥ 0)
  · simp -implicitDefEqProofs (disch := first | (simp only [ne_eq, reduceCtorEq, not_false_eq_true]; done) | (simp -implicitDefEqProofs only [St.n_push, St.n_put]; done) | (simp -implicitDefEqProofs only [St.n_push, St.n_put]; omega) | omega) only [Tab.a23, h, Bool.false_and, aCallv, aPtrEq, s_nil, s_cons, s_consG, s_op, s_gtt, s_gff, s_gtf, s_gft, s_region, s_reg, s_seq, s_seqn, s_seqr, s_seqe, s_skip, s_ret, s_exit, s_cond, s_condt, s_condf, s_block, s_blockn, s_blockr, s_blocke, s_finr, s_finn, AOp.run, AO.eval, put, Option.map_some, Option.map_none, upd_self, upd_other, ne_eq, reduceCtorEq, not_false_eq_true, aInt, Nat.reduceEqDiff, initEnv, List.getElem?_cons_zero, List.getElem?_cons_succ, Option.getD_some, Bool.false_eq_true, if_false, if_true, V.bool, V.i64, resultsOf, List.mapM_cons, List.mapM_nil, AR.get, Option.bind_eq_bind, Option.bind_some, Option.pure_def, beq_tt, beq_tf, beq_ft, beq_ff, Bool.not_true, Bool.not_false, Nat.succ_ne_zero, List.map_cons, List.map_nil, aExtract, aUn, Int.reduceEq, Int.reduceBEq, Int.reduceBNe, BEq.rfl, aBox, aLoad, aStore, aPart, aPlace, aArrAddr, aArrIdx, aIdx, aLenStr, aConv, aFold, aMinMax, aEqV, aNilCheck, splice, fillV, V.cellsOf, V.oneCell, List.all_cons, List.all_nil, Bool.and_true, Bool.and_self, Option.map_some, Option.bind_some, List.drop_succ_cons, List.drop_zero, List.take_succ_cons, List.take_zero, List.length_cons, List.length_nil, Nat.reduceAdd, Nat.zero_add, Nat.add_zero, Nat.reduceLeDiff, Nat.reduceMul, Nat.mul_one, List.cons_append, List.nil_append, St.n_push, St.n_put, get_push_eq, get_push_ne, get_put_eq, get_put_ne, w_some, Nat.le_refl, true_and, and_true, and_self, List.append_nil, b_add, b_sub, b_mul, b_quo, b_rem, b_and, b_or, b_xor, b_eql, b_neq, b_lss, b_leq, b_gtr, b_geq, Int.cast_ofNat_Int, Int.toNat_zero, Int.toNat_one, Int.reduceLT, Int.reduceLE, Int.reduceToNat, Int.reduceGT, Int.reduceGE, Int.reduceNeg, decide_true, decide_false, Int.reduceAdd, Int.reduceSub, bne_self_eq_false, wrap64, d_draw, d_nil, d_e, d_cons, d_consG, d_op, d_gtt, d_gff, d_gtf, d_gft, chkAdd, effAdd, AOp.kind, chkAll, chkSee, Bool.and_true, Bool.true_and, Nat.reduceLT, s_gu, d_gu]
  · simp -implicitDefEqProofs (disch := first | (simp only [ne_eq, reduceCtorEq, not_false_eq_true]; done) | (simp -implicitDefEqProofs only [St.n_push, St.n_put]; done) | (simp -implicitDefEqProofs only [St.n_push, St.n_put]; omega) | omega) only [Tab.a23, h, Bool.true_and, aCallv, aPtrEq, s_nil, s_cons, s_consG, s_op, s_gtt, s_gff, s_gtf, s_gft, s_region, s_reg, s_seq, s_seqn, s_seqr, s_seqe, s_skip, s_ret, s_exit, s_cond, s_condt, s_condf, s_block, s_blockn, s_blockr, s_blocke, s_finr, s_finn, AOp.run, AO.eval, put, Option.map_some, Option.map_none, upd_self, upd_other, ne_eq, reduceCtorEq, not_false_eq_true, aInt, Nat.reduceEqDiff, initEnv, List.getElem?_cons_zero, List.getElem?_cons_succ, Option.getD_some, Bool.false_eq_true, if_false, if_true, V.bool, V.i64, resultsOf, List.mapM_cons, List.mapM_nil, AR.get, Option.bind_eq_bind, Option.bind_some, Option.pure_def, beq_tt, beq_tf, beq_ft, beq_ff, Bool.not_true, Bool.not_false, Nat.succ_ne_zero, List.map_cons, List.map_nil, aExtract, aUn, Int.reduceEq, Int.reduceBEq, Int.reduceBNe, BEq.rfl, aBox, aLoad, aStore, aPart, aPlace, aArrAddr, aArrIdx, aIdx, aLenStr, aConv, aFold, aMinMax, aEqV, aNilCheck, splice, fillV, V.cellsOf, V.oneCell, List.all_cons, List.all_nil, Bool.and_true, Bool.and_self, Option.map_some, Option.bind_some, List.drop_succ_cons, List.drop_zero, List.take_succ_cons, List.take_zero, List.length_cons, List.length_nil, Nat.reduceAdd, Nat.zero_add, Nat.add_zero, Nat.reduceLeDiff, Nat.reduceMul, Nat.mul_one, List.cons_append, List.nil_append, St.n_push, St.n_put, get_push_eq, get_push_ne, get_put_eq, get_put_ne, w_some, Nat.le_refl, true_and, and_true, and_self, List.append_nil, b_add, b_sub, b_mul, b_quo, b_rem, b_and, b_or, b_xor, b_eql, b_neq, b_lss, b_leq, b_gtr, b_geq, Int.cast_ofNat_Int, Int.toNat_zero, Int.toNat_one, Int.reduceLT, Int.reduceLE, Int.reduceToNat, Int.reduceGT, Int.reduceGE, Int.reduceNeg, decide_true, decide_false, Int.reduceAdd, Int.reduceSub, bne_self_eq_false, wrap64, d_draw, d_nil, d_e, d_cons, d_consG, d_op, d_gtt, d_gff, d_gtf, d_gft, chkAdd, effAdd, AOp.kind, chkAll, chkSee, Bool.and_true, Bool.true_and, Nat.reduceLT, s_gu, d_gu]
def lk (a b : Int) : Int × Int := (min a b, max a b)
theorem of_ok (k : Nat) (ys : YlF) (σ : St) (a b : Int) : ∃ σ', callY Tab.tbl (k + 1) ys 24 [.sc (.int .i64 a), .sc (.int .i64 b)] σ = some (.agg [.sc (.int .i64 (lk a b).1), .sc (.int .i64 (lk a b).2)], σ') ∧ Kept noX σ σ' := by
  rw [s_call (af := Tab.a24) rfl (by simp [Tab.a24])]
  generalize callY Tab.tbl k = cy
  have hm : Kept noX σ ((σ.push (.cells [.sc (.int .i64 0), .sc (.int .i64 0)])).put σ.n (some (.cells [.sc (.int .i64 (lk a b).1), .sc (.int .i64 (lk a b).2)]))) := ((Kept.refl _ σ).push _).put (.inr (Nat.le_refl _)) (by simp only [St.n_push]; omega) _
  refine ⟨_, ?_, hm⟩
  unfold lk
  by_cases h : a < b
  · have e1 : min a b = a := by omega
    have e2 : max a b = b := by omega
    have e3 : decide (a < b) = true := by simpa using h
    have e4 : ¬ b < a := by omega
    have e5 : (a < b) = True := by simpa using h
    have e6 : (b < a) = False := by simpa using e4
    simp -implicitDefEqProofs (disch := first | (simp only [ne_eq, reduceCtorEq, not_false_eq_true]; done) | (simp -implicitDefEqProofs only [St.n_push, St.n_put]; done) | (simp -implicitDefEqProofs only [St.n_push, St.n_put]; omega) | omega) only [Tab.a24, e1, e2, e3, e5, e6, aCallv, aPtrEq, s_nil, s_cons, s_consG, s_op, s_gtt, s_gff, s_gtf, s_gft, s_region, s_reg, s_seq, s_seqn, s_seqr, s_seqe, s_skip, s_ret, s_exit, s_cond, s_condt, s_condf, s_block, s_blockn, s_blockr, s_blocke, s_finr, s_finn, AOp.run, AO.eval, put, Option.map_some, Option.map_none, upd_self, upd_other, ne_eq, reduceCtorEq, not_false_eq_true, aInt, Nat.reduceEqDiff, initEnv, List.getElem?_cons_zero, List.getElem?_cons_succ, Option.getD_some, Bool.false_eq_true, if_false, if_true, V.bool, V.i64, resultsOf, List.mapM_cons, List.mapM_nil, AR.get, Option.bind_eq_bind, Option.bind_some, Option.pure_def, beq_tt, beq_tf, beq_ft, beq_ff, Bool.not_true, Bool.not_false, Nat.succ_ne_zero, List.map_cons, List.map_nil, aExtract, aUn, Int.reduceEq, Int.reduceBEq, Int.reduceBNe, BEq.rfl, aBox, aLoad, aStore, aPart, aPlace, aArrAddr, aArrIdx, aIdx, aLenStr, aConv, aFold, aMinMax, aEqV, aNilCheck, splice, fillV, V.cellsOf, V.oneCell, List.all_cons, List.all_nil, Bool.and_true, Bool.and_self, Option.map_some, Option.bind_some, List.drop_succ_cons, List.drop_zero, List.take_succ_cons, List.take_zero, List.length_cons, List.length_nil, Nat.reduceAdd, Nat.zero_add, Nat.add_zero, Nat.reduceLeDiff, Nat.reduceMul, Nat.mul_one, List.cons_append, List.nil_append, St.n_push, St.n_put, get_push_eq, get_push_ne, get_put_eq, get_put_ne, w_some, Nat.le_refl, true_and, and_true, and_self, List.append_nil, b_add, b_sub, b_mul, b_quo, b_rem, b_and, b_or, b_xor, b_eql, b_neq, b_lss, b_leq, b_gtr, b_geq, Int.cast_ofNat_Int, Int.toNat_zero, Int.toNat_one, Int.reduceLT, Int.reduceLE, Int.reduceToNat, Int.reduceGT, Int.reduceGE, Int.reduceNeg, decide_true, decide_false, Int.reduceAdd, Int.reduceSub, bne_self_eq_false, wrap64, d_draw, d_nil, d_e, d_cons, d_consG, d_op, d_gtt, d_gff, d_gtf, d_gft, chkAdd, effAdd, AOp.kind, chkAll, chkSee, Bool.and_true, Bool.true_and, Nat.reduceLT, s_gu, d_gu]
  · have e1 : min a b = b := by omega
    have e2 : max a b = a := by omega
    have e5 : (a < b) = False := by simpa using h
    by_cases h2 : b < a
    · have e6 : (b < a) = True := by simpa using h2
      simp -implicitDefEqProofs (disch := first | (simp only [ne_eq, reduceCtorEq, not_false_eq_true]; done) | (simp -implicitDefEqProofs only [St.n_push, St.n_put]; done) | (simp -implicitDefEqProofs only [St.n_push, St.n_put]; omega) | omega) only [Tab.a24, e1, e2, e5, e6, aCallv, aPtrEq, s_nil, s_cons, s_consG, s_op, s_gtt, s_gff, s_gtf, s_gft, s_region, s_reg, s_seq, s_seqn, s_seqr, s_seqe, s_skip, s_ret, s_exit, s_cond, s_condt, s_condf, s_block, s_blockn, s_blockr, s_blocke, s_finr, s_finn, AOp.run, AO.eval, put, Option.map_some, Option.map_none, upd_self, upd_other, ne_eq, reduceCtorEq, not_false_eq_true, aInt, Nat.reduceEqDiff, initEnv, List.getElem?_cons_zero, List.getElem?_cons_succ, Option.getD_some, Bool.false_eq_true, if_false, if_true, V.bool, V.i64, resultsOf, List.mapM_cons, List.mapM_nil, AR.get, Option.bind_eq_bind, Option.bind_some, Option.pure_def, beq_tt, beq_tf, beq_ft, beq_ff, Bool.not_true, Bool.not_false, Nat.succ_ne_zero, List.map_cons, List.map_nil, aExtract, aUn, Int.reduceEq, Int.reduceBEq, Int.reduceBNe, BEq.rfl, aBox, aLoad, aStore, aPart, aPlace, aArrAddr, aArrIdx, aIdx, aLenStr, aConv, aFold, aMinMax, aEqV, aNilCheck, splice, fillV, V.cellsOf, V.oneCell, List.all_cons, List.all_nil, Bool.and_true, Bool.and_self, Option.map_some, Option.bind_some, List.drop_succ_cons, List.drop_zero, List.take_succ_cons, List.take_zero, List.length_cons, List.length_nil, Nat.reduceAdd, Nat.zero_add, Nat.add_zero, Nat.reduceLeDiff, Nat.reduceMul, Nat.mul_one, List.cons_append, List.nil_append, St.n_push, St.n_put, get_push_eq, get_push_ne, get_put_eq, get_put_ne, w_some, Nat.le_refl, true_and, and_true, and_self, List.append_nil, b_add, b_sub, b_mul, b_quo, b_rem, b_and, b_or, b_xor, b_eql, b_neq, b_lss, b_leq, b_gtr, b_geq, Int.cast_ofNat_Int, Int.toNat_zero, Int.toNat_one, Int.reduceLT, Int.reduceLE, Int.reduceToNat, Int.reduceGT, Int.reduceGE, Int.reduceNeg, decide_true, decide_false, Int.reduceAdd, Int.reduceSub, bne_self_eq_false, wrap64, d_draw, d_nil, d_e, d_cons, d_consG, d_op, d_gtt, d_gff, d_gtf, d_gft, chkAdd, effAdd, AOp.kind, chkAll, chkSee, Bool.and_true, Bool.true_and, Nat.reduceLT, s_gu, d_gu]
    · have e6 : a = b := by omega
      subst e6
      have e7 : (a < a) = False := by simp
      simp -implicitDefEqProofs (disch := first | (simp only [ne_eq, reduceCtorEq, not_false_eq_true]; done) | (simp -implicitDefEqProofs only [St.n_push, St.n_put]; done) | (simp -implicitDefEqProofs only [St.n_push, St.n_put]; omega) | omega) only [Tab.a24, e1, e2, e7, aCallv, aPtrEq, s_nil, s_cons, s_consG, s_op, s_gtt, s_gff, s_gtf, s_gft, s_region, s_reg, s_seq, s_seqn, s_seqr, s_seqe, s_skip, s_ret, s_exit, s_cond, s_condt, s_condf, s_block, s_blockn, s_blockr, s_blocke, s_finr, s_finn, AOp.run, AO.eval, put, Option.map_some, Option.map_none, upd_self, upd_other, ne_eq, reduceCtorEq, not_false_eq_true, aInt, Nat.reduceEqDiff, initEnv, List.getElem?_cons_zero, List.getElem?_cons_succ, Option.getD_some, Bool.false_eq_true, if_false, if_true, V.bool, V.i64, resultsOf, List.mapM_cons, List.mapM_nil, AR.get, Option.bind_eq_bind, Option.bind_some, Option.pure_def, beq_tt, beq_tf, beq_ft, beq_ff, Bool.not_true, Bool.not_false, Nat.succ_ne_zero, List.map_cons, List.map_nil, aExtract, aUn, Int.reduceEq, Int.reduceBEq, Int.reduceBNe, BEq.rfl, aBox, aLoad, aStore, aPart, aPlace, aArrAddr, aArrIdx, aIdx, aLenStr, aConv, aFold, aMinMax, aEqV, aNilCheck, splice, fillV, V.cellsOf, V.oneCell, List.all_cons, List.all_nil, Bool.and_true, Bool.and_self, Option.map_some, Option.bind_some, List.drop_succ_cons, List.drop_zero, List.take_succ_cons, List.take_zero, List.length_cons, List.length_nil, Nat.reduceAdd, Nat.zero_add, Nat.add_zero, Nat.reduceLeDiff, Nat.reduceMul, Nat.mul_one, List.cons_append, List.nil_append, St.n_push, St.n_put, get_push_eq, get_push_ne, get_put_eq, get_put_ne, w_some, Nat.le_refl, true_and, and_true, and_self, List.append_nil, b_add, b_sub, b_mul, b_quo, b_rem, b_and, b_or, b_xor, b_eql, b_neq, b_lss, b_leq, b_gtr, b_geq, Int.cast_ofNat_Int, Int.toNat_zero, Int.toNat_one, Int.reduceLT, Int.reduceLE, Int.reduceToNat, Int.reduceGT, Int.reduceGE, Int.reduceNeg, decide_true, decide_false, Int.reduceAdd, Int.reduceSub, bne_self_eq_false, wrap64, d_draw, d_nil, d_e, d_cons, d_consG, d_op, d_gtt, d_gff, d_gtf, d_gft, chkAdd, effAdd, AOp.kind, chkAll, chkSee, Bool.and_true, Bool.true_and, Nat.reduceLT, s_gu, d_gu]

/-! ## The cut links -/
abbrev q2 : EqT := .struct [(0, none, .int .i64), (1, none, .int .i64)]
theorem eq2 (σ : St) (p q : Int × Int) : aEqV σ q2 (kV p) (kV q) = some (p == q) := by
  have : (p == q) = ((p.1 == q.1) && (p.2 == q.2)) := rfl
  rw [this]
  simp [aEqV, aEqFs, kV, aPart, aEqInt]
theorem key2 (σ : St) (a b : Int) : aKey σ q2 (.agg [.sc (.int .i64 a), .sc (.int .i64 b)]) = true := by
  have := eq2 σ (a, b) (a, b)
  unfold aKey
  simp only [kV] at this
  rw [this]; rfl
theorem afind2 (σ : St) (p : Int × Int) : ∀ (es : List (V × V × Nat)) (ks : List (Int × Int)) (i : Nat), Mp es ks →
    aFind σ q2 (kV p) es i = some (match ks.findIdx? (· == p) with | none => none | some j => some (i + j, kV p, .sc (.bool true)))
  | [], ks, i, h => by
    have := h.ents
    cases ks with
    | nil => rfl
    | cons a b => simp at this
  | e :: es, [], i, h => by
    have := h.ents
    simp at this
  | e :: es, q :: ks, i, h => by
    have := h.ents
    simp only [List.map_cons, List.cons.injEq, Prod.mk.injEq] at this
    obtain ⟨⟨h1, h2⟩, h3⟩ := this
    simp only [aFind, h1, eq2, Option.bind_some, List.findIdx?_cons]
    by_cases hq : p = q
    · subst hq
      simp [h2]
    · have c1 : (p == q) = false := by simpa using hq
      have c2 : (q == p) = false := by simpa using fun h => hq h.symm
      rw [c1, c2, afind2 σ p es ks (i + 1) ⟨h3⟩]
      simp only [Bool.false_eq_true, if_false]
      cases ks.findIdx? (· == p) with
      | none => rfl
      | some j => simp only [Option.map_some]; congr 3; omega
/-- Is the link among them? -/
theorem look2 {es : List (V × V × Nat)} {ks : List (Int × Int)} (h : Mp es ks) {p : Int × Int} (hp : p ∈ ks) :
    ∃ j, j < ks.length ∧ ks.findIdx? (· == p) = some j ∧ ∀ σ, aFind σ q2 (.agg [.sc (.int .i64 p.1), .sc (.int .i64 p.2)]) es 0 = some (some (j, kV p, .sc (.bool true))) := by
  cases hf : ks.findIdx? (· == p) with
  | none =>
    have := List.findIdx?_eq_none_iff.1 hf p hp
    simp at this
  | some j =>
    obtain ⟨h1, _⟩ := List.findIdx?_eq_some_iff_getElem.1 hf
    refine ⟨j, h1, rfl, fun σ => ?_⟩
    have := afind2 σ p es ks 0 h
    rw [hf] at this
    simp only [Nat.zero_add] at this
    exact this
theorem look2n {es : List (V × V × Nat)} {ks : List (Int × Int)} (h : Mp es ks) {p : Int × Int} (hp : p ∉ ks) (σ : St) :
    aFind σ q2 (.agg [.sc (.int .i64 p.1), .sc (.int .i64 p.2)]) es 0 = some none := by
  have := afind2 σ p es ks 0 h
  cases hf : ks.findIdx? (· == p) with
  | none => rw [hf] at this; exact this
  | some j =>
    obtain ⟨h1, h2, _⟩ := List.findIdx?_eq_some_iff_getElem.1 hf
    exact absurd (eq_of_beq h2 ▸ List.getElem_mem h1) hp

def nsend (N : NS) (a b : Int) (s : List UInt8) : NS × Int × Int :=
  if okA a = false ∨ okA b = false then (N, 0, 2) else if 4108 < s.length then (N, 0, 3) else if lk a b ∈ N.ks then (N, 0, 50) else nput N ⟨0, a, b, s⟩

theorem send_ok (k : Nat) (ys : YlF) (σ : St) (n mo : Nat) (fo : Option Nat) (N : NS) (a b : Int) (s : List UInt8) (h : NR σ n mo fo N) (hi : N.ls.length ≤ 256) (hs : N.sent ≤ 1000) :
    W (callY Tab.tbl (k + 2) ys 11 [.ptr n 0, .sc (.int .i64 a), .sc (.int .i64 b), .str s] σ) fun o => o.1 = .tup [.sc (.int .i64 (nsend N a b s).2.1), .sc (.int .i64 (nsend N a b s).2.2)] ∧ ∃ fo', NR o.2 n mo fo' (nsend N a b s).1 ∧ Mv (NX n mo fo) σ (NX n mo fo') o.2 := by
  rw [s_call (af := Tab.a11) rfl (by simp [Tab.a11])]
  have hadr := fun σ => address_ok k ys σ
  have hof := of_ok k ys σ a b
  have hput := fun σ fo h => put_ok k ys σ n mo fo N ⟨0, a, b, s⟩ h hi hs
  generalize callY Tab.tbl (k + 1) = cy at hadr hof hput ⊢
  obtain ⟨f, es, c, h1, h2, h3, h4, h5⟩ := id h
  unfold nsend
  cases ha : okA a with
  | false =>
    simp -implicitDefEqProofs (disch := first | (simp only [ne_eq, reduceCtorEq, not_false_eq_true]; done) | (simp -implicitDefEqProofs only [St.n_push, St.n_put]; done) | (simp -implicitDefEqProofs only [St.n_push, St.n_put]; omega) | omega) only [Tab.a11, hadr, ha, true_or, aCallv, aPtrEq, s_nil, s_cons, s_consG, s_op, s_gtt, s_gff, s_gtf, s_gft, s_region, s_reg, s_seq, s_seqn, s_seqr, s_seqe, s_skip, s_ret, s_exit, s_cond, s_condt, s_condf, s_block, s_blockn, s_blockr, s_blocke, s_finr, s_finn, AOp.run, AO.eval, put, Option.map_some, Option.map_none, upd_self, upd_other, ne_eq, reduceCtorEq, not_false_eq_true, aInt, Nat.reduceEqDiff, initEnv, List.getElem?_cons_zero, List.getElem?_cons_succ, Option.getD_some, Bool.false_eq_true, if_false, if_true, V.bool, V.i64, resultsOf, List.mapM_cons, List.mapM_nil, AR.get, Option.bind_eq_bind, Option.bind_some, Option.pure_def, beq_tt, beq_tf, beq_ft, beq_ff, Bool.not_true, Bool.not_false, Nat.succ_ne_zero, List.map_cons, List.map_nil, aExtract, aUn, Int.reduceEq, Int.reduceBEq, Int.reduceBNe, BEq.rfl, aBox, aLoad, aStore, aPart, aPlace, aArrAddr, aArrIdx, aIdx, aLenStr, aConv, aFold, aMinMax, aEqV, aNilCheck, splice, fillV, V.cellsOf, V.oneCell, List.all_cons, List.all_nil, Bool.and_true, Bool.and_self, Option.map_some, Option.bind_some, List.drop_succ_cons, List.drop_zero, List.take_succ_cons, List.take_zero, List.length_cons, List.length_nil, Nat.reduceAdd, Nat.zero_add, Nat.add_zero, Nat.reduceLeDiff, Nat.reduceMul, Nat.mul_one, List.cons_append, List.nil_append, St.n_push, St.n_put, get_push_eq, get_push_ne, get_put_eq, get_put_ne, w_some, Nat.le_refl, true_and, and_true, and_self, List.append_nil, b_add, b_sub, b_mul, b_quo, b_rem, b_and, b_or, b_xor, b_eql, b_neq, b_lss, b_leq, b_gtr, b_geq, Int.cast_ofNat_Int, Int.toNat_zero, Int.toNat_one, Int.reduceLT, Int.reduceLE, Int.reduceToNat, Int.reduceGT, Int.reduceGE, Int.reduceNeg, decide_true, decide_false, Int.reduceAdd, Int.reduceSub, bne_self_eq_false, wrap64, d_draw, d_nil, d_e, d_cons, d_consG, d_op, d_gtt, d_gff, d_gtf, d_gft, chkAdd, effAdd, AOp.kind, chkAll, chkSee, Bool.and_true, Bool.true_and, Nat.reduceLT, s_gu, d_gu]
    exact ⟨fo, h, Mv.refl _ _⟩
  | true =>
  cases hb : okA b with
  | false =>
    simp -implicitDefEqProofs (disch := first | (simp only [ne_eq, reduceCtorEq, not_false_eq_true]; done) | (simp -implicitDefEqProofs only [St.n_push, St.n_put]; done) | (simp -implicitDefEqProofs only [St.n_push, St.n_put]; omega) | omega) only [Tab.a11, hadr, ha, hb, or_true, aCallv, aPtrEq, s_nil, s_cons, s_consG, s_op, s_gtt, s_gff, s_gtf, s_gft, s_region, s_reg, s_seq, s_seqn, s_seqr, s_seqe, s_skip, s_ret, s_exit, s_cond, s_condt, s_condf, s_block, s_blockn, s_blockr, s_blocke, s_finr, s_finn, AOp.run, AO.eval, put, Option.map_some, Option.map_none, upd_self, upd_other, ne_eq, reduceCtorEq, not_false_eq_true, aInt, Nat.reduceEqDiff, initEnv, List.getElem?_cons_zero, List.getElem?_cons_succ, Option.getD_some, Bool.false_eq_true, if_false, if_true, V.bool, V.i64, resultsOf, List.mapM_cons, List.mapM_nil, AR.get, Option.bind_eq_bind, Option.bind_some, Option.pure_def, beq_tt, beq_tf, beq_ft, beq_ff, Bool.not_true, Bool.not_false, Nat.succ_ne_zero, List.map_cons, List.map_nil, aExtract, aUn, Int.reduceEq, Int.reduceBEq, Int.reduceBNe, BEq.rfl, aBox, aLoad, aStore, aPart, aPlace, aArrAddr, aArrIdx, aIdx, aLenStr, aConv, aFold, aMinMax, aEqV, aNilCheck, splice, fillV, V.cellsOf, V.oneCell, List.all_cons, List.all_nil, Bool.and_true, Bool.and_self, Option.map_some, Option.bind_some, List.drop_succ_cons, List.drop_zero, List.take_succ_cons, List.take_zero, List.length_cons, List.length_nil, Nat.reduceAdd, Nat.zero_add, Nat.add_zero, Nat.reduceLeDiff, Nat.reduceMul, Nat.mul_one, List.cons_append, List.nil_append, St.n_push, St.n_put, get_push_eq, get_push_ne, get_put_eq, get_put_ne, w_some, Nat.le_refl, true_and, and_true, and_self, List.append_nil, b_add, b_sub, b_mul, b_quo, b_rem, b_and, b_or, b_xor, b_eql, b_neq, b_lss, b_leq, b_gtr, b_geq, Int.cast_ofNat_Int, Int.toNat_zero, Int.toNat_one, Int.reduceLT, Int.reduceLE, Int.reduceToNat, Int.reduceGT, Int.reduceGE, Int.reduceNeg, decide_true, decide_false, Int.reduceAdd, Int.reduceSub, bne_self_eq_false, wrap64, d_draw, d_nil, d_e, d_cons, d_consG, d_op, d_gtt, d_gff, d_gtf, d_gft, chkAdd, effAdd, AOp.kind, chkAll, chkSee, Bool.and_true, Bool.true_and, Nat.reduceLT, s_gu, d_gu]
    exact ⟨fo, h, Mv.refl _ _⟩
  | true =>
  by_cases hl : 4108 < s.length
  · have c1 : decide ((s.length : Int) > 4108) = true := by simp only [decide_eq_true_eq]; omega
    simp -implicitDefEqProofs (disch := first | (simp only [ne_eq, reduceCtorEq, not_false_eq_true]; done) | (simp -implicitDefEqProofs only [St.n_push, St.n_put]; done) | (simp -implicitDefEqProofs only [St.n_push, St.n_put]; omega) | omega) only [Tab.a11, hadr, ha, hb, or_self, c1, hl, aCallv, aPtrEq, s_nil, s_cons, s_consG, s_op, s_gtt, s_gff, s_gtf, s_gft, s_region, s_reg, s_seq, s_seqn, s_seqr, s_seqe, s_skip, s_ret, s_exit, s_cond, s_condt, s_condf, s_block, s_blockn, s_blockr, s_blocke, s_finr, s_finn, AOp.run, AO.eval, put, Option.map_some, Option.map_none, upd_self, upd_other, ne_eq, reduceCtorEq, not_false_eq_true, aInt, Nat.reduceEqDiff, initEnv, List.getElem?_cons_zero, List.getElem?_cons_succ, Option.getD_some, Bool.false_eq_true, if_false, if_true, V.bool, V.i64, resultsOf, List.mapM_cons, List.mapM_nil, AR.get, Option.bind_eq_bind, Option.bind_some, Option.pure_def, beq_tt, beq_tf, beq_ft, beq_ff, Bool.not_true, Bool.not_false, Nat.succ_ne_zero, List.map_cons, List.map_nil, aExtract, aUn, Int.reduceEq, Int.reduceBEq, Int.reduceBNe, BEq.rfl, aBox, aLoad, aStore, aPart, aPlace, aArrAddr, aArrIdx, aIdx, aLenStr, aConv, aFold, aMinMax, aEqV, aNilCheck, splice, fillV, V.cellsOf, V.oneCell, List.all_cons, List.all_nil, Bool.and_true, Bool.and_self, Option.map_some, Option.bind_some, List.drop_succ_cons, List.drop_zero, List.take_succ_cons, List.take_zero, List.length_cons, List.length_nil, Nat.reduceAdd, Nat.zero_add, Nat.add_zero, Nat.reduceLeDiff, Nat.reduceMul, Nat.mul_one, List.cons_append, List.nil_append, St.n_push, St.n_put, get_push_eq, get_push_ne, get_put_eq, get_put_ne, w_some, Nat.le_refl, true_and, and_true, and_self, List.append_nil, b_add, b_sub, b_mul, b_quo, b_rem, b_and, b_or, b_xor, b_eql, b_neq, b_lss, b_leq, b_gtr, b_geq, Int.cast_ofNat_Int, Int.toNat_zero, Int.toNat_one, Int.reduceLT, Int.reduceLE, Int.reduceToNat, Int.reduceGT, Int.reduceGE, Int.reduceNeg, decide_true, decide_false, Int.reduceAdd, Int.reduceSub, bne_self_eq_false, wrap64, d_draw, d_nil, d_e, d_cons, d_consG, d_op, d_gtt, d_gff, d_gtf, d_gft, chkAdd, effAdd, AOp.kind, chkAll, chkSee, Bool.and_true, Bool.true_and, Nat.reduceLT, s_gu, d_gu]
    exact ⟨fo, h, Mv.refl _ _⟩
  have c1 : decide ((s.length : Int) > 4108) = false := by simp only [decide_eq_false_iff_not]; omega
  obtain ⟨σ1, hof, k1⟩ := hof
  have g1 := k1.get n _ (fun h => h) h1
  have g3 := k1.get mo _ (fun h => h) h3
  have hk2 := key2 σ1 (lk a b).1 (lk a b).2
  have h0 := h.kept0 k1
  by_cases hc : lk a b ∈ N.ks
  · obtain ⟨j, -, -, hr⟩ := look2 h4 hc
    simp -implicitDefEqProofs (disch := first | (simp only [ne_eq, reduceCtorEq, not_false_eq_true]; done) | (simp -implicitDefEqProofs only [St.n_push, St.n_put]; done) | (simp -implicitDefEqProofs only [St.n_push, St.n_put]; omega) | omega) only [Tab.a11, hadr, ha, hb, or_self, c1, hl, hof, g1, h1, XOp.run, XOp.kind, aEnts, g3, hk2, hr, hc, aCallv, aPtrEq, s_nil, s_cons, s_consG, s_op, s_gtt, s_gff, s_gtf, s_gft, s_region, s_reg, s_seq, s_seqn, s_seqr, s_seqe, s_skip, s_ret, s_exit, s_cond, s_condt, s_condf, s_block, s_blockn, s_blockr, s_blocke, s_finr, s_finn, AOp.run, AO.eval, put, Option.map_some, Option.map_none, upd_self, upd_other, ne_eq, reduceCtorEq, not_false_eq_true, aInt, Nat.reduceEqDiff, initEnv, List.getElem?_cons_zero, List.getElem?_cons_succ, Option.getD_some, Bool.false_eq_true, if_false, if_true, V.bool, V.i64, resultsOf, List.mapM_cons, List.mapM_nil, AR.get, Option.bind_eq_bind, Option.bind_some, Option.pure_def, beq_tt, beq_tf, beq_ft, beq_ff, Bool.not_true, Bool.not_false, Nat.succ_ne_zero, List.map_cons, List.map_nil, aExtract, aUn, Int.reduceEq, Int.reduceBEq, Int.reduceBNe, BEq.rfl, aBox, aLoad, aStore, aPart, aPlace, aArrAddr, aArrIdx, aIdx, aLenStr, aConv, aFold, aMinMax, aEqV, aNilCheck, splice, fillV, V.cellsOf, V.oneCell, List.all_cons, List.all_nil, Bool.and_true, Bool.and_self, Option.map_some, Option.bind_some, List.drop_succ_cons, List.drop_zero, List.take_succ_cons, List.take_zero, List.length_cons, List.length_nil, Nat.reduceAdd, Nat.zero_add, Nat.add_zero, Nat.reduceLeDiff, Nat.reduceMul, Nat.mul_one, List.cons_append, List.nil_append, St.n_push, St.n_put, get_push_eq, get_push_ne, get_put_eq, get_put_ne, w_some, Nat.le_refl, true_and, and_true, and_self, List.append_nil, b_add, b_sub, b_mul, b_quo, b_rem, b_and, b_or, b_xor, b_eql, b_neq, b_lss, b_leq, b_gtr, b_geq, Int.cast_ofNat_Int, Int.toNat_zero, Int.toNat_one, Int.reduceLT, Int.reduceLE, Int.reduceToNat, Int.reduceGT, Int.reduceGE, Int.reduceNeg, decide_true, decide_false, Int.reduceAdd, Int.reduceSub, bne_self_eq_false, wrap64, d_draw, d_nil, d_e, d_cons, d_consG, d_op, d_gtt, d_gff, d_gtf, d_gft, chkAdd, effAdd, AOp.kind, chkAll, chkSee, Bool.and_true, Bool.true_and, Nat.reduceLT, s_gu, d_gu]
    exact ⟨fo, h0, Mv.of k1 fun _ h => .inl h⟩
  · have hr := look2n h4 hc
    simp -implicitDefEqProofs (disch := first | (simp only [ne_eq, reduceCtorEq, not_false_eq_true]; done) | (simp -implicitDefEqProofs only [St.n_push, St.n_put]; done) | (simp -implicitDefEqProofs only [St.n_push, St.n_put]; omega) | omega) only [Tab.a11, hadr, ha, hb, or_self, c1, hl, hof, g1, h1, XOp.run, XOp.kind, aEnts, g3, hk2, hr, hc, aCallv, aPtrEq, s_nil, s_cons, s_consG, s_op, s_gtt, s_gff, s_gtf, s_gft, s_region, s_reg, s_seq, s_seqn, s_seqr, s_seqe, s_skip, s_ret, s_exit, s_cond, s_condt, s_condf, s_block, s_blockn, s_blockr, s_blocke, s_finr, s_finn, AOp.run, AO.eval, put, Option.map_some, Option.map_none, upd_self, upd_other, ne_eq, reduceCtorEq, not_false_eq_true, aInt, Nat.reduceEqDiff, initEnv, List.getElem?_cons_zero, List.getElem?_cons_succ, Option.getD_some, Bool.false_eq_true, if_false, if_true, V.bool, V.i64, resultsOf, List.mapM_cons, List.mapM_nil, AR.get, Option.bind_eq_bind, Option.bind_some, Option.pure_def, beq_tt, beq_tf, beq_ft, beq_ff, Bool.not_true, Bool.not_false, Nat.succ_ne_zero, List.map_cons, List.map_nil, aExtract, aUn, Int.reduceEq, Int.reduceBEq, Int.reduceBNe, BEq.rfl, aBox, aLoad, aStore, aPart, aPlace, aArrAddr, aArrIdx, aIdx, aLenStr, aConv, aFold, aMinMax, aEqV, aNilCheck, splice, fillV, V.cellsOf, V.oneCell, List.all_cons, List.all_nil, Bool.and_true, Bool.and_self, Option.map_some, Option.bind_some, List.drop_succ_cons, List.drop_zero, List.take_succ_cons, List.take_zero, List.length_cons, List.length_nil, Nat.reduceAdd, Nat.zero_add, Nat.add_zero, Nat.reduceLeDiff, Nat.reduceMul, Nat.mul_one, List.cons_append, List.nil_append, St.n_push, St.n_put, get_push_eq, get_push_ne, get_put_eq, get_put_ne, w_some, Nat.le_refl, true_and, and_true, and_self, List.append_nil, b_add, b_sub, b_mul, b_quo, b_rem, b_and, b_or, b_xor, b_eql, b_neq, b_lss, b_leq, b_gtr, b_geq, Int.cast_ofNat_Int, Int.toNat_zero, Int.toNat_one, Int.reduceLT, Int.reduceLE, Int.reduceToNat, Int.reduceGT, Int.reduceGE, Int.reduceNeg, decide_true, decide_false, Int.reduceAdd, Int.reduceSub, bne_self_eq_false, wrap64, d_draw, d_nil, d_e, d_cons, d_consG, d_op, d_gtt, d_gff, d_gtf, d_gft, chkAdd, effAdd, AOp.kind, chkAll, chkSee, Bool.and_true, Bool.true_and, Nat.reduceLT, s_gu, d_gu]
    repeat (first | refine w_fin ?_ | refine w_seq ?_ | refine w_block ?_ | refine w_reg ?_ | refine w_op ?_ | refine w_dop ?_)
    refine (hput σ1 fo h0).mono ?_
    rintro ⟨_, σ2⟩ ⟨rfl, fo', h6, h7⟩
    simp -implicitDefEqProofs (disch := first | (simp only [ne_eq, reduceCtorEq, not_false_eq_true]; done) | (simp -implicitDefEqProofs only [St.n_push, St.n_put]; done) | (simp -implicitDefEqProofs only [St.n_push, St.n_put]; omega) | omega) only [aCallv, aPtrEq, s_nil, s_cons, s_consG, s_op, s_gtt, s_gff, s_gtf, s_gft, s_region, s_reg, s_seq, s_seqn, s_seqr, s_seqe, s_skip, s_ret, s_exit, s_cond, s_condt, s_condf, s_block, s_blockn, s_blockr, s_blocke, s_finr, s_finn, AOp.run, AO.eval, put, Option.map_some, Option.map_none, upd_self, upd_other, ne_eq, reduceCtorEq, not_false_eq_true, aInt, Nat.reduceEqDiff, initEnv, List.getElem?_cons_zero, List.getElem?_cons_succ, Option.getD_some, Bool.false_eq_true, if_false, if_true, V.bool, V.i64, resultsOf, List.mapM_cons, List.mapM_nil, AR.get, Option.bind_eq_bind, Option.bind_some, Option.pure_def, beq_tt, beq_tf, beq_ft, beq_ff, Bool.not_true, Bool.not_false, Nat.succ_ne_zero, List.map_cons, List.map_nil, aExtract, aUn, Int.reduceEq, Int.reduceBEq, Int.reduceBNe, BEq.rfl, aBox, aLoad, aStore, aPart, aPlace, aArrAddr, aArrIdx, aIdx, aLenStr, aConv, aFold, aMinMax, aEqV, aNilCheck, splice, fillV, V.cellsOf, V.oneCell, List.all_cons, List.all_nil, Bool.and_true, Bool.and_self, Option.map_some, Option.bind_some, List.drop_succ_cons, List.drop_zero, List.take_succ_cons, List.take_zero, List.length_cons, List.length_nil, Nat.reduceAdd, Nat.zero_add, Nat.add_zero, Nat.reduceLeDiff, Nat.reduceMul, Nat.mul_one, List.cons_append, List.nil_append, St.n_push, St.n_put, get_push_eq, get_push_ne, get_put_eq, get_put_ne, w_some, Nat.le_refl, true_and, and_true, and_self, List.append_nil, b_add, b_sub, b_mul, b_quo, b_rem, b_and, b_or, b_xor, b_eql, b_neq, b_lss, b_leq, b_gtr, b_geq, Int.cast_ofNat_Int, Int.toNat_zero, Int.toNat_one, Int.reduceLT, Int.reduceLE, Int.reduceToNat, Int.reduceGT, Int.reduceGE, Int.reduceNeg, decide_true, decide_false, Int.reduceAdd, Int.reduceSub, bne_self_eq_false, wrap64, d_draw, d_nil, d_e, d_cons, d_consG, d_op, d_gtt, d_gff, d_gtf, d_gft, chkAdd, effAdd, AOp.kind, chkAll, chkSee, Bool.and_true, Bool.true_and, Nat.reduceLT, s_gu, d_gu]
    exact ⟨fo', h6, (Mv.of k1 fun _ h => .inl h).trans h7⟩

theorem Mp.append {es : List (V × V × Nat)} {ks : List (Int × Int)} (h : Mp es ks) (p : Int × Int) (c : Nat) : Mp (es ++ [(kV p, .sc (.bool true), c)]) (ks ++ [p]) := ⟨by simp [h.ents]⟩
theorem Mp.erase {es : List (V × V × Nat)} {ks : List (Int × Int)} (h : Mp es ks) (j : Nat) : Mp (es.eraseIdx j) (ks.eraseIdx j) := ⟨by
  have e : ∀ (es : List (V × V × Nat)) (ks : List (Int × Int)) (j : Nat), es.map (fun e => (e.1, e.2.1)) = ks.map (fun p => (kV p, V.sc (.bool true))) → (es.eraseIdx j).map (fun e => (e.1, e.2.1)) = (ks.eraseIdx j).map fun p => (kV p, V.sc (.bool true)) := by
    intro es
    induction es with
    | nil => intro ks j h; cases ks with
      | nil => rfl
      | cons _ _ => simp at h
    | cons e es ih => intro ks j h; cases ks with
      | nil => simp at h
      | cons q ks =>
        simp only [List.map_cons, List.cons.injEq] at h
        cases j with
        | zero => simpa using h.2
        | succ j => simp only [List.eraseIdx_cons_succ, List.map_cons, List.cons.injEq]; exact ⟨h.1, ih ks j h.2⟩
  exact e es ks j h.ents⟩
theorem Mp.modify {es : List (V × V × Nat)} {ks : List (Int × Int)} (h : Mp es ks) {p : Int × Int} {j : Nat} (hj : ks.findIdx? (· == p) = some j) : Mp (es.modify j fun e => (kV p, .sc (.bool true), e.2.2)) ks := ⟨by
  obtain ⟨h1, h2, _⟩ := List.findIdx?_eq_some_iff_getElem.1 hj
  rw [← h.ents]
  apply List.ext_getElem?
  intro i
  rw [List.getElem?_map, List.getElem?_map, List.getElem?_modify]
  have e := congrArg (fun l => l[i]?) h.ents
  simp only [List.getElem?_map] at e
  by_cases hi : j = i
  · subst hi
    rw [List.getElem?_eq_getElem h1] at e
    cases hx : es[j]? with
    | none => rfl
    | some x =>
      rw [hx] at e
      simp only [Option.map_some, Option.some.injEq] at e
      obtain ⟨ea, eb⟩ := Prod.mk.inj e
      simp [ea, eb, eq_of_beq h2]
  · simp [hi]⟩

def nturn (N : NS) (a b : Int) (cut : Bool) : NS × Int :=
  if okA a = false ∨ okA b = false ∨ a = b then (N, 2) else if cut = true then ({ N with ks := if lk a b ∈ N.ks then N.ks else N.ks ++ [lk a b] }, 0) else ({ N with ks := match N.ks.findIdx? (· == lk a b) with | some j => N.ks.eraseIdx j | none => N.ks }, 0)

theorem turn_ok (k : Nat) (ys : YlF) (σ : St) (n mo : Nat) (fo : Option Nat) (N : NS) (a b : Int) (t : Bool) (h : NR σ n mo fo N) :
    W (callY Tab.tbl (k + 2) ys 27 [.ptr n 0, .sc (.int .i64 a), .sc (.int .i64 b), .sc (.bool t)] σ) fun o => o.1 = .sc (.int .i64 (nturn N a b t).2) ∧ NR o.2 n mo fo (nturn N a b t).1 ∧ Mv (NX n mo fo) σ (NX n mo fo) o.2 := by
  rw [s_call (af := Tab.a27) rfl (by simp [Tab.a27])]
  have hadr := fun σ => address_ok k ys σ
  have hof := of_ok k ys σ a b
  generalize callY Tab.tbl (k + 1) = cy at hadr hof ⊢
  obtain ⟨f, es, c, h1, h2, h3, h4, h5⟩ := id h
  unfold nturn
  cases ha : okA a with
  | false =>
    simp -implicitDefEqProofs (disch := first | (simp only [ne_eq, reduceCtorEq, not_false_eq_true]; done) | (simp -implicitDefEqProofs only [St.n_push, St.n_put]; done) | (simp -implicitDefEqProofs only [St.n_push, St.n_put]; omega) | omega) only [Tab.a27, hadr, ha, true_or, aCallv, aPtrEq, s_nil, s_cons, s_consG, s_op, s_gtt, s_gff, s_gtf, s_gft, s_region, s_reg, s_seq, s_seqn, s_seqr, s_seqe, s_skip, s_ret, s_exit, s_cond, s_condt, s_condf, s_block, s_blockn, s_blockr, s_blocke, s_finr, s_finn, AOp.run, AO.eval, put, Option.map_some, Option.map_none, upd_self, upd_other, ne_eq, reduceCtorEq, not_false_eq_true, aInt, Nat.reduceEqDiff, initEnv, List.getElem?_cons_zero, List.getElem?_cons_succ, Option.getD_some, Bool.false_eq_true, if_false, if_true, V.bool, V.i64, resultsOf, List.mapM_cons, List.mapM_nil, AR.get, Option.bind_eq_bind, Option.bind_some, Option.pure_def, beq_tt, beq_tf, beq_ft, beq_ff, Bool.not_true, Bool.not_false, Nat.succ_ne_zero, List.map_cons, List.map_nil, aExtract, aUn, Int.reduceEq, Int.reduceBEq, Int.reduceBNe, BEq.rfl, aBox, aLoad, aStore, aPart, aPlace, aArrAddr, aArrIdx, aIdx, aLenStr, aConv, aFold, aMinMax, aEqV, aNilCheck, splice, fillV, V.cellsOf, V.oneCell, List.all_cons, List.all_nil, Bool.and_true, Bool.and_self, Option.map_some, Option.bind_some, List.drop_succ_cons, List.drop_zero, List.take_succ_cons, List.take_zero, List.length_cons, List.length_nil, Nat.reduceAdd, Nat.zero_add, Nat.add_zero, Nat.reduceLeDiff, Nat.reduceMul, Nat.mul_one, List.cons_append, List.nil_append, St.n_push, St.n_put, get_push_eq, get_push_ne, get_put_eq, get_put_ne, w_some, Nat.le_refl, true_and, and_true, and_self, List.append_nil, b_add, b_sub, b_mul, b_quo, b_rem, b_and, b_or, b_xor, b_eql, b_neq, b_lss, b_leq, b_gtr, b_geq, Int.cast_ofNat_Int, Int.toNat_zero, Int.toNat_one, Int.reduceLT, Int.reduceLE, Int.reduceToNat, Int.reduceGT, Int.reduceGE, Int.reduceNeg, decide_true, decide_false, Int.reduceAdd, Int.reduceSub, bne_self_eq_false, wrap64, d_draw, d_nil, d_e, d_cons, d_consG, d_op, d_gtt, d_gff, d_gtf, d_gft, chkAdd, effAdd, AOp.kind, chkAll, chkSee, Bool.and_true, Bool.true_and, Nat.reduceLT, s_gu, d_gu]
    exact ⟨h, Mv.refl _ _⟩
  | true =>
  cases hb : okA b with
  | false =>
    simp -implicitDefEqProofs (disch := first | (simp only [ne_eq, reduceCtorEq, not_false_eq_true]; done) | (simp -implicitDefEqProofs only [St.n_push, St.n_put]; done) | (simp -implicitDefEqProofs only [St.n_push, St.n_put]; omega) | omega) only [Tab.a27, hadr, ha, hb, true_or, or_true, aCallv, aPtrEq, s_nil, s_cons, s_consG, s_op, s_gtt, s_gff, s_gtf, s_gft, s_region, s_reg, s_seq, s_seqn, s_seqr, s_seqe, s_skip, s_ret, s_exit, s_cond, s_condt, s_condf, s_block, s_blockn, s_blockr, s_blocke, s_finr, s_finn, AOp.run, AO.eval, put, Option.map_some, Option.map_none, upd_self, upd_other, ne_eq, reduceCtorEq, not_false_eq_true, aInt, Nat.reduceEqDiff, initEnv, List.getElem?_cons_zero, List.getElem?_cons_succ, Option.getD_some, Bool.false_eq_true, if_false, if_true, V.bool, V.i64, resultsOf, List.mapM_cons, List.mapM_nil, AR.get, Option.bind_eq_bind, Option.bind_some, Option.pure_def, beq_tt, beq_tf, beq_ft, beq_ff, Bool.not_true, Bool.not_false, Nat.succ_ne_zero, List.map_cons, List.map_nil, aExtract, aUn, Int.reduceEq, Int.reduceBEq, Int.reduceBNe, BEq.rfl, aBox, aLoad, aStore, aPart, aPlace, aArrAddr, aArrIdx, aIdx, aLenStr, aConv, aFold, aMinMax, aEqV, aNilCheck, splice, fillV, V.cellsOf, V.oneCell, List.all_cons, List.all_nil, Bool.and_true, Bool.and_self, Option.map_some, Option.bind_some, List.drop_succ_cons, List.drop_zero, List.take_succ_cons, List.take_zero, List.length_cons, List.length_nil, Nat.reduceAdd, Nat.zero_add, Nat.add_zero, Nat.reduceLeDiff, Nat.reduceMul, Nat.mul_one, List.cons_append, List.nil_append, St.n_push, St.n_put, get_push_eq, get_push_ne, get_put_eq, get_put_ne, w_some, Nat.le_refl, true_and, and_true, and_self, List.append_nil, b_add, b_sub, b_mul, b_quo, b_rem, b_and, b_or, b_xor, b_eql, b_neq, b_lss, b_leq, b_gtr, b_geq, Int.cast_ofNat_Int, Int.toNat_zero, Int.toNat_one, Int.reduceLT, Int.reduceLE, Int.reduceToNat, Int.reduceGT, Int.reduceGE, Int.reduceNeg, decide_true, decide_false, Int.reduceAdd, Int.reduceSub, bne_self_eq_false, wrap64, d_draw, d_nil, d_e, d_cons, d_consG, d_op, d_gtt, d_gff, d_gtf, d_gft, chkAdd, effAdd, AOp.kind, chkAll, chkSee, Bool.and_true, Bool.true_and, Nat.reduceLT, s_gu, d_gu]
    exact ⟨h, Mv.refl _ _⟩
  | true =>
  by_cases hab : a = b
  · have c1 : (a == b) = true := by simpa using hab
    simp -implicitDefEqProofs (disch := first | (simp only [ne_eq, reduceCtorEq, not_false_eq_true]; done) | (simp -implicitDefEqProofs only [St.n_push, St.n_put]; done) | (simp -implicitDefEqProofs only [St.n_push, St.n_put]; omega) | omega) only [Tab.a27, hadr, ha, hb, or_self, c1, hab, false_or, aCallv, aPtrEq, s_nil, s_cons, s_consG, s_op, s_gtt, s_gff, s_gtf, s_gft, s_region, s_reg, s_seq, s_seqn, s_seqr, s_seqe, s_skip, s_ret, s_exit, s_cond, s_condt, s_condf, s_block, s_blockn, s_blockr, s_blocke, s_finr, s_finn, AOp.run, AO.eval, put, Option.map_some, Option.map_none, upd_self, upd_other, ne_eq, reduceCtorEq, not_false_eq_true, aInt, Nat.reduceEqDiff, initEnv, List.getElem?_cons_zero, List.getElem?_cons_succ, Option.getD_some, Bool.false_eq_true, if_false, if_true, V.bool, V.i64, resultsOf, List.mapM_cons, List.mapM_nil, AR.get, Option.bind_eq_bind, Option.bind_some, Option.pure_def, beq_tt, beq_tf, beq_ft, beq_ff, Bool.not_true, Bool.not_false, Nat.succ_ne_zero, List.map_cons, List.map_nil, aExtract, aUn, Int.reduceEq, Int.reduceBEq, Int.reduceBNe, BEq.rfl, aBox, aLoad, aStore, aPart, aPlace, aArrAddr, aArrIdx, aIdx, aLenStr, aConv, aFold, aMinMax, aEqV, aNilCheck, splice, fillV, V.cellsOf, V.oneCell, List.all_cons, List.all_nil, Bool.and_true, Bool.and_self, Option.map_some, Option.bind_some, List.drop_succ_cons, List.drop_zero, List.take_succ_cons, List.take_zero, List.length_cons, List.length_nil, Nat.reduceAdd, Nat.zero_add, Nat.add_zero, Nat.reduceLeDiff, Nat.reduceMul, Nat.mul_one, List.cons_append, List.nil_append, St.n_push, St.n_put, get_push_eq, get_push_ne, get_put_eq, get_put_ne, w_some, Nat.le_refl, true_and, and_true, and_self, List.append_nil, b_add, b_sub, b_mul, b_quo, b_rem, b_and, b_or, b_xor, b_eql, b_neq, b_lss, b_leq, b_gtr, b_geq, Int.cast_ofNat_Int, Int.toNat_zero, Int.toNat_one, Int.reduceLT, Int.reduceLE, Int.reduceToNat, Int.reduceGT, Int.reduceGE, Int.reduceNeg, decide_true, decide_false, Int.reduceAdd, Int.reduceSub, bne_self_eq_false, wrap64, d_draw, d_nil, d_e, d_cons, d_consG, d_op, d_gtt, d_gff, d_gtf, d_gft, chkAdd, effAdd, AOp.kind, chkAll, chkSee, Bool.and_true, Bool.true_and, Nat.reduceLT, s_gu, d_gu]
    exact ⟨h, Mv.refl _ _⟩
  have c1 : (a == b) = false := by simpa using hab
  obtain ⟨σ1, hof, k1⟩ := hof
  have g1 := k1.get n _ (fun h => h) h1
  have g3 := k1.get mo _ (fun h => h) h3
  have hk2 := key2 σ1 (lk a b).1 (lk a b).2
  have h0 := h.kept0 k1
  have hn := St.get_lt g1
  have hm := St.get_lt g3
  have hnm : n ≠ mo := by rintro rfl; rw [g1] at g3; cases g3
  have hfm := h2.ne_map h3
  have fin : ∀ (es' : List (V × V × Nat)) (c' : Nat) (ks' : List (Int × Int)), Mp es' ks' → NR (σ1.put mo (some (.map es' c'))) n mo fo { N with ks := ks' } ∧ Mv (NX n mo fo) σ (NX n mo fo) (σ1.put mo (some (.map es' c'))) := by
    intro es' c' ks' hm'
    refine ⟨⟨f, es', c', get_put_other hm hnm g1, ?_, get_put_self g3, hm', h5⟩, ⟨(k1.sub fun _ h => h.elim).put (.inl (.inr (.inl rfl))) hm _, fun _ h => .inl h⟩⟩
    exact (h2.kept k1 (fun _ _ h => h)).kept ((Kept.refl (· = mo) σ1).put (.inl rfl) hm _) (fun p hp hq => hfm (hq ▸ hp))
  cases t with
  | true =>
    by_cases hc : lk a b ∈ N.ks
    · obtain ⟨j, hj1, hj2, hr⟩ := look2 h4 hc
      simp -implicitDefEqProofs (disch := first | (simp only [ne_eq, reduceCtorEq, not_false_eq_true]; done) | (simp -implicitDefEqProofs only [St.n_push, St.n_put]; done) | (simp -implicitDefEqProofs only [St.n_push, St.n_put]; omega) | omega) only [Tab.a27, hadr, ha, hb, or_self, c1, hab, hof, g1, h1, XOp.run, XOp.kind, aEnts, g3, hk2, hr, hc, kV, V.plain, V.flat, aCallv, aPtrEq, s_nil, s_cons, s_consG, s_op, s_gtt, s_gff, s_gtf, s_gft, s_region, s_reg, s_seq, s_seqn, s_seqr, s_seqe, s_skip, s_ret, s_exit, s_cond, s_condt, s_condf, s_block, s_blockn, s_blockr, s_blocke, s_finr, s_finn, AOp.run, AO.eval, put, Option.map_some, Option.map_none, upd_self, upd_other, ne_eq, reduceCtorEq, not_false_eq_true, aInt, Nat.reduceEqDiff, initEnv, List.getElem?_cons_zero, List.getElem?_cons_succ, Option.getD_some, Bool.false_eq_true, if_false, if_true, V.bool, V.i64, resultsOf, List.mapM_cons, List.mapM_nil, AR.get, Option.bind_eq_bind, Option.bind_some, Option.pure_def, beq_tt, beq_tf, beq_ft, beq_ff, Bool.not_true, Bool.not_false, Nat.succ_ne_zero, List.map_cons, List.map_nil, aExtract, aUn, Int.reduceEq, Int.reduceBEq, Int.reduceBNe, BEq.rfl, aBox, aLoad, aStore, aPart, aPlace, aArrAddr, aArrIdx, aIdx, aLenStr, aConv, aFold, aMinMax, aEqV, aNilCheck, splice, fillV, V.cellsOf, V.oneCell, List.all_cons, List.all_nil, Bool.and_true, Bool.and_self, Option.map_some, Option.bind_some, List.drop_succ_cons, List.drop_zero, List.take_succ_cons, List.take_zero, List.length_cons, List.length_nil, Nat.reduceAdd, Nat.zero_add, Nat.add_zero, Nat.reduceLeDiff, Nat.reduceMul, Nat.mul_one, List.cons_append, List.nil_append, St.n_push, St.n_put, get_push_eq, get_push_ne, get_put_eq, get_put_ne, w_some, Nat.le_refl, true_and, and_true, and_self, List.append_nil, b_add, b_sub, b_mul, b_quo, b_rem, b_and, b_or, b_xor, b_eql, b_neq, b_lss, b_leq, b_gtr, b_geq, Int.cast_ofNat_Int, Int.toNat_zero, Int.toNat_one, Int.reduceLT, Int.reduceLE, Int.reduceToNat, Int.reduceGT, Int.reduceGE, Int.reduceNeg, decide_true, decide_false, Int.reduceAdd, Int.reduceSub, bne_self_eq_false, wrap64, d_draw, d_nil, d_e, d_cons, d_consG, d_op, d_gtt, d_gff, d_gtf, d_gft, chkAdd, effAdd, AOp.kind, chkAll, chkSee, Bool.and_true, Bool.true_and, Nat.reduceLT, s_gu, d_gu]
      exact fin _ _ _ (h4.modify hj2)
    · have hr := look2n h4 hc
      simp -implicitDefEqProofs (disch := first | (simp only [ne_eq, reduceCtorEq, not_false_eq_true]; done) | (simp -implicitDefEqProofs only [St.n_push, St.n_put]; done) | (simp -implicitDefEqProofs only [St.n_push, St.n_put]; omega) | omega) only [Tab.a27, hadr, ha, hb, or_self, c1, hab, hof, g1, h1, XOp.run, XOp.kind, aEnts, g3, hk2, hr, hc, aCallv, aPtrEq, s_nil, s_cons, s_consG, s_op, s_gtt, s_gff, s_gtf, s_gft, s_region, s_reg, s_seq, s_seqn, s_seqr, s_seqe, s_skip, s_ret, s_exit, s_cond, s_condt, s_condf, s_block, s_blockn, s_blockr, s_blocke, s_finr, s_finn, AOp.run, AO.eval, put, Option.map_some, Option.map_none, upd_self, upd_other, ne_eq, reduceCtorEq, not_false_eq_true, aInt, Nat.reduceEqDiff, initEnv, List.getElem?_cons_zero, List.getElem?_cons_succ, Option.getD_some, Bool.false_eq_true, if_false, if_true, V.bool, V.i64, resultsOf, List.mapM_cons, List.mapM_nil, AR.get, Option.bind_eq_bind, Option.bind_some, Option.pure_def, beq_tt, beq_tf, beq_ft, beq_ff, Bool.not_true, Bool.not_false, Nat.succ_ne_zero, List.map_cons, List.map_nil, aExtract, aUn, Int.reduceEq, Int.reduceBEq, Int.reduceBNe, BEq.rfl, aBox, aLoad, aStore, aPart, aPlace, aArrAddr, aArrIdx, aIdx, aLenStr, aConv, aFold, aMinMax, aEqV, aNilCheck, splice, fillV, V.cellsOf, V.oneCell, List.all_cons, List.all_nil, Bool.and_true, Bool.and_self, Option.map_some, Option.bind_some, List.drop_succ_cons, List.drop_zero, List.take_succ_cons, List.take_zero, List.length_cons, List.length_nil, Nat.reduceAdd, Nat.zero_add, Nat.add_zero, Nat.reduceLeDiff, Nat.reduceMul, Nat.mul_one, List.cons_append, List.nil_append, St.n_push, St.n_put, get_push_eq, get_push_ne, get_put_eq, get_put_ne, w_some, Nat.le_refl, true_and, and_true, and_self, List.append_nil, b_add, b_sub, b_mul, b_quo, b_rem, b_and, b_or, b_xor, b_eql, b_neq, b_lss, b_leq, b_gtr, b_geq, Int.cast_ofNat_Int, Int.toNat_zero, Int.toNat_one, Int.reduceLT, Int.reduceLE, Int.reduceToNat, Int.reduceGT, Int.reduceGE, Int.reduceNeg, decide_true, decide_false, Int.reduceAdd, Int.reduceSub, bne_self_eq_false, wrap64, d_draw, d_nil, d_e, d_cons, d_consG, d_op, d_gtt, d_gff, d_gtf, d_gft, chkAdd, effAdd, AOp.kind, chkAll, chkSee, Bool.and_true, Bool.true_and, Nat.reduceLT, s_gu, d_gu]
      exact fin _ _ _ (h4.append _ _)
  | false =>
    by_cases hc : lk a b ∈ N.ks
    · obtain ⟨j, hj1, hj2, hr⟩ := look2 h4 hc
      simp -implicitDefEqProofs (disch := first | (simp only [ne_eq, reduceCtorEq, not_false_eq_true]; done) | (simp -implicitDefEqProofs only [St.n_push, St.n_put]; done) | (simp -implicitDefEqProofs only [St.n_push, St.n_put]; omega) | omega) only [Tab.a27, hadr, ha, hb, or_self, c1, hab, hof, g1, h1, XOp.run, XOp.kind, aEnts, g3, hk2, hr, hj2, aCallv, aPtrEq, s_nil, s_cons, s_consG, s_op, s_gtt, s_gff, s_gtf, s_gft, s_region, s_reg, s_seq, s_seqn, s_seqr, s_seqe, s_skip, s_ret, s_exit, s_cond, s_condt, s_condf, s_block, s_blockn, s_blockr, s_blocke, s_finr, s_finn, AOp.run, AO.eval, put, Option.map_some, Option.map_none, upd_self, upd_other, ne_eq, reduceCtorEq, not_false_eq_true, aInt, Nat.reduceEqDiff, initEnv, List.getElem?_cons_zero, List.getElem?_cons_succ, Option.getD_some, Bool.false_eq_true, if_false, if_true, V.bool, V.i64, resultsOf, List.mapM_cons, List.mapM_nil, AR.get, Option.bind_eq_bind, Option.bind_some, Option.pure_def, beq_tt, beq_tf, beq_ft, beq_ff, Bool.not_true, Bool.not_false, Nat.succ_ne_zero, List.map_cons, List.map_nil, aExtract, aUn, Int.reduceEq, Int.reduceBEq, Int.reduceBNe, BEq.rfl, aBox, aLoad, aStore, aPart, aPlace, aArrAddr, aArrIdx, aIdx, aLenStr, aConv, aFold, aMinMax, aEqV, aNilCheck, splice, fillV, V.cellsOf, V.oneCell, List.all_cons, List.all_nil, Bool.and_true, Bool.and_self, Option.map_some, Option.bind_some, List.drop_succ_cons, List.drop_zero, List.take_succ_cons, List.take_zero, List.length_cons, List.length_nil, Nat.reduceAdd, Nat.zero_add, Nat.add_zero, Nat.reduceLeDiff, Nat.reduceMul, Nat.mul_one, List.cons_append, List.nil_append, St.n_push, St.n_put, get_push_eq, get_push_ne, get_put_eq, get_put_ne, w_some, Nat.le_refl, true_and, and_true, and_self, List.append_nil, b_add, b_sub, b_mul, b_quo, b_rem, b_and, b_or, b_xor, b_eql, b_neq, b_lss, b_leq, b_gtr, b_geq, Int.cast_ofNat_Int, Int.toNat_zero, Int.toNat_one, Int.reduceLT, Int.reduceLE, Int.reduceToNat, Int.reduceGT, Int.reduceGE, Int.reduceNeg, decide_true, decide_false, Int.reduceAdd, Int.reduceSub, bne_self_eq_false, wrap64, d_draw, d_nil, d_e, d_cons, d_consG, d_op, d_gtt, d_gff, d_gtf, d_gft, chkAdd, effAdd, AOp.kind, chkAll, chkSee, Bool.and_true, Bool.true_and, Nat.reduceLT, s_gu, d_gu]
      exact fin _ _ _ (h4.erase j)
    · have hr := look2n h4 hc
      have hj2 : N.ks.findIdx? (· == lk a b) = none := by
        rw [List.findIdx?_eq_none_iff]
        intro x hx
        cases hq : x == lk a b
        · rfl
        · exact absurd (eq_of_beq hq ▸ hx) hc
      simp -implicitDefEqProofs (disch := first | (simp only [ne_eq, reduceCtorEq, not_false_eq_true]; done) | (simp -implicitDefEqProofs only [St.n_push, St.n_put]; done) | (simp -implicitDefEqProofs only [St.n_push, St.n_put]; omega) | omega) only [Tab.a27, hadr, ha, hb, or_self, c1, hab, hof, g1, h1, XOp.run, XOp.kind, aEnts, g3, hk2, hr, hj2, aCallv, aPtrEq, s_nil, s_cons, s_consG, s_op, s_gtt, s_gff, s_gtf, s_gft, s_region, s_reg, s_seq, s_seqn, s_seqr, s_seqe, s_skip, s_ret, s_exit, s_cond, s_condt, s_condf, s_block, s_blockn, s_blockr, s_blocke, s_finr, s_finn, AOp.run, AO.eval, put, Option.map_some, Option.map_none, upd_self, upd_other, ne_eq, reduceCtorEq, not_false_eq_true, aInt, Nat.reduceEqDiff, initEnv, List.getElem?_cons_zero, List.getElem?_cons_succ, Option.getD_some, Bool.false_eq_true, if_false, if_true, V.bool, V.i64, resultsOf, List.mapM_cons, List.mapM_nil, AR.get, Option.bind_eq_bind, Option.bind_some, Option.pure_def, beq_tt, beq_tf, beq_ft, beq_ff, Bool.not_true, Bool.not_false, Nat.succ_ne_zero, List.map_cons, List.map_nil, aExtract, aUn, Int.reduceEq, Int.reduceBEq, Int.reduceBNe, BEq.rfl, aBox, aLoad, aStore, aPart, aPlace, aArrAddr, aArrIdx, aIdx, aLenStr, aConv, aFold, aMinMax, aEqV, aNilCheck, splice, fillV, V.cellsOf, V.oneCell, List.all_cons, List.all_nil, Bool.and_true, Bool.and_self, Option.map_some, Option.bind_some, List.drop_succ_cons, List.drop_zero, List.take_succ_cons, List.take_zero, List.length_cons, List.length_nil, Nat.reduceAdd, Nat.zero_add, Nat.add_zero, Nat.reduceLeDiff, Nat.reduceMul, Nat.mul_one, List.cons_append, List.nil_append, St.n_push, St.n_put, get_push_eq, get_push_ne, get_put_eq, get_put_ne, w_some, Nat.le_refl, true_and, and_true, and_self, List.append_nil, b_add, b_sub, b_mul, b_quo, b_rem, b_and, b_or, b_xor, b_eql, b_neq, b_lss, b_leq, b_gtr, b_geq, Int.cast_ofNat_Int, Int.toNat_zero, Int.toNat_one, Int.reduceLT, Int.reduceLE, Int.reduceToNat, Int.reduceGT, Int.reduceGE, Int.reduceNeg, decide_true, decide_false, Int.reduceAdd, Int.reduceSub, bne_self_eq_false, wrap64, d_draw, d_nil, d_e, d_cons, d_consG, d_op, d_gtt, d_gff, d_gtf, d_gft, chkAdd, effAdd, AOp.kind, chkAll, chkSee, Bool.and_true, Bool.true_and, Nat.reduceLT, s_gu, d_gu]
      exact fin _ _ _ h4

theorem cut_ok (k : Nat) (ys : YlF) (σ : St) (n mo : Nat) (fo : Option Nat) (N : NS) (a b : Int) (h : NR σ n mo fo N) :
    W (callY Tab.tbl (k + 3) ys 13 [.ptr n 0, .sc (.int .i64 a), .sc (.int .i64 b)] σ) fun o => o.1 = .sc (.int .i64 (nturn N a b true).2) ∧ NR o.2 n mo fo (nturn N a b true).1 ∧ Mv (NX n mo fo) σ (NX n mo fo) o.2 := by
  rw [s_call (af := Tab.a13) rfl (by simp [Tab.a13])]
  have hc := turn_ok k ys σ n mo fo N a b true h
  generalize callY Tab.tbl (k + 2) = cy at hc ⊢
  simp -implicitDefEqProofs (disch := first | (simp only [ne_eq, reduceCtorEq, not_false_eq_true]; done) | (simp -implicitDefEqProofs only [St.n_push, St.n_put]; done) | (simp -implicitDefEqProofs only [St.n_push, St.n_put]; omega) | omega) only [Tab.a13, aCallv, aPtrEq, s_nil, s_cons, s_consG, s_op, s_gtt, s_gff, s_gtf, s_gft, s_region, s_reg, s_seq, s_seqn, s_seqr, s_seqe, s_skip, s_ret, s_exit, s_cond, s_condt, s_condf, s_block, s_blockn, s_blockr, s_blocke, s_finr, s_finn, AOp.run, AO.eval, put, Option.map_some, Option.map_none, upd_self, upd_other, ne_eq, reduceCtorEq, not_false_eq_true, aInt, Nat.reduceEqDiff, initEnv, List.getElem?_cons_zero, List.getElem?_cons_succ, Option.getD_some, Bool.false_eq_true, if_false, if_true, V.bool, V.i64, resultsOf, List.mapM_cons, List.mapM_nil, AR.get, Option.bind_eq_bind, Option.bind_some, Option.pure_def, beq_tt, beq_tf, beq_ft, beq_ff, Bool.not_true, Bool.not_false, Nat.succ_ne_zero, List.map_cons, List.map_nil, aExtract, aUn, Int.reduceEq, Int.reduceBEq, Int.reduceBNe, BEq.rfl, aBox, aLoad, aStore, aPart, aPlace, aArrAddr, aArrIdx, aIdx, aLenStr, aConv, aFold, aMinMax, aEqV, aNilCheck, splice, fillV, V.cellsOf, V.oneCell, List.all_cons, List.all_nil, Bool.and_true, Bool.and_self, Option.map_some, Option.bind_some, List.drop_succ_cons, List.drop_zero, List.take_succ_cons, List.take_zero, List.length_cons, List.length_nil, Nat.reduceAdd, Nat.zero_add, Nat.add_zero, Nat.reduceLeDiff, Nat.reduceMul, Nat.mul_one, List.cons_append, List.nil_append, St.n_push, St.n_put, get_push_eq, get_push_ne, get_put_eq, get_put_ne, w_some, Nat.le_refl, true_and, and_true, and_self, List.append_nil, b_add, b_sub, b_mul, b_quo, b_rem, b_and, b_or, b_xor, b_eql, b_neq, b_lss, b_leq, b_gtr, b_geq, Int.cast_ofNat_Int, Int.toNat_zero, Int.toNat_one, Int.reduceLT, Int.reduceLE, Int.reduceToNat, Int.reduceGT, Int.reduceGE, Int.reduceNeg, decide_true, decide_false, Int.reduceAdd, Int.reduceSub, bne_self_eq_false, wrap64, d_draw, d_nil, d_e, d_cons, d_consG, d_op, d_gtt, d_gff, d_gtf, d_gft, chkAdd, effAdd, AOp.kind, chkAll, chkSee, Bool.and_true, Bool.true_and, Nat.reduceLT, s_gu, d_gu]
  repeat (first | refine w_fin ?_ | refine w_seq ?_ | refine w_block ?_ | refine w_reg ?_ | refine w_op ?_ | refine w_dop ?_)
  refine hc.mono ?_
  rintro ⟨_, σ2⟩ ⟨rfl, h6, h7⟩
  simp -implicitDefEqProofs (disch := first | (simp only [ne_eq, reduceCtorEq, not_false_eq_true]; done) | (simp -implicitDefEqProofs only [St.n_push, St.n_put]; done) | (simp -implicitDefEqProofs only [St.n_push, St.n_put]; omega) | omega) only [aCallv, aPtrEq, s_nil, s_cons, s_consG, s_op, s_gtt, s_gff, s_gtf, s_gft, s_region, s_reg, s_seq, s_seqn, s_seqr, s_seqe, s_skip, s_ret, s_exit, s_cond, s_condt, s_condf, s_block, s_blockn, s_blockr, s_blocke, s_finr, s_finn, AOp.run, AO.eval, put, Option.map_some, Option.map_none, upd_self, upd_other, ne_eq, reduceCtorEq, not_false_eq_true, aInt, Nat.reduceEqDiff, initEnv, List.getElem?_cons_zero, List.getElem?_cons_succ, Option.getD_some, Bool.false_eq_true, if_false, if_true, V.bool, V.i64, resultsOf, List.mapM_cons, List.mapM_nil, AR.get, Option.bind_eq_bind, Option.bind_some, Option.pure_def, beq_tt, beq_tf, beq_ft, beq_ff, Bool.not_true, Bool.not_false, Nat.succ_ne_zero, List.map_cons, List.map_nil, aExtract, aUn, Int.reduceEq, Int.reduceBEq, Int.reduceBNe, BEq.rfl, aBox, aLoad, aStore, aPart, aPlace, aArrAddr, aArrIdx, aIdx, aLenStr, aConv, aFold, aMinMax, aEqV, aNilCheck, splice, fillV, V.cellsOf, V.oneCell, List.all_cons, List.all_nil, Bool.and_true, Bool.and_self, Option.map_some, Option.bind_some, List.drop_succ_cons, List.drop_zero, List.take_succ_cons, List.take_zero, List.length_cons, List.length_nil, Nat.reduceAdd, Nat.zero_add, Nat.add_zero, Nat.reduceLeDiff, Nat.reduceMul, Nat.mul_one, List.cons_append, List.nil_append, St.n_push, St.n_put, get_push_eq, get_push_ne, get_put_eq, get_put_ne, w_some, Nat.le_refl, true_and, and_true, and_self, List.append_nil, b_add, b_sub, b_mul, b_quo, b_rem, b_and, b_or, b_xor, b_eql, b_neq, b_lss, b_leq, b_gtr, b_geq, Int.cast_ofNat_Int, Int.toNat_zero, Int.toNat_one, Int.reduceLT, Int.reduceLE, Int.reduceToNat, Int.reduceGT, Int.reduceGE, Int.reduceNeg, decide_true, decide_false, Int.reduceAdd, Int.reduceSub, bne_self_eq_false, wrap64, d_draw, d_nil, d_e, d_cons, d_consG, d_op, d_gtt, d_gff, d_gtf, d_gft, chkAdd, effAdd, AOp.kind, chkAll, chkSee, Bool.and_true, Bool.true_and, Nat.reduceLT, s_gu, d_gu]
  exact ⟨h6, h7⟩
theorem heal_ok (k : Nat) (ys : YlF) (σ : St) (n mo : Nat) (fo : Option Nat) (N : NS) (a b : Int) (h : NR σ n mo fo N) :
    W (callY Tab.tbl (k + 3) ys 29 [.ptr n 0, .sc (.int .i64 a), .sc (.int .i64 b)] σ) fun o => o.1 = .sc (.int .i64 (nturn N a b false).2) ∧ NR o.2 n mo fo (nturn N a b false).1 ∧ Mv (NX n mo fo) σ (NX n mo fo) o.2 := by
  rw [s_call (af := Tab.a29) rfl (by simp [Tab.a29])]
  have hc := turn_ok k ys σ n mo fo N a b false h
  generalize callY Tab.tbl (k + 2) = cy at hc ⊢
  simp -implicitDefEqProofs (disch := first | (simp only [ne_eq, reduceCtorEq, not_false_eq_true]; done) | (simp -implicitDefEqProofs only [St.n_push, St.n_put]; done) | (simp -implicitDefEqProofs only [St.n_push, St.n_put]; omega) | omega) only [Tab.a29, aCallv, aPtrEq, s_nil, s_cons, s_consG, s_op, s_gtt, s_gff, s_gtf, s_gft, s_region, s_reg, s_seq, s_seqn, s_seqr, s_seqe, s_skip, s_ret, s_exit, s_cond, s_condt, s_condf, s_block, s_blockn, s_blockr, s_blocke, s_finr, s_finn, AOp.run, AO.eval, put, Option.map_some, Option.map_none, upd_self, upd_other, ne_eq, reduceCtorEq, not_false_eq_true, aInt, Nat.reduceEqDiff, initEnv, List.getElem?_cons_zero, List.getElem?_cons_succ, Option.getD_some, Bool.false_eq_true, if_false, if_true, V.bool, V.i64, resultsOf, List.mapM_cons, List.mapM_nil, AR.get, Option.bind_eq_bind, Option.bind_some, Option.pure_def, beq_tt, beq_tf, beq_ft, beq_ff, Bool.not_true, Bool.not_false, Nat.succ_ne_zero, List.map_cons, List.map_nil, aExtract, aUn, Int.reduceEq, Int.reduceBEq, Int.reduceBNe, BEq.rfl, aBox, aLoad, aStore, aPart, aPlace, aArrAddr, aArrIdx, aIdx, aLenStr, aConv, aFold, aMinMax, aEqV, aNilCheck, splice, fillV, V.cellsOf, V.oneCell, List.all_cons, List.all_nil, Bool.and_true, Bool.and_self, Option.map_some, Option.bind_some, List.drop_succ_cons, List.drop_zero, List.take_succ_cons, List.take_zero, List.length_cons, List.length_nil, Nat.reduceAdd, Nat.zero_add, Nat.add_zero, Nat.reduceLeDiff, Nat.reduceMul, Nat.mul_one, List.cons_append, List.nil_append, St.n_push, St.n_put, get_push_eq, get_push_ne, get_put_eq, get_put_ne, w_some, Nat.le_refl, true_and, and_true, and_self, List.append_nil, b_add, b_sub, b_mul, b_quo, b_rem, b_and, b_or, b_xor, b_eql, b_neq, b_lss, b_leq, b_gtr, b_geq, Int.cast_ofNat_Int, Int.toNat_zero, Int.toNat_one, Int.reduceLT, Int.reduceLE, Int.reduceToNat, Int.reduceGT, Int.reduceGE, Int.reduceNeg, decide_true, decide_false, Int.reduceAdd, Int.reduceSub, bne_self_eq_false, wrap64, d_draw, d_nil, d_e, d_cons, d_consG, d_op, d_gtt, d_gff, d_gtf, d_gft, chkAdd, effAdd, AOp.kind, chkAll, chkSee, Bool.and_true, Bool.true_and, Nat.reduceLT, s_gu, d_gu]
  repeat (first | refine w_fin ?_ | refine w_seq ?_ | refine w_block ?_ | refine w_reg ?_ | refine w_op ?_ | refine w_dop ?_)
  refine hc.mono ?_
  rintro ⟨_, σ2⟩ ⟨rfl, h6, h7⟩
  simp -implicitDefEqProofs (disch := first | (simp only [ne_eq, reduceCtorEq, not_false_eq_true]; done) | (simp -implicitDefEqProofs only [St.n_push, St.n_put]; done) | (simp -implicitDefEqProofs only [St.n_push, St.n_put]; omega) | omega) only [aCallv, aPtrEq, s_nil, s_cons, s_consG, s_op, s_gtt, s_gff, s_gtf, s_gft, s_region, s_reg, s_seq, s_seqn, s_seqr, s_seqe, s_skip, s_ret, s_exit, s_cond, s_condt, s_condf, s_block, s_blockn, s_blockr, s_blocke, s_finr, s_finn, AOp.run, AO.eval, put, Option.map_some, Option.map_none, upd_self, upd_other, ne_eq, reduceCtorEq, not_false_eq_true, aInt, Nat.reduceEqDiff, initEnv, List.getElem?_cons_zero, List.getElem?_cons_succ, Option.getD_some, Bool.false_eq_true, if_false, if_true, V.bool, V.i64, resultsOf, List.mapM_cons, List.mapM_nil, AR.get, Option.bind_eq_bind, Option.bind_some, Option.pure_def, beq_tt, beq_tf, beq_ft, beq_ff, Bool.not_true, Bool.not_false, Nat.succ_ne_zero, List.map_cons, List.map_nil, aExtract, aUn, Int.reduceEq, Int.reduceBEq, Int.reduceBNe, BEq.rfl, aBox, aLoad, aStore, aPart, aPlace, aArrAddr, aArrIdx, aIdx, aLenStr, aConv, aFold, aMinMax, aEqV, aNilCheck, splice, fillV, V.cellsOf, V.oneCell, List.all_cons, List.all_nil, Bool.and_true, Bool.and_self, Option.map_some, Option.bind_some, List.drop_succ_cons, List.drop_zero, List.take_succ_cons, List.take_zero, List.length_cons, List.length_nil, Nat.reduceAdd, Nat.zero_add, Nat.add_zero, Nat.reduceLeDiff, Nat.reduceMul, Nat.mul_one, List.cons_append, List.nil_append, St.n_push, St.n_put, get_push_eq, get_push_ne, get_put_eq, get_put_ne, w_some, Nat.le_refl, true_and, and_true, and_self, List.append_nil, b_add, b_sub, b_mul, b_quo, b_rem, b_and, b_or, b_xor, b_eql, b_neq, b_lss, b_leq, b_gtr, b_geq, Int.cast_ofNat_Int, Int.toNat_zero, Int.toNat_one, Int.reduceLT, Int.reduceLE, Int.reduceToNat, Int.reduceGT, Int.reduceGE, Int.reduceNeg, decide_true, decide_false, Int.reduceAdd, Int.reduceSub, bne_self_eq_false, wrap64, d_draw, d_nil, d_e, d_cons, d_consG, d_op, d_gtt, d_gff, d_gtf, d_gft, chkAdd, effAdd, AOp.kind, chkAll, chkSee, Bool.and_true, Bool.true_and, Nat.reduceLT, s_gu, d_gu]
  exact ⟨h6, h7⟩

theorem find_ok (k : Nat) (ys : YlF) (σ : St) (n mo : Nat) (fo : Option Nat) (N : NS) (id : Int) (h : NR σ n mo fo N) (hv : Iv N) (hk : 257 ≤ k) (hi0 : -9223372036854775808 ≤ id) (hi1 : id ≤ 9223372036854775807) :
    W (callY Tab.tbl (k + 3) ys 26 [.ptr n 0, .sc (.int .i64 id)] σ) fun o => ∃ (i : Nat) (b : Bool), o.1 = .tup [.sc (.int .i64 i), .sc (.bool b)] ∧ Kept noX σ o.2 ∧ N.ls.findIdx? (·.id == id) = if b then some i else none := by
  rw [s_call (af := Tab.a26) rfl (by simp [Tab.a26])]
  obtain ⟨f, es, c, h1, h2, h3, h4, h5⟩ := h
  have hc := bs_ok k ys σ fo f N.ls id h2 hv.up hk hi0 hi1
  generalize callY Tab.tbl (k + 2) = cy at hc ⊢
  simp -implicitDefEqProofs (disch := first | (simp only [ne_eq, reduceCtorEq, not_false_eq_true]; done) | (simp -implicitDefEqProofs only [St.n_push, St.n_put]; done) | (simp -implicitDefEqProofs only [St.n_push, St.n_put]; omega) | omega) only [Tab.a26, h1, aCallv, aPtrEq, s_nil, s_cons, s_consG, s_op, s_gtt, s_gff, s_gtf, s_gft, s_region, s_reg, s_seq, s_seqn, s_seqr, s_seqe, s_skip, s_ret, s_exit, s_cond, s_condt, s_condf, s_block, s_blockn, s_blockr, s_blocke, s_finr, s_finn, AOp.run, AO.eval, put, Option.map_some, Option.map_none, upd_self, upd_other, ne_eq, reduceCtorEq, not_false_eq_true, aInt, Nat.reduceEqDiff, initEnv, List.getElem?_cons_zero, List.getElem?_cons_succ, Option.getD_some, Bool.false_eq_true, if_false, if_true, V.bool, V.i64, resultsOf, List.mapM_cons, List.mapM_nil, AR.get, Option.bind_eq_bind, Option.bind_some, Option.pure_def, beq_tt, beq_tf, beq_ft, beq_ff, Bool.not_true, Bool.not_false, Nat.succ_ne_zero, List.map_cons, List.map_nil, aExtract, aUn, Int.reduceEq, Int.reduceBEq, Int.reduceBNe, BEq.rfl, aBox, aLoad, aStore, aPart, aPlace, aArrAddr, aArrIdx, aIdx, aLenStr, aConv, aFold, aMinMax, aEqV, aNilCheck, splice, fillV, V.cellsOf, V.oneCell, List.all_cons, List.all_nil, Bool.and_true, Bool.and_self, Option.map_some, Option.bind_some, List.drop_succ_cons, List.drop_zero, List.take_succ_cons, List.take_zero, List.length_cons, List.length_nil, Nat.reduceAdd, Nat.zero_add, Nat.add_zero, Nat.reduceLeDiff, Nat.reduceMul, Nat.mul_one, List.cons_append, List.nil_append, St.n_push, St.n_put, get_push_eq, get_push_ne, get_put_eq, get_put_ne, w_some, Nat.le_refl, true_and, and_true, and_self, List.append_nil, b_add, b_sub, b_mul, b_quo, b_rem, b_and, b_or, b_xor, b_eql, b_neq, b_lss, b_leq, b_gtr, b_geq, Int.cast_ofNat_Int, Int.toNat_zero, Int.toNat_one, Int.reduceLT, Int.reduceLE, Int.reduceToNat, Int.reduceGT, Int.reduceGE, Int.reduceNeg, decide_true, decide_false, Int.reduceAdd, Int.reduceSub, bne_self_eq_false, wrap64, d_draw, d_nil, d_e, d_cons, d_consG, d_op, d_gtt, d_gff, d_gtf, d_gft, chkAdd, effAdd, AOp.kind, chkAll, chkSee, Bool.and_true, Bool.true_and, Nat.reduceLT, s_gu, d_gu]
  repeat (first | refine w_fin ?_ | refine w_seq ?_ | refine w_block ?_ | refine w_reg ?_ | refine w_op ?_ | refine w_dop ?_)
  refine hc.mono ?_
  rintro ⟨_, σ2⟩ ⟨i, b, rfl, h6, h7⟩
  simp -implicitDefEqProofs (disch := first | (simp only [ne_eq, reduceCtorEq, not_false_eq_true]; done) | (simp -implicitDefEqProofs only [St.n_push, St.n_put]; done) | (simp -implicitDefEqProofs only [St.n_push, St.n_put]; omega) | omega) only [aCallv, aPtrEq, s_nil, s_cons, s_consG, s_op, s_gtt, s_gff, s_gtf, s_gft, s_region, s_reg, s_seq, s_seqn, s_seqr, s_seqe, s_skip, s_ret, s_exit, s_cond, s_condt, s_condf, s_block, s_blockn, s_blockr, s_blocke, s_finr, s_finn, AOp.run, AO.eval, put, Option.map_some, Option.map_none, upd_self, upd_other, ne_eq, reduceCtorEq, not_false_eq_true, aInt, Nat.reduceEqDiff, initEnv, List.getElem?_cons_zero, List.getElem?_cons_succ, Option.getD_some, Bool.false_eq_true, if_false, if_true, V.bool, V.i64, resultsOf, List.mapM_cons, List.mapM_nil, AR.get, Option.bind_eq_bind, Option.bind_some, Option.pure_def, beq_tt, beq_tf, beq_ft, beq_ff, Bool.not_true, Bool.not_false, Nat.succ_ne_zero, List.map_cons, List.map_nil, aExtract, aUn, Int.reduceEq, Int.reduceBEq, Int.reduceBNe, BEq.rfl, aBox, aLoad, aStore, aPart, aPlace, aArrAddr, aArrIdx, aIdx, aLenStr, aConv, aFold, aMinMax, aEqV, aNilCheck, splice, fillV, V.cellsOf, V.oneCell, List.all_cons, List.all_nil, Bool.and_true, Bool.and_self, Option.map_some, Option.bind_some, List.drop_succ_cons, List.drop_zero, List.take_succ_cons, List.take_zero, List.length_cons, List.length_nil, Nat.reduceAdd, Nat.zero_add, Nat.add_zero, Nat.reduceLeDiff, Nat.reduceMul, Nat.mul_one, List.cons_append, List.nil_append, St.n_push, St.n_put, get_push_eq, get_push_ne, get_put_eq, get_put_ne, w_some, Nat.le_refl, true_and, and_true, and_self, List.append_nil, b_add, b_sub, b_mul, b_quo, b_rem, b_and, b_or, b_xor, b_eql, b_neq, b_lss, b_leq, b_gtr, b_geq, Int.cast_ofNat_Int, Int.toNat_zero, Int.toNat_one, Int.reduceLT, Int.reduceLE, Int.reduceToNat, Int.reduceGT, Int.reduceGE, Int.reduceNeg, decide_true, decide_false, Int.reduceAdd, Int.reduceSub, bne_self_eq_false, wrap64, d_draw, d_nil, d_e, d_cons, d_consG, d_op, d_gtt, d_gff, d_gtf, d_gft, chkAdd, effAdd, AOp.kind, chkAll, chkSee, Bool.and_true, Bool.true_and, Nat.reduceLT, s_gu, d_gu]
  refine ⟨i, b, rfl, h6, ?_⟩
  cases b with
  | true =>
    obtain ⟨l, hl1, hl2⟩ := h7.1 rfl
    obtain ⟨hl3, hl4⟩ := List.getElem?_eq_some_iff.1 hl1
    simp only [if_true]
    rw [List.findIdx?_eq_some_iff_getElem]
    refine ⟨hl3, by rw [hl4]; simpa using hl2, fun j hj => ?_⟩
    have := hv.up.1 j i _ _ (List.getElem?_eq_getElem (by omega)) hl1 hj
    simp only [beq_iff_eq]
    omega
  | false =>
    simp only [Bool.false_eq_true, if_false]
    rw [List.findIdx?_eq_none_iff]
    intro x hx
    have := h7.2 rfl x hx
    simpa using this

/-- The letter at i goes. -/
theorem del_ok (k : Nat) (ys : YlF) (σ : St) (o : Nat) (f : V) (ls : List Lt) (i : Nat) (h : Fl σ (some o) f ls) (hl : ls.length ≤ 256) (hi : i < ls.length) :
    W (callY Tab.tbl (k + 1) ys 37 [f, .sc (.int .i64 i), .sc (.int .i64 ((i : Int) + 1))] σ) fun r => r.1 = .os o 0 4 (ls.length - 1) none ∧ Fl r.2 (some o) r.1 (ls.eraseIdx i) ∧ Kept (· = o) σ r.2 := by
  rw [s_call (af := Tab.a37) rfl (by simp [Tab.a37])]
  generalize callY Tab.tbl k = cy
  cases h with
  | @os _ _ cs h1 h2 kk h3 h4 =>
  have c1 : ((i : Int) == (i : Int) + 1) = false := by simp only [beq_eq_false_iff_ne, ne_eq]; omega
  have lenO : ∀ m, aLen (.os o 0 4 m none) = some (.sc (.int .i64 m)) := fun _ => rfl
  have sizO : ∀ m p, slSize 4 (.os o p 4 m none) = true := fun _ _ => rfl
  have s1 : ∃ x, aSliceR σ (.os o 0 4 ls.length none) (some (.sc (.int .i64 i))) (some (.sc (.int .i64 ((i : Int) + 1)))) (some (.sc (.int .i64 ls.length))) = some x := by
    have e1 : (0 : Int) ≤ ls.length ∧ (ls.length : Int) ≤ ls.length := by omega
    have e2 : (0 : Int) ≤ (i : Int) + 1 ∧ (i : Int) + 1 ≤ (ls.length : Int) := by omega
    have e3 : (0 : Int) ≤ (i : Int) ∧ (i : Int) ≤ ((i + 1 : Nat) : Int) := by omega
    have e4 : ((i : Int) + 1).toNat = i + 1 := by omega
    simp [aSliceR, aSlice, aBounds, aBnd, e2, e3, e4]
  have s2 : aSliceR σ (.os o 0 4 ls.length none) none (some (.sc (.int .i64 i))) none = some (.os o 0 4 i none) := by
    have e1 : (0 : Int) ≤ i ∧ (i : Int) ≤ ls.length := by omega
    have e2 : 0 < ls.length := by omega
    simp only [aSliceR, aSlice, aBounds, aBnd, e1, and_self, if_true, Option.bind_some, Int.toNat_natCast, Option.map_some, e2, Nat.zero_mul, Nat.add_zero, Nat.sub_zero]
  have s4 : ∀ σ' cs', σ'.get o = some (.cells cs') → cs'.length = cs.length → aSliceR σ' (.os o 0 4 (ls.length - 1) none) (some (.sc (.int .i64 ((ls.length - 1 : Nat) : Int)))) (some (.sc (.int .i64 ls.length))) none = some (.os o ((ls.length - 1) * 4) 4 1 none) := by
    intro σ' cs' g1 g2
    have e1 : ((ls.length : Int) ≤ ((ls.length - 1 : Nat) : Int)) = False := by simp only [eq_iff_iff, iff_false]; omega
    have e2 : (0 : Int) ≤ ls.length ∧ (ls.length : Int) ≤ ((cs.length / 4 : Nat) : Int) := by omega
    have e3 : (0 : Int) ≤ ((ls.length - 1 : Nat) : Int) ∧ ((ls.length - 1 : Nat) : Int) ≤ (ls.length : Int) := by omega
    have e4 : ls.length - 1 < ls.length := by omega
    have e5 : ls.length - (ls.length - 1) = 1 := by omega
    have e6 : (0 : Nat) < 4 := by decide
    simp only [aSliceR, aSlice, aBounds, aBnd, e1, and_false, if_false, Option.bind_none, Option.map_none, aSliceO, g1, g2, Nat.sub_zero, e2, and_self, if_true, Option.bind_some, Int.toNat_natCast, e3, Option.map_some, e4, e5, e6, Nat.zero_add]
  have cl : ∀ σ' cs', σ'.get o = some (.cells cs') → cs'.length = cs.length → (XOp.clear 4 [.sc (.int .i64 0), .sc (.int .i64 0), .sc (.int .i64 0), .str []]).run σ' [.os o ((ls.length - 1) * 4) 4 1 none] = some (.tup [], σ'.put o (some (.cells (splice cs' ((ls.length - 1) * 4) [.sc (.int .i64 0), .sc (.int .i64 0), .sc (.int .i64 0), .str []])))) := by
    intro σ' cs' g1 g2
    have e1 : (ls.length - 1) * 4 + (0 + 1) * 4 ≤ cs'.length := by omega
    simp only [XOp.run, g1, List.length_cons, List.length_nil, Nat.zero_add, e1, true_and, Nat.reduceAdd]
    rfl
  obtain ⟨x1, s1⟩ := s1
  have e7 : ∀ cs' : List V, cs'.length = cs.length → cs'.take ((ls.length - 1) * 4) = flat (ls.eraseIdx i) → ∀ σ', σ'.get o = some (.cells cs') → Kept (· = o) σ σ' → ∃ σ'', σ'.put o (some (.cells (splice cs' ((ls.length - 1) * 4) [.sc (.int .i64 0), .sc (.int .i64 0), .sc (.int .i64 0), .str []]))) = σ'' ∧ Fl σ'' (some o) (.os o 0 4 (ls.length - 1) none) (ls.eraseIdx i) ∧ Kept (· = o) σ σ'' := by
    intro cs' g1 g2 σ' g3 k3
    refine ⟨_, rfl, ?_, k3.put (.inl rfl) (St.get_lt g3) _⟩
    have e8 : (ls.eraseIdx i).length = ls.length - 1 := List.length_eraseIdx_of_lt hi
    have := Fl.os (σ := σ'.put o (some (.cells (splice cs' ((ls.length - 1) * 4) [.sc (.int .i64 0), .sc (.int .i64 0), .sc (.int .i64 0), .str []])))) (o := o) (ls := ls.eraseIdx i) (get_put_self g3) (by
      rw [e8, ← g2]
      unfold splice
      rw [List.append_assoc, List.take_append_of_le_length (by rw [List.length_take]; omega), List.take_take, Nat.min_self]) kk (by rw [splice_length (by simp; omega)]; omega) (by omega)
    rw [e8] at this
    exact this
  by_cases hlast : i + 1 < ls.length
  · have s3 : aSliceR σ (.os o 0 4 ls.length none) (some (.sc (.int .i64 ((i : Int) + 1)))) none none = some (.os o ((i + 1) * 4) 4 (ls.length - (i + 1)) none) := by
      have e2 : (0 : Int) ≤ (i : Int) + 1 ∧ (i : Int) + 1 ≤ (ls.length : Int) := by omega
      have e4 : ((i : Int) + 1).toNat = i + 1 := by omega
      simp only [aSliceR, aSlice, aBounds, aBnd, e2, and_self, if_true, Option.bind_some, e4, Option.map_some, hlast, Nat.zero_add]
    have hsrc : (cs.drop ((i + 1) * 4)).take ((ls.length - (i + 1)) * 4) = flat (ls.drop (i + 1)) := by
      rw [← flat_drop, ← h2, List.drop_take]
      congr 1
      omega
    have ap : aAppend true 4 40 σ (.os o 0 4 i none) (.os o ((i + 1) * 4) 4 (ls.length - (i + 1)) none) = some (.os o 0 4 (ls.length - 1) none, σ.put o (some (.cells (splice cs (i * 4) (flat (ls.drop (i + 1))))))) := by
      have e1 : ¬ ls.length - (i + 1) = 0 := by omega
      have e2 : (i + (ls.length - (i + 1))) * 40 ≤ roomB ∧ i + (ls.length - (i + 1)) ≤ roomB := by unfold roomB; omega
      have e3 : i * 4 ≤ cs.length := by omega
      have e4 : (i + (ls.length - (i + 1))) * 4 ≤ cs.length := by omega
      have e5 : i + (ls.length - (i + 1)) = ls.length - 1 := by omega
      have e6 : (i + 1) * 4 + (ls.length - (i + 1)) * 4 ≤ cs.length := by omega
      have e0 : (0 : Nat) < 4 := by decide
      rw [e5] at e2 e4
      simp only [aAppend, aSrc, h1, if_true, hsrc, Option.bind_some, e1, if_false, flat_one', aGrow, e0, Nat.zero_add, and_self, e2, e3, aObj, e4, e5, e6]
    have g1 : (splice cs (i * 4) (flat (ls.drop (i + 1)))).length = cs.length := splice_length (by rw [flat_length, List.length_drop]; omega)
    have g3 : (splice cs (i * 4) (flat (ls.drop (i + 1)))).take ((ls.length - 1) * 4) = flat (ls.eraseIdx i) := by
      unfold splice
      rw [List.take_append_of_le_length (by simp [flat_length]; omega), List.eraseIdx_eq_take_drop_succ, flat_append, ← flat_take, ← h2, List.take_take, List.take_of_length_le (by simp [flat_length]; omega), Nat.min_eq_left (by omega)]
    have g4 := get_put_self (σ := σ) (x := .cells (splice cs (i * 4) (flat (ls.drop (i + 1))))) h1
    obtain ⟨σ2, g5, g6, g7⟩ := e7 _ g1 g3 _ g4 ((Kept.refl (· = o) σ).put (.inl rfl) (St.get_lt h1) _)
    simp -implicitDefEqProofs (disch := first | (simp only [ne_eq, reduceCtorEq, not_false_eq_true]; done) | (simp -implicitDefEqProofs only [St.n_push, St.n_put]; done) | (simp -implicitDefEqProofs only [St.n_push, St.n_put]; omega) | omega) only [Tab.a37, s1, s2, s3, s4 _ _ g4 g1, cl _ _ g4 g1, c1, lenO, sizO, ap, g5, XOp.kind, aCallv, aPtrEq, s_nil, s_cons, s_consG, s_op, s_gtt, s_gff, s_gtf, s_gft, s_region, s_reg, s_seq, s_seqn, s_seqr, s_seqe, s_skip, s_ret, s_exit, s_cond, s_condt, s_condf, s_block, s_blockn, s_blockr, s_blocke, s_finr, s_finn, AOp.run, AO.eval, put, Option.map_some, Option.map_none, upd_self, upd_other, ne_eq, reduceCtorEq, not_false_eq_true, aInt, Nat.reduceEqDiff, initEnv, List.getElem?_cons_zero, List.getElem?_cons_succ, Option.getD_some, Bool.false_eq_true, if_false, if_true, V.bool, V.i64, resultsOf, List.mapM_cons, List.mapM_nil, AR.get, Option.bind_eq_bind, Option.bind_some, Option.pure_def, beq_tt, beq_tf, beq_ft, beq_ff, Bool.not_true, Bool.not_false, Nat.succ_ne_zero, List.map_cons, List.map_nil, aExtract, aUn, Int.reduceEq, Int.reduceBEq, Int.reduceBNe, BEq.rfl, aBox, aLoad, aStore, aPart, aPlace, aArrAddr, aArrIdx, aIdx, aLenStr, aConv, aFold, aMinMax, aEqV, aNilCheck, fillV, V.cellsOf, V.oneCell, List.all_cons, List.all_nil, Bool.and_true, Bool.and_self, Option.map_some, Option.bind_some, List.drop_succ_cons, List.drop_zero, List.take_succ_cons, List.take_zero, List.length_cons, List.length_nil, Nat.reduceAdd, Nat.zero_add, Nat.add_zero, Nat.reduceLeDiff, Nat.reduceMul, Nat.mul_one, List.cons_append, List.nil_append, St.n_push, St.n_put, get_push_eq, get_push_ne, get_put_eq, get_put_ne, w_some, Nat.le_refl, true_and, and_true, and_self, List.append_nil, b_add, b_sub, b_mul, b_quo, b_rem, b_and, b_or, b_xor, b_eql, b_neq, b_lss, b_leq, b_gtr, b_geq, Int.cast_ofNat_Int, Int.toNat_zero, Int.toNat_one, Int.reduceLT, Int.reduceLE, Int.reduceToNat, Int.reduceGT, Int.reduceGE, Int.reduceNeg, decide_true, decide_false, Int.reduceAdd, Int.reduceSub, bne_self_eq_false, wrap64, d_draw, d_nil, d_e, d_cons, d_consG, d_op, d_gtt, d_gff, d_gtf, d_gft, chkAdd, effAdd, AOp.kind, chkAll, chkSee, Bool.and_true, Bool.true_and, Nat.reduceLT, s_gu, d_gu]
    exact ⟨g6, g7⟩
  · have s3 : aSliceR σ (.os o 0 4 ls.length none) (some (.sc (.int .i64 ((i : Int) + 1)))) none none = some (.vs .ro 4 0 []) := by
      have e2 : (0 : Int) ≤ (i : Int) + 1 ∧ (i : Int) + 1 ≤ (ls.length : Int) := by omega
      have e4 : ((i : Int) + 1).toNat = i + 1 := by omega
      simp only [aSliceR, aSlice, aBounds, aBnd, e2, and_self, if_true, Option.bind_some, e4, Option.map_some, hlast, if_false]
    have e9 : i = ls.length - 1 := by omega
    have ap : aAppend true 4 40 σ (.os o 0 4 i none) (.vs .ro 4 0 []) = some (.os o 0 4 (ls.length - 1) none, σ) := by
      rw [← e9]
      rfl
    have sizV : slSize 4 (.vs .ro 4 0 []) = true := rfl
    have g3 : cs.take ((ls.length - 1) * 4) = flat (ls.eraseIdx i) := by
      rw [List.eraseIdx_eq_take_drop_succ, List.drop_of_length_le (by omega), List.append_nil, ← flat_take, ← h2, List.take_take, ← e9, Nat.min_eq_left (by omega)]
    obtain ⟨σ2, g5, g6, g7⟩ := e7 _ rfl g3 _ h1 (Kept.refl (· = o) σ)
    simp -implicitDefEqProofs (disch := first | (simp only [ne_eq, reduceCtorEq, not_false_eq_true]; done) | (simp -implicitDefEqProofs only [St.n_push, St.n_put]; done) | (simp -implicitDefEqProofs only [St.n_push, St.n_put]; omega) | omega) only [Tab.a37, s1, s2, s3, s4 _ _ h1 rfl, cl _ _ h1 rfl, c1, lenO, sizO, ap, g5, XOp.kind, sizV, aCallv, aPtrEq, s_nil, s_cons, s_consG, s_op, s_gtt, s_gff, s_gtf, s_gft, s_region, s_reg, s_seq, s_seqn, s_seqr, s_seqe, s_skip, s_ret, s_exit, s_cond, s_condt, s_condf, s_block, s_blockn, s_blockr, s_blocke, s_finr, s_finn, AOp.run, AO.eval, put, Option.map_some, Option.map_none, upd_self, upd_other, ne_eq, reduceCtorEq, not_false_eq_true, aInt, Nat.reduceEqDiff, initEnv, List.getElem?_cons_zero, List.getElem?_cons_succ, Option.getD_some, Bool.false_eq_true, if_false, if_true, V.bool, V.i64, resultsOf, List.mapM_cons, List.mapM_nil, AR.get, Option.bind_eq_bind, Option.bind_some, Option.pure_def, beq_tt, beq_tf, beq_ft, beq_ff, Bool.not_true, Bool.not_false, Nat.succ_ne_zero, List.map_cons, List.map_nil, aExtract, aUn, Int.reduceEq, Int.reduceBEq, Int.reduceBNe, BEq.rfl, aBox, aLoad, aStore, aPart, aPlace, aArrAddr, aArrIdx, aIdx, aLenStr, aConv, aFold, aMinMax, aEqV, aNilCheck, fillV, V.cellsOf, V.oneCell, List.all_cons, List.all_nil, Bool.and_true, Bool.and_self, Option.map_some, Option.bind_some, List.drop_succ_cons, List.drop_zero, List.take_succ_cons, List.take_zero, List.length_cons, List.length_nil, Nat.reduceAdd, Nat.zero_add, Nat.add_zero, Nat.reduceLeDiff, Nat.reduceMul, Nat.mul_one, List.cons_append, List.nil_append, St.n_push, St.n_put, get_push_eq, get_push_ne, get_put_eq, get_put_ne, w_some, Nat.le_refl, true_and, and_true, and_self, List.append_nil, b_add, b_sub, b_mul, b_quo, b_rem, b_and, b_or, b_xor, b_eql, b_neq, b_lss, b_leq, b_gtr, b_geq, Int.cast_ofNat_Int, Int.toNat_zero, Int.toNat_one, Int.reduceLT, Int.reduceLE, Int.reduceToNat, Int.reduceGT, Int.reduceGE, Int.reduceNeg, decide_true, decide_false, Int.reduceAdd, Int.reduceSub, bne_self_eq_false, wrap64, d_draw, d_nil, d_e, d_cons, d_consG, d_op, d_gtt, d_gff, d_gtf, d_gft, chkAdd, effAdd, AOp.kind, chkAll, chkSee, Bool.and_true, Bool.true_and, Nat.reduceLT, s_gu, d_gu]
    exact ⟨g6, g7⟩
end Go.Proofs.Ythnfafphaopnkaa.netR
