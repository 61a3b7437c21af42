/-
  Files: the document's disk.
-/
import Derived.Test.YtkdfahmlcnbadaaDiskB
namespace Go.Proofs.Ytkdfahmlcnbadaa.dk
open Go.Ab
set_option maxRecDepth 100000
set_option maxHeartbeats 8000000
set_option linter.unusedSimpArgs false
set_option linter.unusedVariables false

/-- A file's cells, in the document's disk. -/
structure RFC (cs : List V) (off : Nat) (F : FM) (v : V) : Prop where
  rv : RV 3 v (F.loose.map chc)
  c0 : cs[off]? = some (.sc (.bool F.sure.there))
  c1 : cs[off + 1]? = some (.str F.sure.s)
  c2 : cs[off + 2]? = some v
theorem RFC.len {cs : List V} {off : Nat} {F : FM} {v : V} (h : RFC cs off F v) : off + 3 ≤ cs.length := by
  have := (List.getElem?_eq_some_iff.1 h.c2).1; omega
theorem RFC.take {cs : List V} {off : Nat} {F : FM} {v : V} (h : RFC cs off F v) : (cs.drop off).take 3 = [.sc (.bool F.sure.there), .str F.sure.s, v] := by
  have := take_cells (cs := cs) (es := [.sc (.bool F.sure.there), .str F.sure.s, v]) (k := off) (fun i hi => by
    have hi : i < 3 := hi
    have : i = 0 ∨ i = 1 ∨ i = 2 := by omega
    rcases this with rfl | rfl | rfl
    · exact h.c0
    · exact h.c1
    · exact h.c2) (.inl h.len)
  exact this
theorem RFC.take2 {cs : List V} {off : Nat} {F : FM} {v : V} (h : RFC cs off F v) : (cs.drop off).take 2 = [.sc (.bool F.sure.there), .str F.sure.s] := by
  have := congrArg (List.take 2) h.take
  rwa [List.take_take] at this
structure RC (cs : List V) (M : DM) : Prop where
  len : cs.length = 98
  p : cs[96]? = some (.sc (.int .i64 M.power))
  o : cs[97]? = some (.sc (.int .i64 M.ops))
  f : ∀ i, i < 32 → ∃ v, RFC cs (i * 3) (M.f i) v
/-- The document's disk at d. -/
def RR (σ : St) (d : Nat) (M : DM) : Prop := ∃ cs, σ.get d = some (.cells cs) ∧ RC cs M
theorem RR.kept {X : Nat → Prop} {σ σ' : St} {d : Nat} {M : DM} (h : RR σ d M) (k : Kept X σ σ') (hx : ¬ X d) : RR σ' d M := by
  obtain ⟨cs, h1, h2⟩ := h; exact ⟨cs, k.get _ _ hx h1, h2⟩
theorem RR.lt {σ : St} {d : Nat} {M : DM} (h : RR σ d M) : d < σ.n := by obtain ⟨cs, h1, _⟩ := h; exact St.get_lt h1

theorem rnew_ok (k : Nat) (ys : YlF) (σ : St) : W (callY Tab.tb (k + 1) ys 23 [] σ) fun r => r.1 = .ptr σ.n 0 ∧ RR r.2 σ.n D0 ∧ Kept noX σ r.2 ∧ r.2.n = σ.n + 1 := by
  rw [s_call (af := Tab.b23) rfl (Nat.le_of_ble_eq_true rfl)]
  generalize callY Tab.tb k = cy
  simp -implicitDefEqProofs (disch := first | exact nbf rfl | exact nbt rfl | (simp only [ne_eq, reduceCtorEq, not_false_eq_true]; done) | omega | (simp -implicitDefEqProofs only [St.n_push, St.n_put, St.n_bump, List.length_set] <;> omega) | fail) only [Tab.b23, aCallv, aPtrEq, XOp.kind, AOp.run, AO.eval, put, reduceCtorEq, aInt, Nat.reduceEqDiff, initEnv, V.bool, V.i64, resultsOf, AR.get, aExtract, aUn, Int.reduceEq, Int.reduceBEq, Int.reduceBNe, aBox, aLoad, aStore, aPart, aPlace, aArrAddr, aArrIdx, aIdx, aLenStr, aConv, aFold, aMinMax, aEqV, aNilCheck, fillV, aEqBool, aEqInt, aEqStr, Nat.reduceAdd, Nat.reduceLeDiff, Nat.reduceMul, Int.reduceLT, Int.reduceLE, Int.reduceToNat, Int.reduceGT, Int.reduceGE, Int.reduceNeg, Int.reduceAdd, Int.reduceSub, wrap64, chkAdd, effAdd, AOp.kind, chkAll, chkSee, Nat.reduceLT, zP.down, zQ.down]
  refine ⟨⟨_, get_push_self, ⟨rfl, rfl, rfl, fun i hi => ⟨.sc .nilS, .nil, ?_, ?_, ?_⟩⟩⟩, ?_⟩
  all_goals first
    | (((repeat (first | refine Kept.push ?_ _ | refine Kept.bump ?_ | refine Kept.put ?_ (.inr (by omega)) (by first | omega | (simp only [St.n_put, St.n_push]; omega)) _)); first | exact Kept.refl _ _ | assumption); done)
    | (have : i = 0 ∨ i = 1 ∨ i = 2 ∨ i = 3 ∨ i = 4 ∨ i = 5 ∨ i = 6 ∨ i = 7 ∨ i = 8 ∨ i = 9 ∨ i = 10 ∨ i = 11 ∨ i = 12 ∨ i = 13 ∨ i = 14 ∨ i = 15 ∨ i = 16 ∨ i = 17 ∨ i = 18 ∨ i = 19 ∨ i = 20 ∨ i = 21 ∨ i = 22 ∨ i = 23 ∨ i = 24 ∨ i = 25 ∨ i = 26 ∨ i = 27 ∨ i = 28 ∨ i = 29 ∨ i = 30 ∨ i = 31 := by omega
       rcases this with rfl | rfl | rfl | rfl | rfl | rfl | rfl | rfl | rfl | rfl | rfl | rfl | rfl | rfl | rfl | rfl | rfl | rfl | rfl | rfl | rfl | rfl | rfl | rfl | rfl | rfl | rfl | rfl | rfl | rfl | rfl | rfl <;> rfl)

def s2c (x : S2) : List V := [.sc (.bool x.there), .str x.s]
theorem rdone_ok (k : Nat) (ys : YlF) (σ : St) (x : S2) (c : Ch) (hc : Okc x c) : callY Tab.tb (k + 1) ys 40 [.agg (s2c x), .agg (chc c)] σ = some (.agg (s2c (done x c)), σ.bump.bump.bump) := by
  rw [s_call (af := Tab.b40) rfl (Nat.le_of_ble_eq_true rfl)]
  generalize callY Tab.tb k = cy
  rcases hc with ⟨hc, hc2⟩ | ⟨hc, ht, hn0, hn1⟩ | hc
  · have e1 := beq_iff_eq.2 hc
    have sa : aStr .add x.s c.s = some (.str (x.s ++ c.s)) := by simp only [aStr]; rw [if_neg (by omega)]
    have s1 : done x c = ⟨true, x.s ++ c.s⟩ := by unfold done; rw [if_pos hc]
    simp -implicitDefEqProofs (disch := first | exact nbf rfl | exact nbt rfl | (simp only [ne_eq, reduceCtorEq, not_false_eq_true]; done) | omega | (simp -implicitDefEqProofs only [St.n_push, St.n_put, St.n_bump, List.length_set] <;> omega) | fail) only [Tab.b40, s2c, chc, e1, aBin, sa, s1, aCallv, aPtrEq, XOp.kind, AOp.run, AO.eval, put, reduceCtorEq, aInt, Nat.reduceEqDiff, initEnv, V.bool, V.i64, resultsOf, AR.get, aExtract, aUn, Int.reduceEq, Int.reduceBEq, Int.reduceBNe, aBox, aLoad, aStore, aPart, aPlace, aArrAddr, aArrIdx, aIdx, aLenStr, aConv, aFold, aMinMax, aEqV, aNilCheck, fillV, aEqBool, aEqInt, aEqStr, Nat.reduceAdd, Nat.reduceLeDiff, Nat.reduceMul, Int.reduceLT, Int.reduceLE, Int.reduceToNat, Int.reduceGT, Int.reduceGE, Int.reduceNeg, Int.reduceAdd, Int.reduceSub, wrap64, chkAdd, effAdd, AOp.kind, chkAll, chkSee, Nat.reduceLT, zP.down, zQ.down]
  · have e1 : (c.k == 1) = false := by simp; omega
    have e2 := beq_iff_eq.2 hc
    obtain ⟨n, hn⟩ := Int.eq_ofNat_of_zero_le hn0
    have s1 : done x c = ⟨true, x.s.take n⟩ := by unfold done; rw [if_neg (by omega), if_pos hc, hn]; rfl
    have sl := sl_to (u := x.s) (n := n) (by omega)
    simp -implicitDefEqProofs (disch := first | exact nbf rfl | exact nbt rfl | (simp only [ne_eq, reduceCtorEq, not_false_eq_true]; done) | omega | (simp -implicitDefEqProofs only [St.n_push, St.n_put, St.n_bump, List.length_set] <;> omega) | fail) only [Tab.b40, s2c, chc, e1, e2, hn, sl, s1, aCallv, aPtrEq, XOp.kind, AOp.run, AO.eval, put, reduceCtorEq, aInt, Nat.reduceEqDiff, initEnv, V.bool, V.i64, resultsOf, AR.get, aExtract, aUn, Int.reduceEq, Int.reduceBEq, Int.reduceBNe, aBox, aLoad, aStore, aPart, aPlace, aArrAddr, aArrIdx, aIdx, aLenStr, aConv, aFold, aMinMax, aEqV, aNilCheck, fillV, aEqBool, aEqInt, aEqStr, Nat.reduceAdd, Nat.reduceLeDiff, Nat.reduceMul, Int.reduceLT, Int.reduceLE, Int.reduceToNat, Int.reduceGT, Int.reduceGE, Int.reduceNeg, Int.reduceAdd, Int.reduceSub, wrap64, chkAdd, effAdd, AOp.kind, chkAll, chkSee, Nat.reduceLT, zP.down, zQ.down]
  · have e1 : (c.k == 1) = false := by simp; omega
    have e2 : (c.k == 2) = false := by simp; omega
    have s1 : done x c = ⟨false, []⟩ := by unfold done; rw [if_neg (by omega), if_neg (by omega)]
    simp -implicitDefEqProofs (disch := first | exact nbf rfl | exact nbt rfl | (simp only [ne_eq, reduceCtorEq, not_false_eq_true]; done) | omega | (simp -implicitDefEqProofs only [St.n_push, St.n_put, St.n_bump, List.length_set] <;> omega) | fail) only [Tab.b40, s2c, chc, e1, e2, s1, aCallv, aPtrEq, XOp.kind, AOp.run, AO.eval, put, reduceCtorEq, aInt, Nat.reduceEqDiff, initEnv, V.bool, V.i64, resultsOf, AR.get, aExtract, aUn, Int.reduceEq, Int.reduceBEq, Int.reduceBNe, aBox, aLoad, aStore, aPart, aPlace, aArrAddr, aArrIdx, aIdx, aLenStr, aConv, aFold, aMinMax, aEqV, aNilCheck, fillV, aEqBool, aEqInt, aEqStr, Nat.reduceAdd, Nat.reduceLeDiff, Nat.reduceMul, Int.reduceLT, Int.reduceLE, Int.reduceToNat, Int.reduceGT, Int.reduceGE, Int.reduceNeg, Int.reduceAdd, Int.reduceSub, wrap64, chkAdd, effAdd, AOp.kind, chkAll, chkSee, Nat.reduceLT, zP.down, zQ.down]

theorem rseen_ok (k : Nat) (ys : YlF) (σ : St) (F : FM) (v : V) (hv : RV 3 v (F.loose.map chc)) (hF : F.Ok) (hl : F.loose.length ≤ 1000000) (hk : 2000000 ≤ k) :
    W (callY Tab.tb (k + 2) ys 39 [.agg [.sc (.bool F.sure.there), .str F.sure.s, v]] σ) fun r => r.1 = .agg (s2c F.seen) ∧ Kept noX σ r.2 := by
  rw [s_call (af := Tab.b39) rfl (Nat.le_of_ble_eq_true rfl)]
  have hdone := fun σ x c h => rdone_ok k ys σ x c h
  generalize callY Tab.tb (k + 1) = cy at hdone ⊢
  have hcell := hv.cell
  have vlen := hv.len
  have vsize := hv.size
  rw [List.length_map] at vlen
  simp -implicitDefEqProofs (disch := first | exact nbf rfl | exact nbt rfl | (simp only [ne_eq, reduceCtorEq, not_false_eq_true]; done) | omega | (simp -implicitDefEqProofs only [St.n_push, St.n_put, St.n_bump, List.length_set] <;> omega) | fail) only [Tab.b39, hcell.1, hcell.2, aCallv, aPtrEq, XOp.kind, AOp.run, AO.eval, put, reduceCtorEq, aInt, Nat.reduceEqDiff, initEnv, V.bool, V.i64, resultsOf, AR.get, aExtract, aUn, Int.reduceEq, Int.reduceBEq, Int.reduceBNe, aBox, aLoad, aStore, aPart, aPlace, aArrAddr, aArrIdx, aIdx, aLenStr, aConv, aFold, aMinMax, aEqV, aNilCheck, fillV, aEqBool, aEqInt, aEqStr, Nat.reduceAdd, Nat.reduceLeDiff, Nat.reduceMul, Int.reduceLT, Int.reduceLE, Int.reduceToNat, Int.reduceGT, Int.reduceGE, Int.reduceNeg, Int.reduceAdd, Int.reduceSub, wrap64, chkAdd, effAdd, AOp.kind, chkAll, chkSee, Nat.reduceLT, zP.down, zQ.down]
  repeat (first | refine w_fin ?_ | refine w_seq ?_ | refine w_block ?_ | refine w_reg ?_ | refine w_op ?_ | refine w_dop ?_)
  refine W.mono (Q := fun r => ∃ (ρ : Env) (σ' : St), r = ((.exit 0 : Ex), ρ, σ') ∧ ρ 2 = .agg [.sc (.bool false), .str []] ∧ ρ 3 = .agg (s2c F.seen) ∧ Kept noX σ σ') ?_ ?_
  · refine w_loop (fun m ρ σ' => ∃ j : Nat, m = F.loose.length - j ∧ j ≤ F.loose.length ∧ ρ 1 = .agg [.sc (.bool F.sure.there), .str F.sure.s, v] ∧ ρ 2 = .agg [.sc (.bool false), .str []] ∧ ρ 3 = .agg (s2c (seenOf F.sure (F.loose.take j))) ∧ ρ 4 = .sc (.int .i64 j) ∧ Kept noX σ σ') F.loose.length (by omega) ?_ ?_
    · refine ⟨0, rfl, Nat.zero_le _, ?_, ?_, ?_, ?_, ?_⟩
      all_goals first | rfl | (((repeat (first | refine Kept.push ?_ _ | refine Kept.bump ?_ | refine Kept.put ?_ (.inr (by omega)) (by first | omega | (simp only [St.n_put, St.n_push]; omega)) _)); first | exact Kept.refl _ _ | assumption); done) | (simp -implicitDefEqProofs (disch := first | exact nbf rfl | exact nbt rfl | (simp only [ne_eq, reduceCtorEq, not_false_eq_true]; done) | omega | (simp -implicitDefEqProofs only [St.n_push, St.n_put, St.n_bump, List.length_set] <;> omega) | fail) only [aCallv, aPtrEq, XOp.kind, AOp.run, AO.eval, put, reduceCtorEq, aInt, Nat.reduceEqDiff, initEnv, V.bool, V.i64, resultsOf, AR.get, aExtract, aUn, Int.reduceEq, Int.reduceBEq, Int.reduceBNe, aBox, aLoad, aStore, aPart, aPlace, aArrAddr, aArrIdx, aIdx, aLenStr, aConv, aFold, aMinMax, aEqV, aNilCheck, fillV, aEqBool, aEqInt, aEqStr, Nat.reduceAdd, Nat.reduceLeDiff, Nat.reduceMul, Int.reduceLT, Int.reduceLE, Int.reduceToNat, Int.reduceGT, Int.reduceGE, Int.reduceNeg, Int.reduceAdd, Int.reduceSub, wrap64, chkAdd, effAdd, AOp.kind, chkAll, chkSee, Nat.reduceLT, zP.down, zQ.down]; done) | (simp -implicitDefEqProofs (disch := first | exact nbf rfl | exact nbt rfl | (simp only [ne_eq, reduceCtorEq, not_false_eq_true]; done) | omega | (simp -implicitDefEqProofs only [St.n_push, St.n_put, St.n_bump, List.length_set] <;> omega) | fail) only [aCallv, aPtrEq, XOp.kind, AOp.run, AO.eval, put, reduceCtorEq, aInt, Nat.reduceEqDiff, initEnv, V.bool, V.i64, resultsOf, AR.get, aExtract, aUn, Int.reduceEq, Int.reduceBEq, Int.reduceBNe, aBox, aLoad, aStore, aPart, aPlace, aArrAddr, aArrIdx, aIdx, aLenStr, aConv, aFold, aMinMax, aEqV, aNilCheck, fillV, aEqBool, aEqInt, aEqStr, Nat.reduceAdd, Nat.reduceLeDiff, Nat.reduceMul, Int.reduceLT, Int.reduceLE, Int.reduceToNat, Int.reduceGT, Int.reduceGE, Int.reduceNeg, Int.reduceAdd, Int.reduceSub, wrap64, chkAdd, effAdd, AOp.kind, chkAll, chkSee, Nat.reduceLT, zP.down, zQ.down]; rfl)
    · rintro m ρ σ' ⟨j, hm, hj, e1, e2, e3, e4, hk'⟩
      by_cases hjl : j < F.loose.length
      · have c1 : decide ((j : Int) < (F.loose.length : Int)) = true := by simpa using hjl
        obtain ⟨a1, a2, a3⟩ := hv.at (i := j) (by simpa using hjl)
        simp only [List.getElem_map] at a3
        have hd := fun σ => hdone σ _ _ (okl_at hjl hF.ok)
        have hsn : seenOf F.sure (F.loose.take (j + 1)) = done (seenOf F.sure (F.loose.take j)) F.loose[j] := by rw [take_succ' hjl, seenOf_append]
        have w1 : IntKind.i64.wrap ((j : Int) + 1) = (j : Int) + 1 := wrap64 (by omega) (by omega)
        simp only [chc, s2c] at a3 hd e3
        simp -implicitDefEqProofs (disch := first | exact nbf rfl | exact nbt rfl | (simp only [ne_eq, reduceCtorEq, not_false_eq_true]; done) | omega | (simp -implicitDefEqProofs only [St.n_push, St.n_put, St.n_bump, List.length_set] <;> omega) | fail) only [c1, e1, e2, e3, e4, vlen, vsize, a1, a2, a3, hd, w1, s2c, aCallv, aPtrEq, XOp.kind, AOp.run, AO.eval, put, reduceCtorEq, aInt, Nat.reduceEqDiff, initEnv, V.bool, V.i64, resultsOf, AR.get, aExtract, aUn, Int.reduceEq, Int.reduceBEq, Int.reduceBNe, aBox, aLoad, aStore, aPart, aPlace, aArrAddr, aArrIdx, aIdx, aLenStr, aConv, aFold, aMinMax, aEqV, aNilCheck, fillV, aEqBool, aEqInt, aEqStr, Nat.reduceAdd, Nat.reduceLeDiff, Nat.reduceMul, Int.reduceLT, Int.reduceLE, Int.reduceToNat, Int.reduceGT, Int.reduceGE, Int.reduceNeg, Int.reduceAdd, Int.reduceSub, wrap64, chkAdd, effAdd, AOp.kind, chkAll, chkSee, Nat.reduceLT, zP.down, zQ.down]
        refine ⟨F.loose.length - (j + 1), by omega, j + 1, rfl, hjl, ?_, by simp, ?_⟩
        · rw [hsn]
        · exact hk'.bump.bump.bump
      · have c1 : decide ((j : Int) < (F.loose.length : Int)) = false := by simpa using hjl
        have : j = F.loose.length := by omega
        subst this
        rw [List.take_length] at e3
        simp -implicitDefEqProofs (disch := first | exact nbf rfl | exact nbt rfl | (simp only [ne_eq, reduceCtorEq, not_false_eq_true]; done) | omega | (simp -implicitDefEqProofs only [St.n_push, St.n_put, St.n_bump, List.length_set] <;> omega) | fail) only [c1, e1, e4, vlen, aCallv, aPtrEq, XOp.kind, AOp.run, AO.eval, put, reduceCtorEq, aInt, Nat.reduceEqDiff, initEnv, V.bool, V.i64, resultsOf, AR.get, aExtract, aUn, Int.reduceEq, Int.reduceBEq, Int.reduceBNe, aBox, aLoad, aStore, aPart, aPlace, aArrAddr, aArrIdx, aIdx, aLenStr, aConv, aFold, aMinMax, aEqV, aNilCheck, fillV, aEqBool, aEqInt, aEqStr, Nat.reduceAdd, Nat.reduceLeDiff, Nat.reduceMul, Int.reduceLT, Int.reduceLE, Int.reduceToNat, Int.reduceGT, Int.reduceGE, Int.reduceNeg, Int.reduceAdd, Int.reduceSub, wrap64, chkAdd, effAdd, AOp.kind, chkAll, chkSee, Nat.reduceLT, zP.down, zQ.down]
        refine ⟨_, _, rfl, ?_, ?_, hk'⟩
        · simp -implicitDefEqProofs (disch := first | exact nbf rfl | exact nbt rfl | (simp only [ne_eq, reduceCtorEq, not_false_eq_true]; done) | omega | (simp -implicitDefEqProofs only [St.n_push, St.n_put, St.n_bump, List.length_set] <;> omega) | fail) only [e2, aCallv, aPtrEq, XOp.kind, AOp.run, AO.eval, put, reduceCtorEq, aInt, Nat.reduceEqDiff, initEnv, V.bool, V.i64, resultsOf, AR.get, aExtract, aUn, Int.reduceEq, Int.reduceBEq, Int.reduceBNe, aBox, aLoad, aStore, aPart, aPlace, aArrAddr, aArrIdx, aIdx, aLenStr, aConv, aFold, aMinMax, aEqV, aNilCheck, fillV, aEqBool, aEqInt, aEqStr, Nat.reduceAdd, Nat.reduceLeDiff, Nat.reduceMul, Int.reduceLT, Int.reduceLE, Int.reduceToNat, Int.reduceGT, Int.reduceGE, Int.reduceNeg, Int.reduceAdd, Int.reduceSub, wrap64, chkAdd, effAdd, AOp.kind, chkAll, chkSee, Nat.reduceLT, zP.down, zQ.down]
        · simp -implicitDefEqProofs (disch := first | exact nbf rfl | exact nbt rfl | (simp only [ne_eq, reduceCtorEq, not_false_eq_true]; done) | omega | (simp -implicitDefEqProofs only [St.n_push, St.n_put, St.n_bump, List.length_set] <;> omega) | fail) only [e3, aCallv, aPtrEq, XOp.kind, AOp.run, AO.eval, put, reduceCtorEq, aInt, Nat.reduceEqDiff, initEnv, V.bool, V.i64, resultsOf, AR.get, aExtract, aUn, Int.reduceEq, Int.reduceBEq, Int.reduceBNe, aBox, aLoad, aStore, aPart, aPlace, aArrAddr, aArrIdx, aIdx, aLenStr, aConv, aFold, aMinMax, aEqV, aNilCheck, fillV, aEqBool, aEqInt, aEqStr, Nat.reduceAdd, Nat.reduceLeDiff, Nat.reduceMul, Int.reduceLT, Int.reduceLE, Int.reduceToNat, Int.reduceGT, Int.reduceGE, Int.reduceNeg, Int.reduceAdd, Int.reduceSub, wrap64, chkAdd, effAdd, AOp.kind, chkAll, chkSee, Nat.reduceLT, zP.down, zQ.down]
          rfl
  · rintro _ ⟨ρ, σ', rfl, e2, e3, hk'⟩
    simp only [s2c] at e3
    simp -implicitDefEqProofs (disch := first | exact nbf rfl | exact nbt rfl | (simp only [ne_eq, reduceCtorEq, not_false_eq_true]; done) | omega | (simp -implicitDefEqProofs only [St.n_push, St.n_put, St.n_bump, List.length_set] <;> omega) | fail) only [e2, e3, s2c, aCallv, aPtrEq, XOp.kind, AOp.run, AO.eval, put, reduceCtorEq, aInt, Nat.reduceEqDiff, initEnv, V.bool, V.i64, resultsOf, AR.get, aExtract, aUn, Int.reduceEq, Int.reduceBEq, Int.reduceBNe, aBox, aLoad, aStore, aPart, aPlace, aArrAddr, aArrIdx, aIdx, aLenStr, aConv, aFold, aMinMax, aEqV, aNilCheck, fillV, aEqBool, aEqInt, aEqStr, Nat.reduceAdd, Nat.reduceLeDiff, Nat.reduceMul, Int.reduceLT, Int.reduceLE, Int.reduceToNat, Int.reduceGT, Int.reduceGE, Int.reduceNeg, Int.reduceAdd, Int.reduceSub, wrap64, chkAdd, effAdd, AOp.kind, chkAll, chkSee, Nat.reduceLT, zP.down, zQ.down]
    exact hk'

theorem rsee_ok (k : Nat) (ys : YlF) (σ : St) (d : Nat) (M : DM) (f : Int) (h : RR σ d M) {B : Nat} (hm : M.Ok B) (hB : B ≤ 1000000) (hk : 2000000 ≤ k) :
    W (callY Tab.tb (k + 3) ys 37 [.ptr d 0, .sc (.int .i64 f)] σ) fun r => r.1 = .agg (s2c (M.see f)) ∧ Kept noX σ r.2 := by
  obtain ⟨cs, g, hc⟩ := h
  rw [s_call (af := Tab.b37) rfl (Nat.le_of_ble_eq_true rfl)]
  have hseen := fun σ F v hv hF hl => rseen_ok k ys σ F v hv hF hl hk
  generalize callY Tab.tb (k + 2) = cy at hseen ⊢
  by_cases h1 : f < 0
  · have c2 : decide (f < 0) = true := by simpa using h1
    have e : M.see f = ⟨false, []⟩ := by unfold DM.see; rw [if_neg (by omega)]
    simp -implicitDefEqProofs (disch := first | exact nbf rfl | exact nbt rfl | (simp only [ne_eq, reduceCtorEq, not_false_eq_true]; done) | omega | (simp -implicitDefEqProofs only [St.n_push, St.n_put, St.n_bump, List.length_set] <;> omega) | fail) only [Tab.b37, c2, e, s2c, aCallv, aPtrEq, XOp.kind, AOp.run, AO.eval, put, reduceCtorEq, aInt, Nat.reduceEqDiff, initEnv, V.bool, V.i64, resultsOf, AR.get, aExtract, aUn, Int.reduceEq, Int.reduceBEq, Int.reduceBNe, aBox, aLoad, aStore, aPart, aPlace, aArrAddr, aArrIdx, aIdx, aLenStr, aConv, aFold, aMinMax, aEqV, aNilCheck, fillV, aEqBool, aEqInt, aEqStr, Nat.reduceAdd, Nat.reduceLeDiff, Nat.reduceMul, Int.reduceLT, Int.reduceLE, Int.reduceToNat, Int.reduceGT, Int.reduceGE, Int.reduceNeg, Int.reduceAdd, Int.reduceSub, wrap64, chkAdd, effAdd, AOp.kind, chkAll, chkSee, Nat.reduceLT, zP.down, zQ.down]
    exact (Kept.refl _ _).bump
  have c2 : decide (f < 0) = false := by simpa using h1
  by_cases h2 : 32 ≤ f
  · have c3 : decide (f ≥ 32) = true := by simpa using h2
    have e : M.see f = ⟨false, []⟩ := by unfold DM.see; rw [if_neg (by omega)]
    simp -implicitDefEqProofs (disch := first | exact nbf rfl | exact nbt rfl | (simp only [ne_eq, reduceCtorEq, not_false_eq_true]; done) | omega | (simp -implicitDefEqProofs only [St.n_push, St.n_put, St.n_bump, List.length_set] <;> omega) | fail) only [Tab.b37, c2, c3, e, s2c, aCallv, aPtrEq, XOp.kind, AOp.run, AO.eval, put, reduceCtorEq, aInt, Nat.reduceEqDiff, initEnv, V.bool, V.i64, resultsOf, AR.get, aExtract, aUn, Int.reduceEq, Int.reduceBEq, Int.reduceBNe, aBox, aLoad, aStore, aPart, aPlace, aArrAddr, aArrIdx, aIdx, aLenStr, aConv, aFold, aMinMax, aEqV, aNilCheck, fillV, aEqBool, aEqInt, aEqStr, Nat.reduceAdd, Nat.reduceLeDiff, Nat.reduceMul, Int.reduceLT, Int.reduceLE, Int.reduceToNat, Int.reduceGT, Int.reduceGE, Int.reduceNeg, Int.reduceAdd, Int.reduceSub, wrap64, chkAdd, effAdd, AOp.kind, chkAll, chkSee, Nat.reduceLT, zP.down, zQ.down]
    exact (Kept.refl _ _).bump
  have c3 : decide (f ≥ 32) = false := by simpa using h2
  obtain ⟨i, rfl⟩ := Int.eq_ofNat_of_zero_le (by omega : 0 ≤ f)
  have hi : i < 32 := by omega
  obtain ⟨v, hv⟩ := hc.f i hi
  have ha := arr_ok (o := d) (off := 0) (len := 32) (sz := 3) hi
  have l1 : (i * 3 + 3 ≤ cs.length) = True := by simp only [eq_iff_iff, iff_true]; exact hv.len
  have t1 := hv.take
  have hfm := hm.f i hi
  have e : M.see (i : Int) = (M.f i).seen := by rw [see_in (by omega) (by omega), Int.toNat_natCast]
  simp -implicitDefEqProofs (disch := first | exact nbf rfl | exact nbt rfl | (simp only [ne_eq, reduceCtorEq, not_false_eq_true]; done) | omega | (simp -implicitDefEqProofs only [St.n_push, St.n_put, St.n_bump, List.length_set] <;> omega) | fail) only [Tab.b37, c2, c3, ha, g, l1, t1, aCallv, aPtrEq, XOp.kind, AOp.run, AO.eval, put, reduceCtorEq, aInt, Nat.reduceEqDiff, initEnv, V.bool, V.i64, resultsOf, AR.get, aExtract, aUn, Int.reduceEq, Int.reduceBEq, Int.reduceBNe, aBox, aLoad, aStore, aPart, aPlace, aArrIdx, aIdx, aLenStr, aConv, aFold, aMinMax, aEqV, aNilCheck, fillV, aEqBool, aEqInt, aEqStr, Nat.reduceAdd, Nat.reduceLeDiff, Nat.reduceMul, Int.reduceLT, Int.reduceLE, Int.reduceToNat, Int.reduceGT, Int.reduceGE, Int.reduceNeg, Int.reduceAdd, Int.reduceSub, wrap64, chkAdd, effAdd, AOp.kind, chkAll, chkSee, Nat.reduceLT, zP.down, zQ.down]
  repeat (first | refine w_fin ?_ | refine w_seq ?_ | refine w_block ?_ | refine w_reg ?_ | refine w_op ?_ | refine w_dop ?_)
  refine (hseen σ.bump (M.f i) v hv.rv hfm.1 (by omega)).mono ?_
  rintro ⟨_, σ2⟩ ⟨rfl, k2⟩
  rw [e]
  simp -implicitDefEqProofs (disch := first | exact nbf rfl | exact nbt rfl | (simp only [ne_eq, reduceCtorEq, not_false_eq_true]; done) | omega | (simp -implicitDefEqProofs only [St.n_push, St.n_put, St.n_bump, List.length_set] <;> omega) | fail) only [s2c, aCallv, aPtrEq, XOp.kind, AOp.run, AO.eval, put, reduceCtorEq, aInt, Nat.reduceEqDiff, initEnv, V.bool, V.i64, resultsOf, AR.get, aExtract, aUn, Int.reduceEq, Int.reduceBEq, Int.reduceBNe, aBox, aLoad, aStore, aPart, aPlace, aArrAddr, aArrIdx, aIdx, aLenStr, aConv, aFold, aMinMax, aEqV, aNilCheck, fillV, aEqBool, aEqInt, aEqStr, Nat.reduceAdd, Nat.reduceLeDiff, Nat.reduceMul, Int.reduceLT, Int.reduceLE, Int.reduceToNat, Int.reduceGT, Int.reduceGE, Int.reduceNeg, Int.reduceAdd, Int.reduceSub, wrap64, chkAdd, effAdd, AOp.kind, chkAll, chkSee, Nat.reduceLT, zP.down, zQ.down]
  exact (Kept.refl noX σ).bump.trans k2

theorem RC.step {cs : List V} {M : DM} (h : RC cs M) (p o : Int) : RC ((cs.set 96 (.sc (.int .i64 p))).set 97 (.sc (.int .i64 o))) { M with power := p, ops := o } := by
  have hl := h.len
  refine ⟨by simp [hl], ?_, ?_, fun i hi => ?_⟩
  · rw [List.getElem?_set_ne (by omega), set_self (by omega)]
  · rw [set_self (by simp; omega)]
  · obtain ⟨v, hv⟩ := h.f i hi
    have key : ∀ j, j < 96 → ((cs.set 96 (.sc (.int .i64 p))).set 97 (.sc (.int .i64 o)))[j]? = cs[j]? := fun j hj => by
      rw [List.getElem?_set_ne (by omega), List.getElem?_set_ne (by omega)]
    exact ⟨v, hv.rv, by rw [key _ (by omega)]; exact hv.c0, by rw [key _ (by omega)]; exact hv.c1, by rw [key _ (by omega)]; exact hv.c2⟩
theorem RC.ops {cs : List V} {M : DM} (h : RC cs M) (o : Int) : RC (cs.set 97 (.sc (.int .i64 o))) { M with ops := o } := by
  have := h.step M.power o
  rwa [set_same h.p] at this
theorem RC.power {cs : List V} {M : DM} (h : RC cs M) (p : Int) : RC (cs.set 96 (.sc (.int .i64 p))) { M with power := p } := by
  have := h.step p M.ops
  rwa [set_same (by rw [List.getElem?_set_ne (by omega)]; exact h.o)] at this
theorem RC.upd {cs cs' : List V} {M : DM} (h : RC cs M) {i : Nat} (hi : i < 32) {F : FM} {v : V} (hl : cs'.length = cs.length) (hf : RFC cs' (i * 3) F v) (ho : ∀ j, j < i * 3 ∨ i * 3 + 3 ≤ j → cs'[j]? = cs[j]?) : RC cs' (M.upd i F) := by
  refine ⟨hl.trans h.len, (ho _ (by omega)).trans h.p, (ho _ (by omega)).trans h.o, fun j hj => ?_⟩
  simp only [DM.upd, Int.toNat_natCast]
  by_cases he : j = i
  · subst he; rw [if_pos rfl]; exact ⟨v, hf⟩
  · rw [if_neg he]
    obtain ⟨w, hw⟩ := h.f j hj
    exact ⟨w, hw.rv, (ho _ (by omega)).trans hw.c0, (ho _ (by omega)).trans hw.c1, (ho _ (by omega)).trans hw.c2⟩

theorem rstep_ok (k : Nat) (ys : YlF) (σ : St) (d : Nat) (M : DM) (f e : Int) (h : RR σ d M) {B : Nat} (hm : M.Ok B) (hB : B ≤ 1000000) :
    W (callY Tab.tb (k + 1) ys 38 [.ptr d 0, .sc (.int .i64 f), .sc (.int .i64 e)] σ) fun r => r.1 = .sc (.int .i64 (M.step f e).2) ∧ RR r.2 d (M.step f e).1 ∧ Kept (· = d) σ r.2 ∧ r.2.n = σ.n := by
  obtain ⟨cs, g, hc⟩ := h
  rw [s_call (af := Tab.b38) rfl (Nat.le_of_ble_eq_true rfl)]
  generalize callY Tab.tb k = cy
  have hp := hc.p
  have ho := hc.o
  have hl := hc.len
  have hd := St.get_lt g
  unfold DM.step
  by_cases h0 : M.power = 0
  · have c1 : (M.power == 0) = true := by simpa using h0
    simp -implicitDefEqProofs (disch := first | exact nbf rfl | exact nbt rfl | (simp only [ne_eq, reduceCtorEq, not_false_eq_true]; done) | omega | (simp -implicitDefEqProofs only [St.n_push, St.n_put, St.n_bump, List.length_set] <;> omega) | fail) only [Tab.b38, g, hp, c1, h0, aCallv, aPtrEq, XOp.kind, AOp.run, AO.eval, put, reduceCtorEq, aInt, Nat.reduceEqDiff, initEnv, V.bool, V.i64, resultsOf, AR.get, aExtract, aUn, Int.reduceEq, Int.reduceBEq, Int.reduceBNe, aBox, aLoad, aStore, aPart, aPlace, aArrAddr, aArrIdx, aIdx, aLenStr, aConv, aFold, aMinMax, aEqV, aNilCheck, fillV, aEqBool, aEqInt, aEqStr, Nat.reduceAdd, Nat.reduceLeDiff, Nat.reduceMul, Int.reduceLT, Int.reduceLE, Int.reduceToNat, Int.reduceGT, Int.reduceGE, Int.reduceNeg, Int.reduceAdd, Int.reduceSub, wrap64, chkAdd, effAdd, AOp.kind, chkAll, chkSee, Nat.reduceLT, zP.down, zQ.down]
    exact ⟨⟨cs, g, hc⟩, Kept.refl _ _⟩
  have c1 : (M.power == 0) = false := by simpa using h0
  by_cases h1 : f < 0
  · have c2 : decide (f < 0) = true := by simpa using h1
    simp -implicitDefEqProofs (disch := first | exact nbf rfl | exact nbt rfl | (simp only [ne_eq, reduceCtorEq, not_false_eq_true]; done) | omega | (simp -implicitDefEqProofs only [St.n_push, St.n_put, St.n_bump, List.length_set] <;> omega) | fail) only [Tab.b38, g, hp, c1, h0, c2, h1, true_or, aCallv, aPtrEq, XOp.kind, AOp.run, AO.eval, put, reduceCtorEq, aInt, Nat.reduceEqDiff, initEnv, V.bool, V.i64, resultsOf, AR.get, aExtract, aUn, Int.reduceEq, Int.reduceBEq, Int.reduceBNe, aBox, aLoad, aStore, aPart, aPlace, aArrAddr, aArrIdx, aIdx, aLenStr, aConv, aFold, aMinMax, aEqV, aNilCheck, fillV, aEqBool, aEqInt, aEqStr, Nat.reduceAdd, Nat.reduceLeDiff, Nat.reduceMul, Int.reduceLT, Int.reduceLE, Int.reduceToNat, Int.reduceGT, Int.reduceGE, Int.reduceNeg, Int.reduceAdd, Int.reduceSub, wrap64, chkAdd, effAdd, AOp.kind, chkAll, chkSee, Nat.reduceLT, zP.down, zQ.down]
    exact ⟨⟨cs, g, hc⟩, Kept.refl _ _⟩
  have c2 : decide (f < 0) = false := by simpa using h1
  by_cases h2 : 32 ≤ f
  · have c3 : decide (f ≥ 32) = true := by simpa using h2
    simp -implicitDefEqProofs (disch := first | exact nbf rfl | exact nbt rfl | (simp only [ne_eq, reduceCtorEq, not_false_eq_true]; done) | omega | (simp -implicitDefEqProofs only [St.n_push, St.n_put, St.n_bump, List.length_set] <;> omega) | fail) only [Tab.b38, g, hp, c1, h0, c2, c3, h1, h2, or_true, aCallv, aPtrEq, XOp.kind, AOp.run, AO.eval, put, reduceCtorEq, aInt, Nat.reduceEqDiff, initEnv, V.bool, V.i64, resultsOf, AR.get, aExtract, aUn, Int.reduceEq, Int.reduceBEq, Int.reduceBNe, aBox, aLoad, aStore, aPart, aPlace, aArrAddr, aArrIdx, aIdx, aLenStr, aConv, aFold, aMinMax, aEqV, aNilCheck, fillV, aEqBool, aEqInt, aEqStr, Nat.reduceAdd, Nat.reduceLeDiff, Nat.reduceMul, Int.reduceLT, Int.reduceLE, Int.reduceToNat, Int.reduceGT, Int.reduceGE, Int.reduceNeg, Int.reduceAdd, Int.reduceSub, wrap64, chkAdd, effAdd, AOp.kind, chkAll, chkSee, Nat.reduceLT, zP.down, zQ.down]
    exact ⟨⟨cs, g, hc⟩, Kept.refl _ _⟩
  have c3 : decide (f ≥ 32) = false := by simpa using h2
  by_cases h3 : e = 0
  · subst h3
    have o0 := hm.o0
    have o1 := hm.o1
    have p1 := hm.p1
    have l0 : (96 + 1 ≤ cs.length) = True := by simp only [eq_iff_iff, iff_true]; omega
    have l1 : (97 + 1 ≤ cs.length) = True := by simp only [eq_iff_iff, iff_true]; omega
    have w1 : IntKind.i64.wrap (M.ops + 1) = M.ops + 1 := wrap64 (by omega) (by omega)
    by_cases h4 : 0 < M.power
    · have c4 : decide (M.power > 0) = true := by simpa using h4
      have w2 : IntKind.i64.wrap (M.power - 1) = M.power - 1 := wrap64 (by omega) (by omega)
      have ho' : (cs.set 96 (.sc (.int .i64 (M.power - 1))))[97]? = some (.sc (.int .i64 M.ops)) := by rw [List.getElem?_set_ne (by omega)]; exact ho
      simp -implicitDefEqProofs (disch := first | exact nbf rfl | exact nbt rfl | (simp only [ne_eq, reduceCtorEq, not_false_eq_true]; done) | omega | (simp -implicitDefEqProofs only [St.n_push, St.n_put, St.n_bump, List.length_set] <;> omega) | fail) only [Tab.b38, g, hp, ho, ho', c1, h0, c2, c3, c4, h1, h2, h4, or_self, l0, l1, w1, w2, aCallv, aPtrEq, XOp.kind, AOp.run, AO.eval, put, reduceCtorEq, aInt, Nat.reduceEqDiff, initEnv, V.bool, V.i64, resultsOf, AR.get, aExtract, aUn, Int.reduceEq, Int.reduceBEq, Int.reduceBNe, aBox, aLoad, aStore, aPart, aPlace, aArrAddr, aArrIdx, aIdx, aLenStr, aConv, aFold, aMinMax, aEqV, aNilCheck, fillV, aEqBool, aEqInt, aEqStr, Nat.reduceAdd, Nat.reduceLeDiff, Nat.reduceMul, Int.reduceLT, Int.reduceLE, Int.reduceToNat, Int.reduceGT, Int.reduceGE, Int.reduceNeg, Int.reduceAdd, Int.reduceSub, wrap64, chkAdd, effAdd, AOp.kind, chkAll, chkSee, Nat.reduceLT, zP.down, zQ.down]
      exact ⟨⟨_, get_put_self (get_put_self g), hc.step _ _⟩, ((Kept.refl (· = d) σ).put (.inl rfl) hd _).put (.inl rfl) hd _⟩
    · have c4 : decide (M.power > 0) = false := by simpa using h4
      simp -implicitDefEqProofs (disch := first | exact nbf rfl | exact nbt rfl | (simp only [ne_eq, reduceCtorEq, not_false_eq_true]; done) | omega | (simp -implicitDefEqProofs only [St.n_push, St.n_put, St.n_bump, List.length_set] <;> omega) | fail) only [Tab.b38, g, hp, ho, c1, h0, c2, c3, c4, h1, h2, h4, or_self, l0, l1, w1, aCallv, aPtrEq, XOp.kind, AOp.run, AO.eval, put, reduceCtorEq, aInt, Nat.reduceEqDiff, initEnv, V.bool, V.i64, resultsOf, AR.get, aExtract, aUn, Int.reduceEq, Int.reduceBEq, Int.reduceBNe, aBox, aLoad, aStore, aPart, aPlace, aArrAddr, aArrIdx, aIdx, aLenStr, aConv, aFold, aMinMax, aEqV, aNilCheck, fillV, aEqBool, aEqInt, aEqStr, Nat.reduceAdd, Nat.reduceLeDiff, Nat.reduceMul, Int.reduceLT, Int.reduceLE, Int.reduceToNat, Int.reduceGT, Int.reduceGE, Int.reduceNeg, Int.reduceAdd, Int.reduceSub, wrap64, chkAdd, effAdd, AOp.kind, chkAll, chkSee, Nat.reduceLT, zP.down, zQ.down]
      exact ⟨⟨_, get_put_self g, hc.ops _⟩, (Kept.refl (· = d) σ).put (.inl rfl) hd _⟩
  · have c4 : (e != 0) = true := by simpa using h3
    simp -implicitDefEqProofs (disch := first | exact nbf rfl | exact nbt rfl | (simp only [ne_eq, reduceCtorEq, not_false_eq_true]; done) | omega | (simp -implicitDefEqProofs only [St.n_push, St.n_put, St.n_bump, List.length_set] <;> omega) | fail) only [Tab.b38, g, hp, c1, h0, c2, c3, c4, h1, h2, h3, or_self, aCallv, aPtrEq, XOp.kind, AOp.run, AO.eval, put, reduceCtorEq, aInt, Nat.reduceEqDiff, initEnv, V.bool, V.i64, resultsOf, AR.get, aExtract, aUn, Int.reduceEq, Int.reduceBEq, Int.reduceBNe, aBox, aLoad, aStore, aPart, aPlace, aArrAddr, aArrIdx, aIdx, aLenStr, aConv, aFold, aMinMax, aEqV, aNilCheck, fillV, aEqBool, aEqInt, aEqStr, Nat.reduceAdd, Nat.reduceLeDiff, Nat.reduceMul, Int.reduceLT, Int.reduceLE, Int.reduceToNat, Int.reduceGT, Int.reduceGE, Int.reduceNeg, Int.reduceAdd, Int.reduceSub, wrap64, chkAdd, effAdd, AOp.kind, chkAll, chkSee, Nat.reduceLT, zP.down, zQ.down]
    exact ⟨⟨cs, g, hc⟩, Kept.refl _ _⟩
end Go.Proofs.Ytkdfahmlcnbadaa.dk
