/-
  Files: the program's calls, on.
-/
import Derived.Test.YtkdfahmlcnbadaaDiskA
namespace Go.Proofs.Ytkdfahmlcnbadaa.dk
open Go.Ab
set_option maxRecDepth 100000
set_option maxHeartbeats 8000000
set_option linter.unusedSimpArgs false
set_option linter.unusedVariables false

theorem sync_ok (k : Nat) (ys : YlF) (σ : St) (d : Nat) (M : DM) (f : Int) (h : DR σ d M) {B : Nat} (hm : M.Ok B) (hB : B ≤ 1000000) :
    W (callY Tab.tb (k + 2) ys 11 [.ptr d 0, .sc (.int .i64 f)] σ) fun r => r.1 = .sc (.int .i64 (M.sync f).2) ∧ DR r.2 d (M.sync f).1 ∧ Kept (· = d) σ r.2 := by
  rw [s_call (af := Tab.b11) rfl (Nat.le_of_ble_eq_true rfl)]
  have hstep := step_ok k ys σ d M f 0 h hm hB
  generalize callY Tab.tb (k + 1) = cy at hstep ⊢
  simp -implicitDefEqProofs (disch := first | exact nbf rfl | exact nbt rfl | (simp only [ne_eq, reduceCtorEq, not_false_eq_true]; done) | omega | (simp -implicitDefEqProofs only [St.n_push, St.n_put, St.n_bump, List.length_set] <;> omega) | fail) only [Tab.b11, aCallv, aPtrEq, XOp.kind, AOp.run, AO.eval, put, reduceCtorEq, aInt, Nat.reduceEqDiff, initEnv, V.bool, V.i64, resultsOf, AR.get, aExtract, aUn, Int.reduceEq, Int.reduceBEq, Int.reduceBNe, aBox, aLoad, aStore, aPart, aPlace, aArrAddr, aArrIdx, aIdx, aLenStr, aConv, aFold, aMinMax, aEqV, aNilCheck, fillV, aEqBool, aEqInt, aEqStr, Nat.reduceAdd, Nat.reduceLeDiff, Nat.reduceMul, Int.reduceLT, Int.reduceLE, Int.reduceToNat, Int.reduceGT, Int.reduceGE, Int.reduceNeg, Int.reduceAdd, Int.reduceSub, wrap64, chkAdd, effAdd, AOp.kind, chkAll, chkSee, Nat.reduceLT, zP.down, zQ.down]
  repeat (first | refine w_fin ?_ | refine w_seq ?_ | refine w_block ?_ | refine w_reg ?_ | refine w_op ?_ | refine w_dop ?_)
  refine hstep.mono ?_
  rintro ⟨_, σ2⟩ ⟨rfl, h1, h2, h3⟩
  unfold DM.sync
  dsimp only at h1 h2 h3 ⊢
  by_cases hz : (M.step f 0).2 = 0
  · have c1 := beq_iff_eq.2 hz
    rw [if_pos hz]
    obtain ⟨_, f0, f1, _⟩ := step_0 hz
    obtain ⟨i, rfl⟩ := Int.eq_ofNat_of_zero_le f0
    have hi : i < 32 := by omega
    obtain ⟨cs, g, hc⟩ := h1
    obtain ⟨v, hv⟩ := hc.f i hi
    have hfi : (M.step (i : Int) 0).1.f i = M.f i := by rw [step_f]
    rw [hfi] at hv
    have hlen := hc.len
    have ha := arr_ok (o := d) (off := 0) (len := 32) (sz := 5) hi
    have hd := St.get_lt g
    have k1 := hv.c1
    have k3 := hv.c3
    have l0 : (i * 5 + 1 ≤ cs.length) = True := by simp only [eq_iff_iff, iff_true]; omega
    have l2 : (i * 5 + 2 + 1 ≤ cs.length) = True := by simp only [eq_iff_iff, iff_true]; omega
    have l4 : (i * 5 + 4 + 1 ≤ cs.length) = True := by simp only [eq_iff_iff, iff_true]; omega
    simp -implicitDefEqProofs (disch := first | exact nbf rfl | exact nbt rfl | (simp only [ne_eq, reduceCtorEq, not_false_eq_true]; done) | omega | (simp -implicitDefEqProofs only [St.n_push, St.n_put, St.n_bump, List.length_set] <;> omega) | fail) only [c1, ha, g, k1, k3, l0, l2, l4, hz, aCallv, aPtrEq, XOp.kind, AOp.run, AO.eval, put, reduceCtorEq, aInt, Nat.reduceEqDiff, initEnv, V.bool, V.i64, resultsOf, AR.get, aExtract, aUn, Int.reduceEq, Int.reduceBEq, Int.reduceBNe, aBox, aLoad, aStore, aPart, aPlace, aArrIdx, aIdx, aLenStr, aConv, aFold, aMinMax, aEqV, aNilCheck, fillV, aEqBool, aEqInt, aEqStr, Nat.reduceAdd, Nat.reduceLeDiff, Nat.reduceMul, Int.reduceLT, Int.reduceLE, Int.reduceToNat, Int.reduceGT, Int.reduceGE, Int.reduceNeg, Int.reduceAdd, Int.reduceSub, wrap64, chkAdd, effAdd, AOp.kind, chkAll, chkSee, Nat.reduceLT, zP.down, zQ.down]
    refine ⟨⟨_, get_put_self (get_put_self (get_put_self g)), hc.upd hi (F := ⟨(M.f i).seen, []⟩) (v := .sc .nilS) (by simp) ?_ ?_⟩, ?_⟩
    · refine ⟨.nil, ?_, ?_, ?_, ?_, ?_⟩
      · rw [List.getElem?_set_ne (by omega), List.getElem?_set_ne (by omega), set_self (by omega)]
      · rw [List.getElem?_set_ne (by omega), List.getElem?_set_ne (by omega), List.getElem?_set_ne (by omega), k1]; rfl
      · rw [List.getElem?_set_ne (by omega), set_self (by simp; omega)]
      · rw [List.getElem?_set_ne (by omega), List.getElem?_set_ne (by omega), List.getElem?_set_ne (by omega), k3]; rfl
      · rw [set_self (by simp; omega)]
    · intro j hj
      rw [List.getElem?_set_ne (by omega), List.getElem?_set_ne (by omega), List.getElem?_set_ne (by omega)]
    · exact ((h2.put (.inl rfl) hd _).put (.inl rfl) hd _).put (.inl rfl) hd _
  · have c1 := beq_eq_false_iff_ne.2 hz
    rw [if_neg hz]
    simp -implicitDefEqProofs (disch := first | exact nbf rfl | exact nbt rfl | (simp only [ne_eq, reduceCtorEq, not_false_eq_true]; done) | omega | (simp -implicitDefEqProofs only [St.n_push, St.n_put, St.n_bump, List.length_set] <;> omega) | fail) only [c1, aCallv, aPtrEq, XOp.kind, AOp.run, AO.eval, put, reduceCtorEq, aInt, Nat.reduceEqDiff, initEnv, V.bool, V.i64, resultsOf, AR.get, aExtract, aUn, Int.reduceEq, Int.reduceBEq, Int.reduceBNe, aBox, aLoad, aStore, aPart, aPlace, aArrAddr, aArrIdx, aIdx, aLenStr, aConv, aFold, aMinMax, aEqV, aNilCheck, fillV, aEqBool, aEqInt, aEqStr, Nat.reduceAdd, Nat.reduceLeDiff, Nat.reduceMul, Int.reduceLT, Int.reduceLE, Int.reduceToNat, Int.reduceGT, Int.reduceGE, Int.reduceNeg, Int.reduceAdd, Int.reduceSub, wrap64, chkAdd, effAdd, AOp.kind, chkAll, chkSee, Nat.reduceLT, zP.down, zQ.down]
    exact ⟨h1, h2⟩

theorem read_ok (k : Nat) (ys : YlF) (σ : St) (d : Nat) (M : DM) (f : Int) (h : DR σ d M) :
    callY Tab.tb (k + 2) ys 13 [.ptr d 0, .sc (.int .i64 f)] σ = some (.tup [.str (M.read f).1, .sc (.int .i64 (M.read f).2)], σ.bump.bump) := by
  rw [s_call (af := Tab.b13) rfl (Nat.le_of_ble_eq_true rfl)]
  obtain ⟨v, hrv, hseen⟩ := seen_ok k ys σ d M f h
  obtain ⟨cs, g, hc⟩ := h
  generalize callY Tab.tb (k + 1) = cy at hseen ⊢
  have hcell := hrv.cell
  have hp := hc.p
  unfold DM.read
  by_cases h0 : M.power = 0
  · have c1 := beq_iff_eq.2 h0
    simp -implicitDefEqProofs (disch := first | exact nbf rfl | exact nbt rfl | (simp only [ne_eq, reduceCtorEq, not_false_eq_true]; done) | omega | (simp -implicitDefEqProofs only [St.n_push, St.n_put, St.n_bump, List.length_set] <;> omega) | fail) only [Tab.b13, hseen, fcell, hcell.1, hcell.2, file_seen, pnil, g, hp, c1, h0, aCallv, aPtrEq, XOp.kind, AOp.run, AO.eval, put, reduceCtorEq, aInt, Nat.reduceEqDiff, initEnv, V.bool, V.i64, resultsOf, AR.get, aExtract, aUn, Int.reduceEq, Int.reduceBEq, Int.reduceBNe, aBox, aLoad, aStore, aPart, aPlace, aArrAddr, aArrIdx, aIdx, aLenStr, aConv, aFold, aMinMax, aNilCheck, fillV, aEqBool, aEqInt, aEqStr, Nat.reduceAdd, Nat.reduceLeDiff, Nat.reduceMul, Int.reduceLT, Int.reduceLE, Int.reduceToNat, Int.reduceGT, Int.reduceGE, Int.reduceNeg, Int.reduceAdd, Int.reduceSub, wrap64, chkAdd, effAdd, AOp.kind, chkAll, chkSee, Nat.reduceLT, zP.down, zQ.down]
  have c1 := beq_eq_false_iff_ne.2 h0
  by_cases h1 : f < 0
  · have c2 : decide (f < 0) = true := by simpa using h1
    simp -implicitDefEqProofs (disch := first | exact nbf rfl | exact nbt rfl | (simp only [ne_eq, reduceCtorEq, not_false_eq_true]; done) | omega | (simp -implicitDefEqProofs only [St.n_push, St.n_put, St.n_bump, List.length_set] <;> omega) | fail) only [Tab.b13, hseen, fcell, hcell.1, hcell.2, file_seen, pnil, g, hp, c1, h0, c2, h1, true_or, aCallv, aPtrEq, XOp.kind, AOp.run, AO.eval, put, reduceCtorEq, aInt, Nat.reduceEqDiff, initEnv, V.bool, V.i64, resultsOf, AR.get, aExtract, aUn, Int.reduceEq, Int.reduceBEq, Int.reduceBNe, aBox, aLoad, aStore, aPart, aPlace, aArrAddr, aArrIdx, aIdx, aLenStr, aConv, aFold, aMinMax, aNilCheck, fillV, aEqBool, aEqInt, aEqStr, Nat.reduceAdd, Nat.reduceLeDiff, Nat.reduceMul, Int.reduceLT, Int.reduceLE, Int.reduceToNat, Int.reduceGT, Int.reduceGE, Int.reduceNeg, Int.reduceAdd, Int.reduceSub, wrap64, chkAdd, effAdd, AOp.kind, chkAll, chkSee, Nat.reduceLT, zP.down, zQ.down]
  have c2 : decide (f < 0) = false := by simpa using h1
  by_cases h2 : 32 ≤ f
  · have c3 : decide (f ≥ 32) = true := by simpa using h2
    simp -implicitDefEqProofs (disch := first | exact nbf rfl | exact nbt rfl | (simp only [ne_eq, reduceCtorEq, not_false_eq_true]; done) | omega | (simp -implicitDefEqProofs only [St.n_push, St.n_put, St.n_bump, List.length_set] <;> omega) | fail) only [Tab.b13, hseen, fcell, hcell.1, hcell.2, file_seen, pnil, g, hp, c1, h0, c2, c3, h1, h2, or_true, aCallv, aPtrEq, XOp.kind, AOp.run, AO.eval, put, reduceCtorEq, aInt, Nat.reduceEqDiff, initEnv, V.bool, V.i64, resultsOf, AR.get, aExtract, aUn, Int.reduceEq, Int.reduceBEq, Int.reduceBNe, aBox, aLoad, aStore, aPart, aPlace, aArrAddr, aArrIdx, aIdx, aLenStr, aConv, aFold, aMinMax, aNilCheck, fillV, aEqBool, aEqInt, aEqStr, Nat.reduceAdd, Nat.reduceLeDiff, Nat.reduceMul, Int.reduceLT, Int.reduceLE, Int.reduceToNat, Int.reduceGT, Int.reduceGE, Int.reduceNeg, Int.reduceAdd, Int.reduceSub, wrap64, chkAdd, effAdd, AOp.kind, chkAll, chkSee, Nat.reduceLT, zP.down, zQ.down]
  have c3 : decide (f ≥ 32) = false := by simpa using h2
  cases ht : (M.see f).there with
  | false => simp -implicitDefEqProofs (disch := first | exact nbf rfl | exact nbt rfl | (simp only [ne_eq, reduceCtorEq, not_false_eq_true]; done) | omega | (simp -implicitDefEqProofs only [St.n_push, St.n_put, St.n_bump, List.length_set] <;> omega) | fail) only [Tab.b13, hseen, fcell, hcell.1, hcell.2, file_seen, pnil, g, hp, c1, h0, c2, c3, h1, h2, or_self, ht, aCallv, aPtrEq, XOp.kind, AOp.run, AO.eval, put, reduceCtorEq, aInt, Nat.reduceEqDiff, initEnv, V.bool, V.i64, resultsOf, AR.get, aExtract, aUn, Int.reduceEq, Int.reduceBEq, Int.reduceBNe, aBox, aLoad, aStore, aPart, aPlace, aArrAddr, aArrIdx, aIdx, aLenStr, aConv, aFold, aMinMax, aNilCheck, fillV, aEqBool, aEqInt, aEqStr, Nat.reduceAdd, Nat.reduceLeDiff, Nat.reduceMul, Int.reduceLT, Int.reduceLE, Int.reduceToNat, Int.reduceGT, Int.reduceGE, Int.reduceNeg, Int.reduceAdd, Int.reduceSub, wrap64, chkAdd, effAdd, AOp.kind, chkAll, chkSee, Nat.reduceLT, zP.down, zQ.down]
  | true => simp -implicitDefEqProofs (disch := first | exact nbf rfl | exact nbt rfl | (simp only [ne_eq, reduceCtorEq, not_false_eq_true]; done) | omega | (simp -implicitDefEqProofs only [St.n_push, St.n_put, St.n_bump, List.length_set] <;> omega) | fail) only [Tab.b13, hseen, fcell, hcell.1, hcell.2, file_seen, pnil, g, hp, c1, h0, c2, c3, h1, h2, or_self, ht, aCallv, aPtrEq, XOp.kind, AOp.run, AO.eval, put, reduceCtorEq, aInt, Nat.reduceEqDiff, initEnv, V.bool, V.i64, resultsOf, AR.get, aExtract, aUn, Int.reduceEq, Int.reduceBEq, Int.reduceBNe, aBox, aLoad, aStore, aPart, aPlace, aArrAddr, aArrIdx, aIdx, aLenStr, aConv, aFold, aMinMax, aNilCheck, fillV, aEqBool, aEqInt, aEqStr, Nat.reduceAdd, Nat.reduceLeDiff, Nat.reduceMul, Int.reduceLT, Int.reduceLE, Int.reduceToNat, Int.reduceGT, Int.reduceGE, Int.reduceNeg, Int.reduceAdd, Int.reduceSub, wrap64, chkAdd, effAdd, AOp.kind, chkAll, chkSee, Nat.reduceLT, zP.down, zQ.down]

theorem loose_ok (k : Nat) (ys : YlF) (σ : St) (d : Nat) (M : DM) (f : Int) (h : DR σ d M) :
    callY Tab.tb (k + 2) ys 14 [.ptr d 0, .sc (.int .i64 f)] σ = some (.sc (.int .i64 (M.file f).loose.length), σ.bump.bump) := by
  rw [s_call (af := Tab.b14) rfl (Nat.le_of_ble_eq_true rfl)]
  obtain ⟨v, hrv, hseen⟩ := seen_ok k ys σ d M f h
  generalize callY Tab.tb (k + 1) = cy at hseen ⊢
  have hcell := hrv.cell
  have hl := hrv.len
  rw [List.length_map] at hl
  simp -implicitDefEqProofs (disch := first | exact nbf rfl | exact nbt rfl | (simp only [ne_eq, reduceCtorEq, not_false_eq_true]; done) | omega | (simp -implicitDefEqProofs only [St.n_push, St.n_put, St.n_bump, List.length_set] <;> omega) | fail) only [Tab.b14, hseen, fcell, hcell.1, hcell.2, hl, aCallv, aPtrEq, XOp.kind, AOp.run, AO.eval, put, reduceCtorEq, aInt, Nat.reduceEqDiff, initEnv, V.bool, V.i64, resultsOf, AR.get, aExtract, aUn, Int.reduceEq, Int.reduceBEq, Int.reduceBNe, aBox, aLoad, aStore, aPart, aPlace, aArrAddr, aArrIdx, aIdx, aLenStr, aConv, aFold, aMinMax, aEqV, aNilCheck, fillV, aEqBool, aEqInt, aEqStr, Nat.reduceAdd, Nat.reduceLeDiff, Nat.reduceMul, Int.reduceLT, Int.reduceLE, Int.reduceToNat, Int.reduceGT, Int.reduceGE, Int.reduceNeg, Int.reduceAdd, Int.reduceSub, wrap64, chkAdd, effAdd, AOp.kind, chkAll, chkSee, Nat.reduceLT, zP.down, zQ.down]

theorem sure_ok (k : Nat) (ys : YlF) (σ : St) (d : Nat) (M : DM) (f : Int) (h : DR σ d M) :
    callY Tab.tb (k + 2) ys 20 [.ptr d 0, .sc (.int .i64 f)] σ = some (.tup [.str (M.file f).sure.s, .sc (.bool (M.file f).sure.there)], σ.bump.bump) := by
  rw [s_call (af := Tab.b20) rfl (Nat.le_of_ble_eq_true rfl)]
  obtain ⟨v, hrv, hseen⟩ := seen_ok k ys σ d M f h
  generalize callY Tab.tb (k + 1) = cy at hseen ⊢
  have hcell := hrv.cell
  simp -implicitDefEqProofs (disch := first | exact nbf rfl | exact nbt rfl | (simp only [ne_eq, reduceCtorEq, not_false_eq_true]; done) | omega | (simp -implicitDefEqProofs only [St.n_push, St.n_put, St.n_bump, List.length_set] <;> omega) | fail) only [Tab.b20, hseen, fcell, hcell.1, hcell.2, aCallv, aPtrEq, XOp.kind, AOp.run, AO.eval, put, reduceCtorEq, aInt, Nat.reduceEqDiff, initEnv, V.bool, V.i64, resultsOf, AR.get, aExtract, aUn, Int.reduceEq, Int.reduceBEq, Int.reduceBNe, aBox, aLoad, aStore, aPart, aPlace, aArrAddr, aArrIdx, aIdx, aLenStr, aConv, aFold, aMinMax, aEqV, aNilCheck, fillV, aEqBool, aEqInt, aEqStr, Nat.reduceAdd, Nat.reduceLeDiff, Nat.reduceMul, Int.reduceLT, Int.reduceLE, Int.reduceToNat, Int.reduceGT, Int.reduceGE, Int.reduceNeg, Int.reduceAdd, Int.reduceSub, wrap64, chkAdd, effAdd, AOp.kind, chkAll, chkSee, Nat.reduceLT, zP.down, zQ.down]

theorem on_ok (k : Nat) (ys : YlF) (σ : St) (d : Nat) (M : DM) (h : DR σ d M) :
    callY Tab.tb (k + 1) ys 17 [.ptr d 0] σ = some (.sc (.bool (M.power != 0)), σ) := by
  rw [s_call (af := Tab.b17) rfl (Nat.le_of_ble_eq_true rfl)]
  obtain ⟨cs, g, hc⟩ := h
  generalize callY Tab.tb k = cy
  have hp := hc.p
  simp -implicitDefEqProofs (disch := first | exact nbf rfl | exact nbt rfl | (simp only [ne_eq, reduceCtorEq, not_false_eq_true]; done) | omega | (simp -implicitDefEqProofs only [St.n_push, St.n_put, St.n_bump, List.length_set] <;> omega) | fail) only [Tab.b17, pnil, g, hp, aCallv, aPtrEq, XOp.kind, AOp.run, AO.eval, put, reduceCtorEq, aInt, Nat.reduceEqDiff, initEnv, V.bool, V.i64, resultsOf, AR.get, aExtract, aUn, Int.reduceEq, Int.reduceBEq, Int.reduceBNe, aBox, aLoad, aStore, aPart, aPlace, aArrAddr, aArrIdx, aIdx, aLenStr, aConv, aFold, aMinMax, aNilCheck, fillV, aEqBool, aEqInt, aEqStr, Nat.reduceAdd, Nat.reduceLeDiff, Nat.reduceMul, Int.reduceLT, Int.reduceLE, Int.reduceToNat, Int.reduceGT, Int.reduceGE, Int.reduceNeg, Int.reduceAdd, Int.reduceSub, wrap64, chkAdd, effAdd, AOp.kind, chkAll, chkSee, Nat.reduceLT, zP.down, zQ.down]

theorem ops_ok (k : Nat) (ys : YlF) (σ : St) (d : Nat) (M : DM) (h : DR σ d M) :
    callY Tab.tb (k + 1) ys 19 [.ptr d 0] σ = some (.sc (.int .i64 M.ops), σ) := by
  rw [s_call (af := Tab.b19) rfl (Nat.le_of_ble_eq_true rfl)]
  obtain ⟨cs, g, hc⟩ := h
  generalize callY Tab.tb k = cy
  have ho := hc.o
  simp -implicitDefEqProofs (disch := first | exact nbf rfl | exact nbt rfl | (simp only [ne_eq, reduceCtorEq, not_false_eq_true]; done) | omega | (simp -implicitDefEqProofs only [St.n_push, St.n_put, St.n_bump, List.length_set] <;> omega) | fail) only [Tab.b19, pnil, g, ho, aCallv, aPtrEq, XOp.kind, AOp.run, AO.eval, put, reduceCtorEq, aInt, Nat.reduceEqDiff, initEnv, V.bool, V.i64, resultsOf, AR.get, aExtract, aUn, Int.reduceEq, Int.reduceBEq, Int.reduceBNe, aBox, aLoad, aStore, aPart, aPlace, aArrAddr, aArrIdx, aIdx, aLenStr, aConv, aFold, aMinMax, aNilCheck, fillV, aEqBool, aEqInt, aEqStr, Nat.reduceAdd, Nat.reduceLeDiff, Nat.reduceMul, Int.reduceLT, Int.reduceLE, Int.reduceToNat, Int.reduceGT, Int.reduceGE, Int.reduceNeg, Int.reduceAdd, Int.reduceSub, wrap64, chkAdd, effAdd, AOp.kind, chkAll, chkSee, Nat.reduceLT, zP.down, zQ.down]

theorem max64 (a b : Int) : aFold true (.sc (.int .i64 a)) [.sc (.int .i64 b)] = some (.sc (.int .i64 (max a b))) := by
  simp only [aFold, aMinMax, Option.bind_some]
  by_cases h : a < b
  · rw [show max a b = b by omega]; simp [h]; try omega
  · rw [show max a b = a by omega]; simp; omega
theorem min64 (a b : Int) : aFold false (.sc (.int .i64 a)) [.sc (.int .i64 b)] = some (.sc (.int .i64 (min a b))) := by
  simp only [aFold, aMinMax, Option.bind_some]
  by_cases h : b < a
  · rw [show min a b = b by omega]; simp [h]; try omega
  · rw [show min a b = a by omega]; simp; omega

theorem power_ok (k : Nat) (ys : YlF) (σ : St) (d : Nat) (M : DM) (n : Int) (h : DR σ d M) :
    W (callY Tab.tb (k + 1) ys 16 [.ptr d 0, .sc (.int .i64 n)] σ) fun r => r.1 = .sc (.int .i64 0) ∧ DR r.2 d { M with power := max n (-1) } ∧ Kept (· = d) σ r.2 ∧ r.2.n = σ.n := by
  rw [s_call (af := Tab.b16) rfl (Nat.le_of_ble_eq_true rfl)]
  obtain ⟨cs, g, hc⟩ := h
  generalize callY Tab.tb k = cy
  have hl := hc.len
  have l0 : (160 + 1 ≤ cs.length) = True := by simp only [eq_iff_iff, iff_true]; omega
  have hm := max64 n (-1)
  simp -implicitDefEqProofs (disch := first | exact nbf rfl | exact nbt rfl | (simp only [ne_eq, reduceCtorEq, not_false_eq_true]; done) | omega | (simp -implicitDefEqProofs only [St.n_push, St.n_put, St.n_bump, List.length_set] <;> omega) | fail) only [Tab.b16, pnil, g, l0, hm, aCallv, aPtrEq, XOp.kind, AOp.run, AO.eval, put, reduceCtorEq, aInt, Nat.reduceEqDiff, initEnv, V.bool, V.i64, resultsOf, AR.get, aExtract, aUn, Int.reduceEq, Int.reduceBEq, Int.reduceBNe, aBox, aLoad, aStore, aPart, aPlace, aArrAddr, aArrIdx, aIdx, aLenStr, aConv, aMinMax, aNilCheck, fillV, aEqBool, aEqInt, aEqStr, Nat.reduceAdd, Nat.reduceLeDiff, Nat.reduceMul, Int.reduceLT, Int.reduceLE, Int.reduceToNat, Int.reduceGT, Int.reduceGE, Int.reduceNeg, Int.reduceAdd, Int.reduceSub, wrap64, chkAdd, effAdd, AOp.kind, chkAll, chkSee, Nat.reduceLT, zP.down, zQ.down]
  exact ⟨⟨_, get_put_self g, hc.power _⟩, (Kept.refl (· = d) σ).put (.inl rfl) (St.get_lt g) _⟩
theorem sl_to {u : List UInt8} {n : Nat} (h : n ≤ u.length) : aSlice (.str u) none (some (.sc (.int .i64 (n : Int)))) none = some (.str (u.take n)) := by
  have h1 : (0 : Int) ≤ n ∧ (n : Int) ≤ u.length := by omega
  simp [aSlice, aBounds, aBnd, h1]

end Go.Proofs.Ytkdfahmlcnbadaa.dk
