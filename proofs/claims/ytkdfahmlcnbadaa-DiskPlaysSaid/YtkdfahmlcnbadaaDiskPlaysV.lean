/-
  DiskPlays: its loop.
-/
import Derived.Test.YtkdfahmlcnbadaaDiskAl
namespace Go.Proofs.Ytkdfahmlcnbadaa.dk
open Go.Ab
set_option maxRecDepth 100000
set_option maxHeartbeats 8000000
set_option linter.unusedSimpArgs false
set_option linter.unusedVariables false

theorem plays_run (k : Nat) (σ0 : St) (x : V) (l : List Stp) (h : Scr x l) (hk : 9223372036854775808 ≤ k) (σ1 : St) (hw : callY Tab.tb (k + 6) noYl 7 [] σ0 = some (.sc (.bool true), σ1)) :
    W (callY Tab.tb (k + 7) noYl 6 [x] σ0) fun r => r.1 = .sc (.bool true) := by
  rw [s_call (af := Tab.b6) rfl (Nat.le_of_ble_eq_true rfl)]
  have hheavy := fun σ => heavy_ok (k + 5) noYl σ x l h (by omega)
  have hnew := fun σ => new_ok (k + 5) noYl σ
  have hrnew := fun σ => rnew_ok (k + 5) noYl σ
  have hcopy := fun σ d M h B hm hB => copy_ok (B := B) (k + 4) noYl σ d M h hm hB (by omega)
  have hrcopy := fun σ w M h => rcopy_ok (k + 5) noYl σ w M h
  have happ := fun σ d M s h B hm hB => append_ok (B := B) (k + 3) noYl σ d M 0 s h hm hB
  have hcra := fun σ d M kv ks t h hkv B hm hB => crash_ok (B := B) (k + 3) noYl σ d M kv ks t h hkv hm hB (by omega)
  have hdoes := fun σ d w M p hd hr hne B hm hB hp hs h6 => does2_ok (B := B) k noYl σ d w M p hd hr hne hm hB hp hk hs h6
  have halike := fun σ d w M hd hr B hm hB => alike_ok' (B := B) (k + 1) noYl σ d w M hd hr hm hB (by omega)
  generalize callY Tab.tb (k + 6) = cy at hw hheavy hnew hrnew hcopy hrcopy happ hcra hdoes halike ⊢
  have hlen := h.rv.len
  rw [List.length_map] at hlen
  have hsize := h.rv.size
  simp -implicitDefEqProofs (disch := first | exact nbf rfl | exact nbt rfl | (simp only [ne_eq, reduceCtorEq, not_false_eq_true]; done) | omega | (simp -implicitDefEqProofs only [St.n_push, St.n_put, St.n_bump, List.length_set] <;> omega) | fail) only [Tab.b6, hw, aCallv, aPtrEq, XOp.kind, AOp.run, AO.eval, put, reduceCtorEq, aInt, Nat.reduceEqDiff, initEnv, V.bool, V.i64, resultsOf, AR.get, aExtract, aUn, Int.reduceEq, Int.reduceBEq, Int.reduceBNe, aBox, aLoad, aStore, aPart, aPlace, aArrAddr, aArrIdx, aIdx, aLenStr, aConv, aFold, aMinMax, aEqV, aNilCheck, fillV, aEqBool, aEqInt, aEqStr, Nat.reduceAdd, Nat.reduceLeDiff, Nat.reduceMul, Int.reduceLT, Int.reduceLE, Int.reduceToNat, Int.reduceGT, Int.reduceGE, Int.reduceNeg, Int.reduceAdd, Int.reduceSub, wrap64, chkAdd, effAdd, AOp.kind, chkAll, chkSee, Nat.reduceLT, zP.down, zQ.down]
  repeat (first | refine w_fin ?_ | refine w_seq ?_ | refine w_block ?_ | refine w_reg ?_ | refine w_op ?_ | refine w_dop ?_)
  refine (hheavy σ1).mono ?_
  rintro ⟨_, σ2⟩ ⟨b, rfl, _, hb⟩
  cases b with
  | true => simp -implicitDefEqProofs (disch := first | exact nbf rfl | exact nbt rfl | (simp only [ne_eq, reduceCtorEq, not_false_eq_true]; done) | omega | (simp -implicitDefEqProofs only [St.n_push, St.n_put, St.n_bump, List.length_set] <;> omega) | fail) only [aCallv, aPtrEq, XOp.kind, AOp.run, AO.eval, put, reduceCtorEq, aInt, Nat.reduceEqDiff, initEnv, V.bool, V.i64, resultsOf, AR.get, aExtract, aUn, Int.reduceEq, Int.reduceBEq, Int.reduceBNe, aBox, aLoad, aStore, aPart, aPlace, aArrAddr, aArrIdx, aIdx, aLenStr, aConv, aFold, aMinMax, aEqV, aNilCheck, fillV, aEqBool, aEqInt, aEqStr, Nat.reduceAdd, Nat.reduceLeDiff, Nat.reduceMul, Int.reduceLT, Int.reduceLE, Int.reduceToNat, Int.reduceGT, Int.reduceGE, Int.reduceNeg, Int.reduceAdd, Int.reduceSub, wrap64, chkAdd, effAdd, AOp.kind, chkAll, chkSee, Nat.reduceLT, zP.down, zQ.down]
  | false =>
  obtain ⟨hl100, hs⟩ := hb rfl
  simp -implicitDefEqProofs (disch := first | exact nbf rfl | exact nbt rfl | (simp only [ne_eq, reduceCtorEq, not_false_eq_true]; done) | omega | (simp -implicitDefEqProofs only [St.n_push, St.n_put, St.n_bump, List.length_set] <;> omega) | fail) only [aCallv, aPtrEq, XOp.kind, AOp.run, AO.eval, put, reduceCtorEq, aInt, Nat.reduceEqDiff, initEnv, V.bool, V.i64, resultsOf, AR.get, aExtract, aUn, Int.reduceEq, Int.reduceBEq, Int.reduceBNe, aBox, aLoad, aStore, aPart, aPlace, aArrAddr, aArrIdx, aIdx, aLenStr, aConv, aFold, aMinMax, aEqV, aNilCheck, fillV, aEqBool, aEqInt, aEqStr, Nat.reduceAdd, Nat.reduceLeDiff, Nat.reduceMul, Int.reduceLT, Int.reduceLE, Int.reduceToNat, Int.reduceGT, Int.reduceGE, Int.reduceNeg, Int.reduceAdd, Int.reduceSub, wrap64, chkAdd, effAdd, AOp.kind, chkAll, chkSee, Nat.reduceLT, zP.down, zQ.down]
  repeat (first | refine w_fin ?_ | refine w_seq ?_ | refine w_block ?_ | refine w_reg ?_ | refine w_op ?_ | refine w_dop ?_)
  refine (hnew σ2).mono ?_
  rintro ⟨_, σ3⟩ ⟨rfl, hd, _, hn3⟩
  dsimp only at hd hn3
  simp -implicitDefEqProofs (disch := first | exact nbf rfl | exact nbt rfl | (simp only [ne_eq, reduceCtorEq, not_false_eq_true]; done) | omega | (simp -implicitDefEqProofs only [St.n_push, St.n_put, St.n_bump, List.length_set] <;> omega) | fail) only [aCallv, aPtrEq, XOp.kind, AOp.run, AO.eval, put, reduceCtorEq, aInt, Nat.reduceEqDiff, initEnv, V.bool, V.i64, resultsOf, AR.get, aExtract, aUn, Int.reduceEq, Int.reduceBEq, Int.reduceBNe, aBox, aLoad, aStore, aPart, aPlace, aArrAddr, aArrIdx, aIdx, aLenStr, aConv, aFold, aMinMax, aEqV, aNilCheck, fillV, aEqBool, aEqInt, aEqStr, Nat.reduceAdd, Nat.reduceLeDiff, Nat.reduceMul, Int.reduceLT, Int.reduceLE, Int.reduceToNat, Int.reduceGT, Int.reduceGE, Int.reduceNeg, Int.reduceAdd, Int.reduceSub, wrap64, chkAdd, effAdd, AOp.kind, chkAll, chkSee, Nat.reduceLT, zP.down, zQ.down]
  repeat (first | refine w_fin ?_ | refine w_seq ?_ | refine w_block ?_ | refine w_reg ?_ | refine w_op ?_ | refine w_dop ?_)
  refine (hrnew σ3).mono ?_
  rintro ⟨_, σ4⟩ ⟨rfl, hr, k4, _⟩
  dsimp only at hr k4
  have hd := hd.kept k4 (fun h => h)
  have hne : σ2.n ≠ σ3.n := by omega
  generalize σ2.n = d0 at *
  generalize σ3.n = w0 at *
  simp -implicitDefEqProofs (disch := first | exact nbf rfl | exact nbt rfl | (simp only [ne_eq, reduceCtorEq, not_false_eq_true]; done) | omega | (simp -implicitDefEqProofs only [St.n_push, St.n_put, St.n_bump, List.length_set] <;> omega) | fail) only [hlen, aCallv, aPtrEq, XOp.kind, AOp.run, AO.eval, put, reduceCtorEq, aInt, Nat.reduceEqDiff, initEnv, V.bool, V.i64, resultsOf, AR.get, aExtract, aUn, Int.reduceEq, Int.reduceBEq, Int.reduceBNe, aBox, aLoad, aStore, aPart, aPlace, aArrAddr, aArrIdx, aIdx, aLenStr, aConv, aFold, aMinMax, aEqV, aNilCheck, fillV, aEqBool, aEqInt, aEqStr, Nat.reduceAdd, Nat.reduceLeDiff, Nat.reduceMul, Int.reduceLT, Int.reduceLE, Int.reduceToNat, Int.reduceGT, Int.reduceGE, Int.reduceNeg, Int.reduceAdd, Int.reduceSub, wrap64, chkAdd, effAdd, AOp.kind, chkAll, chkSee, Nat.reduceLT, zP.down, zQ.down]
  repeat (first | refine w_fin ?_ | refine w_seq ?_ | refine w_block ?_ | refine w_reg ?_ | refine w_op ?_ | refine w_dop ?_)
  refine W.mono (Q := fun r => ∃ (ρ : Env) (σ : St), r = ((.exit 0 : Ex), ρ, σ)) ?_ ?_
  · refine w_loop (fun m ρ σ => ∃ (i d w : Nat) (M : DM), m = l.length - i ∧ i ≤ l.length ∧ M.Ok i ∧ DR σ d M ∧ RR σ w M ∧ d ≠ w ∧ ρ 3 = .ptr d 0 ∧ ρ 4 = .ptr w 0 ∧ ρ 15 = x ∧ ρ 16 = .sc (.int .i64 l.length) ∧ ρ 17 = .sc (.int .i64 i)) l.length (by omega) ?_ ?_
    · refine ⟨0, d0, w0, D0, rfl, Nat.zero_le _, DM.Ok.zero 0, hd, hr, hne, ?_, ?_, ?_, ?_, ?_⟩
      all_goals first | rfl | (simp -implicitDefEqProofs (disch := first | exact nbf rfl | exact nbt rfl | (simp only [ne_eq, reduceCtorEq, not_false_eq_true]; done) | omega | (simp -implicitDefEqProofs only [St.n_push, St.n_put, St.n_bump, List.length_set] <;> omega) | fail) only [aCallv, aPtrEq, XOp.kind, AOp.run, AO.eval, put, reduceCtorEq, aInt, Nat.reduceEqDiff, initEnv, V.bool, V.i64, resultsOf, AR.get, aExtract, aUn, Int.reduceEq, Int.reduceBEq, Int.reduceBNe, aBox, aLoad, aStore, aPart, aPlace, aArrAddr, aArrIdx, aIdx, aLenStr, aConv, aFold, aMinMax, aEqV, aNilCheck, fillV, aEqBool, aEqInt, aEqStr, Nat.reduceAdd, Nat.reduceLeDiff, Nat.reduceMul, Int.reduceLT, Int.reduceLE, Int.reduceToNat, Int.reduceGT, Int.reduceGE, Int.reduceNeg, Int.reduceAdd, Int.reduceSub, wrap64, chkAdd, effAdd, AOp.kind, chkAll, chkSee, Nat.reduceLT, zP.down, zQ.down]; done) | (simp -implicitDefEqProofs (disch := first | exact nbf rfl | exact nbt rfl | (simp only [ne_eq, reduceCtorEq, not_false_eq_true]; done) | omega | (simp -implicitDefEqProofs only [St.n_push, St.n_put, St.n_bump, List.length_set] <;> omega) | fail) only [aCallv, aPtrEq, XOp.kind, AOp.run, AO.eval, put, reduceCtorEq, aInt, Nat.reduceEqDiff, initEnv, V.bool, V.i64, resultsOf, AR.get, aExtract, aUn, Int.reduceEq, Int.reduceBEq, Int.reduceBNe, aBox, aLoad, aStore, aPart, aPlace, aArrAddr, aArrIdx, aIdx, aLenStr, aConv, aFold, aMinMax, aEqV, aNilCheck, fillV, aEqBool, aEqInt, aEqStr, Nat.reduceAdd, Nat.reduceLeDiff, Nat.reduceMul, Int.reduceLT, Int.reduceLE, Int.reduceToNat, Int.reduceGT, Int.reduceGE, Int.reduceNeg, Int.reduceAdd, Int.reduceSub, wrap64, chkAdd, effAdd, AOp.kind, chkAll, chkSee, Nat.reduceLT, zP.down, zQ.down]; rfl)
    · rintro m ρ σ ⟨i, d, w, M, hm, hi, hM, hd, hr, hne, e3, e4, e15, e16, e17⟩
      by_cases hl : i < l.length
      · have c1 : decide ((i : Int) < (l.length : Int)) = true := by simpa using hl
        obtain ⟨a1, a2, a3⟩ := h.at hl
        simp only [stc] at a3
        have hok := h.ok _ (List.getElem_mem hl)
        have hsl := hs _ (List.getElem_mem hl)
        have hcell := hok.kv.cell
        have w1 : IntKind.i64.wrap ((i : Int) + 1) = (i : Int) + 1 := wrap64 (by omega) (by omega)
        have kb : Kept noX σ σ.bump := (Kept.refl _ _).bump
        have hdb := hd.kept kb (fun h => h)
        have hrb := hr.kept kb (fun h => h)
        generalize l[i] = p at *
        by_cases q6 : p.k = 6
        · have c6 := beq_iff_eq.2 q6
          simp -implicitDefEqProofs (disch := first | exact nbf rfl | exact nbt rfl | (simp only [ne_eq, reduceCtorEq, not_false_eq_true]; done) | omega | (simp -implicitDefEqProofs only [St.n_push, St.n_put, St.n_bump, List.length_set] <;> omega) | fail) only [c1, e3, e4, e15, e16, e17, a1, a2, a3, hsize, hcell.1, hcell.2, c6, aCallv, aPtrEq, XOp.kind, AOp.run, AO.eval, put, reduceCtorEq, aInt, Nat.reduceEqDiff, initEnv, V.bool, V.i64, resultsOf, AR.get, aExtract, aUn, Int.reduceEq, Int.reduceBEq, Int.reduceBNe, aBox, aLoad, aStore, aPart, aPlace, aArrAddr, aArrIdx, aIdx, aLenStr, aConv, aFold, aMinMax, aEqV, aNilCheck, fillV, aEqBool, aEqInt, aEqStr, Nat.reduceAdd, Nat.reduceLeDiff, Nat.reduceMul, Int.reduceLT, Int.reduceLE, Int.reduceToNat, Int.reduceGT, Int.reduceGE, Int.reduceNeg, Int.reduceAdd, Int.reduceSub, wrap64, chkAdd, effAdd, AOp.kind, chkAll, chkSee, Nat.reduceLT, zP.down, zQ.down]
          repeat (first | refine w_fin ?_ | refine w_seq ?_ | refine w_block ?_ | refine w_reg ?_ | refine w_op ?_ | refine w_dop ?_)
          refine (hcopy σ.bump d M hdb i hM (by omega)).mono ?_
          rintro ⟨_, σ5⟩ ⟨c, rfl, hcn, hc5, k5⟩
          dsimp only at hc5 k5
          have hr5 := hrb.kept k5 (fun h => h)
          have hd5 := hdb.kept k5 (fun h => h)
          simp -implicitDefEqProofs (disch := first | exact nbf rfl | exact nbt rfl | (simp only [ne_eq, reduceCtorEq, not_false_eq_true]; done) | omega | (simp -implicitDefEqProofs only [St.n_push, St.n_put, St.n_bump, List.length_set] <;> omega) | fail) only [e3, e4, aCallv, aPtrEq, XOp.kind, AOp.run, AO.eval, put, reduceCtorEq, aInt, Nat.reduceEqDiff, initEnv, V.bool, V.i64, resultsOf, AR.get, aExtract, aUn, Int.reduceEq, Int.reduceBEq, Int.reduceBNe, aBox, aLoad, aStore, aPart, aPlace, aArrAddr, aArrIdx, aIdx, aLenStr, aConv, aFold, aMinMax, aEqV, aNilCheck, fillV, aEqBool, aEqInt, aEqStr, Nat.reduceAdd, Nat.reduceLeDiff, Nat.reduceMul, Int.reduceLT, Int.reduceLE, Int.reduceToNat, Int.reduceGT, Int.reduceGE, Int.reduceNeg, Int.reduceAdd, Int.reduceSub, wrap64, chkAdd, effAdd, AOp.kind, chkAll, chkSee, Nat.reduceLT, zP.down, zQ.down]
          repeat (first | refine w_fin ?_ | refine w_seq ?_ | refine w_block ?_ | refine w_reg ?_ | refine w_op ?_ | refine w_dop ?_)
          refine (hrcopy σ5 w M hr5).mono ?_
          rintro ⟨_, σ6⟩ ⟨v, rfl, hvn, hv6, k6⟩
          dsimp only at hv6 k6
          have hd6 := hd5.kept k6 (fun h => h)
          have hc6 := hc5.kept k6 (fun h => h)
          have hdlt := hdb.lt
          have hclt := hc5.lt
          have hn5 := k5.n
          have hcd : c ≠ d := by omega
          have hvd : v ≠ d := by omega
          have hcv : c ≠ v := by omega
          simp -implicitDefEqProofs (disch := first | exact nbf rfl | exact nbt rfl | (simp only [ne_eq, reduceCtorEq, not_false_eq_true]; done) | omega | (simp -implicitDefEqProofs only [St.n_push, St.n_put, St.n_bump, List.length_set] <;> omega) | fail) only [e3, e4, pnil, aCallv, aPtrEq, XOp.kind, AOp.run, AO.eval, put, reduceCtorEq, aInt, Nat.reduceEqDiff, initEnv, V.bool, V.i64, resultsOf, AR.get, aExtract, aUn, Int.reduceEq, Int.reduceBEq, Int.reduceBNe, aBox, aLoad, aStore, aPart, aPlace, aArrAddr, aArrIdx, aIdx, aLenStr, aConv, aFold, aMinMax, aNilCheck, fillV, aEqBool, aEqInt, aEqStr, Nat.reduceAdd, Nat.reduceLeDiff, Nat.reduceMul, Int.reduceLT, Int.reduceLE, Int.reduceToNat, Int.reduceGT, Int.reduceGE, Int.reduceNeg, Int.reduceAdd, Int.reduceSub, wrap64, chkAdd, effAdd, AOp.kind, chkAll, chkSee, Nat.reduceLT, zP.down, zQ.down]
          repeat (first | refine w_fin ?_ | refine w_seq ?_ | refine w_block ?_ | refine w_reg ?_ | refine w_op ?_ | refine w_dop ?_)
          refine (happ σ6 d M _ hd6 i hM (by omega)).mono ?_
          rintro ⟨_, σ7⟩ ⟨rfl, hd7, k7⟩
          dsimp only at hd7 k7
          have hM7 := hM.change (f := 0) (c := ⟨1, [115, 112, 111, 105, 108, 116], 0⟩) (.inl rfl)
          have bs : aBslice 1 1 [.sc (.int .i64 0)] [(0, 1, .sc (.int .i64 9))] = some (.vs .exact 1 1 [.sc (.int .i64 9)]) := rfl
          have hrv : RV 1 (.vs .exact 1 1 [.sc (.int .i64 9)]) ([9].map kc) := RV.vs (own := .exact) (es := [9].map kc) (by simp [kc]) (by simp [kc, V.oneCell])
          simp -implicitDefEqProofs (disch := first | exact nbf rfl | exact nbt rfl | (simp only [ne_eq, reduceCtorEq, not_false_eq_true]; done) | omega | (simp -implicitDefEqProofs only [St.n_push, St.n_put, St.n_bump, List.length_set] <;> omega) | fail) only [e3, e4, bs, aCallv, aPtrEq, XOp.kind, AOp.run, AO.eval, put, reduceCtorEq, aInt, Nat.reduceEqDiff, initEnv, V.bool, V.i64, resultsOf, AR.get, aExtract, aUn, Int.reduceEq, Int.reduceBEq, Int.reduceBNe, aBox, aLoad, aStore, aPart, aPlace, aArrAddr, aArrIdx, aIdx, aLenStr, aConv, aFold, aMinMax, aEqV, aNilCheck, fillV, aEqBool, aEqInt, aEqStr, Nat.reduceAdd, Nat.reduceLeDiff, Nat.reduceMul, Int.reduceLT, Int.reduceLE, Int.reduceToNat, Int.reduceGT, Int.reduceGE, Int.reduceNeg, Int.reduceAdd, Int.reduceSub, wrap64, chkAdd, effAdd, AOp.kind, chkAll, chkSee, Nat.reduceLT, zP.down, zQ.down]
          repeat (first | refine w_fin ?_ | refine w_seq ?_ | refine w_block ?_ | refine w_reg ?_ | refine w_op ?_ | refine w_dop ?_)
          refine (hcra σ7 d _ _ _ 1 hd7 hrv (i + 1) hM7 (by omega)).mono ?_
          rintro ⟨_, σ8⟩ ⟨rfl, hd8, k8⟩
          dsimp only at k8
          have hc8 := (hc6.kept k7 hcd).kept k8 hcd
          have hv8 := (hv6.kept k7 hvd).kept k8 hvd
          simp -implicitDefEqProofs (disch := first | exact nbf rfl | exact nbt rfl | (simp only [ne_eq, reduceCtorEq, not_false_eq_true]; done) | omega | (simp -implicitDefEqProofs only [St.n_push, St.n_put, St.n_bump, List.length_set] <;> omega) | fail) only [e3, e4, aCallv, aPtrEq, XOp.kind, AOp.run, AO.eval, put, reduceCtorEq, aInt, Nat.reduceEqDiff, initEnv, V.bool, V.i64, resultsOf, AR.get, aExtract, aUn, Int.reduceEq, Int.reduceBEq, Int.reduceBNe, aBox, aLoad, aStore, aPart, aPlace, aArrAddr, aArrIdx, aIdx, aLenStr, aConv, aFold, aMinMax, aEqV, aNilCheck, fillV, aEqBool, aEqInt, aEqStr, Nat.reduceAdd, Nat.reduceLeDiff, Nat.reduceMul, Int.reduceLT, Int.reduceLE, Int.reduceToNat, Int.reduceGT, Int.reduceGE, Int.reduceNeg, Int.reduceAdd, Int.reduceSub, wrap64, chkAdd, effAdd, AOp.kind, chkAll, chkSee, Nat.reduceLT, zP.down, zQ.down]
          repeat (first | refine w_fin ?_ | refine w_seq ?_ | refine w_block ?_ | refine w_reg ?_ | refine w_op ?_ | refine w_dop ?_)
          refine (halike σ8 c v M hc8 hv8 i hM (by omega)).mono ?_
          rintro ⟨_, σ9⟩ ⟨rfl, k9⟩
          dsimp only at k9
          simp -implicitDefEqProofs (disch := first | exact nbf rfl | exact nbt rfl | (simp only [ne_eq, reduceCtorEq, not_false_eq_true]; done) | omega | (simp -implicitDefEqProofs only [St.n_push, St.n_put, St.n_bump, List.length_set] <;> omega) | fail) only [e3, e4, e15, e16, e17, w1, aCallv, aPtrEq, XOp.kind, AOp.run, AO.eval, put, reduceCtorEq, aInt, Nat.reduceEqDiff, initEnv, V.bool, V.i64, resultsOf, AR.get, aExtract, aUn, Int.reduceEq, Int.reduceBEq, Int.reduceBNe, aBox, aLoad, aStore, aPart, aPlace, aArrAddr, aArrIdx, aIdx, aLenStr, aConv, aFold, aMinMax, aEqV, aNilCheck, fillV, aEqBool, aEqInt, aEqStr, Nat.reduceAdd, Nat.reduceLeDiff, Nat.reduceMul, Int.reduceLT, Int.reduceLE, Int.reduceToNat, Int.reduceGT, Int.reduceGE, Int.reduceNeg, Int.reduceAdd, Int.reduceSub, wrap64, chkAdd, effAdd, AOp.kind, chkAll, chkSee, Nat.reduceLT, zP.down, zQ.down]
          exact ⟨l.length - (i + 1), by omega, i + 1, c, v, M, rfl, hl, hM.more (by omega), hc8.kept k9 (fun h => h), hv8.kept k9 (fun h => h), hcv, rfl, rfl, by simp⟩
        · have c6 := beq_eq_false_iff_ne.2 q6
          have f2 := hdoes σ.bump d w M p hdb hrb hne i hM (by omega) hok hsl q6
          simp only [stc] at f2
          simp -implicitDefEqProofs (disch := first | exact nbf rfl | exact nbt rfl | (simp only [ne_eq, reduceCtorEq, not_false_eq_true]; done) | omega | (simp -implicitDefEqProofs only [St.n_push, St.n_put, St.n_bump, List.length_set] <;> omega) | fail) only [c1, e3, e4, e15, e16, e17, a1, a2, a3, hsize, hcell.1, hcell.2, c6, aCallv, aPtrEq, XOp.kind, AOp.run, AO.eval, put, reduceCtorEq, aInt, Nat.reduceEqDiff, initEnv, V.bool, V.i64, resultsOf, AR.get, aExtract, aUn, Int.reduceEq, Int.reduceBEq, Int.reduceBNe, aBox, aLoad, aStore, aPart, aPlace, aArrAddr, aArrIdx, aIdx, aLenStr, aConv, aFold, aMinMax, aEqV, aNilCheck, fillV, aEqBool, aEqInt, aEqStr, Nat.reduceAdd, Nat.reduceLeDiff, Nat.reduceMul, Int.reduceLT, Int.reduceLE, Int.reduceToNat, Int.reduceGT, Int.reduceGE, Int.reduceNeg, Int.reduceAdd, Int.reduceSub, wrap64, chkAdd, effAdd, AOp.kind, chkAll, chkSee, Nat.reduceLT, zP.down, zQ.down]
          repeat (first | refine w_fin ?_ | refine w_seq ?_ | refine w_block ?_ | refine w_reg ?_ | refine w_op ?_ | refine w_dop ?_)
          refine f2.mono ?_
          rintro ⟨_, σ5⟩ ⟨rfl, hd5, hr5, k5⟩
          dsimp only at hd5 hr5 k5
          simp -implicitDefEqProofs (disch := first | exact nbf rfl | exact nbt rfl | (simp only [ne_eq, reduceCtorEq, not_false_eq_true]; done) | omega | (simp -implicitDefEqProofs only [St.n_push, St.n_put, St.n_bump, List.length_set] <;> omega) | fail) only [e3, e4, aCallv, aPtrEq, XOp.kind, AOp.run, AO.eval, put, reduceCtorEq, aInt, Nat.reduceEqDiff, initEnv, V.bool, V.i64, resultsOf, AR.get, aExtract, aUn, Int.reduceEq, Int.reduceBEq, Int.reduceBNe, aBox, aLoad, aStore, aPart, aPlace, aArrAddr, aArrIdx, aIdx, aLenStr, aConv, aFold, aMinMax, aEqV, aNilCheck, fillV, aEqBool, aEqInt, aEqStr, Nat.reduceAdd, Nat.reduceLeDiff, Nat.reduceMul, Int.reduceLT, Int.reduceLE, Int.reduceToNat, Int.reduceGT, Int.reduceGE, Int.reduceNeg, Int.reduceAdd, Int.reduceSub, wrap64, chkAdd, effAdd, AOp.kind, chkAll, chkSee, Nat.reduceLT, zP.down, zQ.down]
          repeat (first | refine w_fin ?_ | refine w_seq ?_ | refine w_block ?_ | refine w_reg ?_ | refine w_op ?_ | refine w_dop ?_)
          refine (halike σ5 d w _ hd5 hr5 (i + 1) (hM.play p hok) (by omega)).mono ?_
          rintro ⟨_, σ9⟩ ⟨rfl, k9⟩
          dsimp only at k9
          simp -implicitDefEqProofs (disch := first | exact nbf rfl | exact nbt rfl | (simp only [ne_eq, reduceCtorEq, not_false_eq_true]; done) | omega | (simp -implicitDefEqProofs only [St.n_push, St.n_put, St.n_bump, List.length_set] <;> omega) | fail) only [e3, e4, e15, e16, e17, w1, aCallv, aPtrEq, XOp.kind, AOp.run, AO.eval, put, reduceCtorEq, aInt, Nat.reduceEqDiff, initEnv, V.bool, V.i64, resultsOf, AR.get, aExtract, aUn, Int.reduceEq, Int.reduceBEq, Int.reduceBNe, aBox, aLoad, aStore, aPart, aPlace, aArrAddr, aArrIdx, aIdx, aLenStr, aConv, aFold, aMinMax, aEqV, aNilCheck, fillV, aEqBool, aEqInt, aEqStr, Nat.reduceAdd, Nat.reduceLeDiff, Nat.reduceMul, Int.reduceLT, Int.reduceLE, Int.reduceToNat, Int.reduceGT, Int.reduceGE, Int.reduceNeg, Int.reduceAdd, Int.reduceSub, wrap64, chkAdd, effAdd, AOp.kind, chkAll, chkSee, Nat.reduceLT, zP.down, zQ.down]
          exact ⟨l.length - (i + 1), by omega, i + 1, d, w, M.play p, rfl, hl, hM.play p hok, hd5.kept k9 (fun h => h), hr5.kept k9 (fun h => h), hne, rfl, rfl, by simp⟩
      · have c1 : decide ((i : Int) < (l.length : Int)) = false := by simpa using hl
        simp -implicitDefEqProofs (disch := first | exact nbf rfl | exact nbt rfl | (simp only [ne_eq, reduceCtorEq, not_false_eq_true]; done) | omega | (simp -implicitDefEqProofs only [St.n_push, St.n_put, St.n_bump, List.length_set] <;> omega) | fail) only [c1, e16, e17, aCallv, aPtrEq, XOp.kind, AOp.run, AO.eval, put, reduceCtorEq, aInt, Nat.reduceEqDiff, initEnv, V.bool, V.i64, resultsOf, AR.get, aExtract, aUn, Int.reduceEq, Int.reduceBEq, Int.reduceBNe, aBox, aLoad, aStore, aPart, aPlace, aArrAddr, aArrIdx, aIdx, aLenStr, aConv, aFold, aMinMax, aEqV, aNilCheck, fillV, aEqBool, aEqInt, aEqStr, Nat.reduceAdd, Nat.reduceLeDiff, Nat.reduceMul, Int.reduceLT, Int.reduceLE, Int.reduceToNat, Int.reduceGT, Int.reduceGE, Int.reduceNeg, Int.reduceAdd, Int.reduceSub, wrap64, chkAdd, effAdd, AOp.kind, chkAll, chkSee, Nat.reduceLT, zP.down, zQ.down]
        exact ⟨_, _, rfl⟩
  · rintro _ ⟨ρ, σ, rfl⟩
    simp -implicitDefEqProofs (disch := first | exact nbf rfl | exact nbt rfl | (simp only [ne_eq, reduceCtorEq, not_false_eq_true]; done) | omega | (simp -implicitDefEqProofs only [St.n_push, St.n_put, St.n_bump, List.length_set] <;> omega) | fail) only [aCallv, aPtrEq, XOp.kind, AOp.run, AO.eval, put, reduceCtorEq, aInt, Nat.reduceEqDiff, initEnv, V.bool, V.i64, resultsOf, AR.get, aExtract, aUn, Int.reduceEq, Int.reduceBEq, Int.reduceBNe, aBox, aLoad, aStore, aPart, aPlace, aArrAddr, aArrIdx, aIdx, aLenStr, aConv, aFold, aMinMax, aEqV, aNilCheck, fillV, aEqBool, aEqInt, aEqStr, Nat.reduceAdd, Nat.reduceLeDiff, Nat.reduceMul, Int.reduceLT, Int.reduceLE, Int.reduceToNat, Int.reduceGT, Int.reduceGE, Int.reduceNeg, Int.reduceAdd, Int.reduceSub, wrap64, chkAdd, effAdd, AOp.kind, chkAll, chkSee, Nat.reduceLT, zP.down, zQ.down]
end Go.Proofs.Ytkdfahmlcnbadaa.dk
