/-
  DiskPlays: its run.
-/
import Derived.Test.YtkdfahmlcnbadaaDiskZ
import Derived.Test.YtkdfahmlcnbadaaDiskW
namespace Go.Proofs.Ytkdfahmlcnbadaa.dk
open Go.Ab
set_option maxRecDepth 100000
set_option maxHeartbeats 8000000
set_option linter.unusedSimpArgs false
set_option linter.unusedVariables false

theorem bneq (u : List UInt8) : aBin .neq (.str u) (.str u) = some (.sc (.bool false)) := by simp [aBin, aStr]

theorem alike_ok' (k : Nat) (ys : YlF) (σ : St) (d w : Nat) (M : DM) (hd : DR σ d M) (hr : RR σ w M) {B : Nat} (hm : M.Ok B) (hB : B ≤ 999000) (hk : 2000000 ≤ k) :
    W (callY Tab.tb (k + 5) ys 26 [.ptr d 0, .ptr w 0] σ) fun r => r.1 = .sc (.bool true) ∧ Kept noX σ r.2 := by
  rw [s_call (af := Tab.b26) rfl (Nat.le_of_ble_eq_true rfl)]
  have hread := fun σ f h => read_ok (k + 2) ys σ d M f h
  have hrread := fun σ f h => rread_ok k ys σ w M f h hm (by omega) hk
  have hsee := fun σ f h => rsee_ok (k + 1) ys σ w M f h hm (by omega) (by omega)
  have hsure := fun σ f h => sure_ok (k + 2) ys σ d M f h
  have hloose := fun σ f h => loose_ok (k + 2) ys σ d M f h
  have hfiles := fun σ h => files_ok (k + 2) ys σ d M h (by omega)
  have hieq := fun σ a b ks ha hb h1 h2 => equal_ok (k + 3) ys σ a b ks ha hb h1 h2
  have hon := fun σ h => on_ok (k + 3) ys σ d M h
  have hops := fun σ h => ops_ok (k + 3) ys σ d M h
  generalize callY Tab.tb (k + 4) = cy at hread hrread hsee hsure hloose hfiles hieq hon hops ⊢
  have bs : ∀ x, aBslice 1 1 [.sc (.int .i64 0)] [(0, 1, .sc (.int .i64 x))] = some (.vs .exact 1 1 [.sc (.int .i64 x)]) := fun _ => rfl
  simp -implicitDefEqProofs (disch := first | exact nbf rfl | exact nbt rfl | (simp only [ne_eq, reduceCtorEq, not_false_eq_true]; done) | omega | (simp -implicitDefEqProofs only [St.n_push, St.n_put, St.n_bump, List.length_set] <;> omega) | fail) only [Tab.b26, aCallv, aPtrEq, XOp.kind, AOp.run, AO.eval, put, reduceCtorEq, aInt, Nat.reduceEqDiff, initEnv, V.bool, V.i64, resultsOf, AR.get, aExtract, aUn, Int.reduceEq, Int.reduceBEq, Int.reduceBNe, aBox, aLoad, aStore, aPart, aPlace, aArrAddr, aArrIdx, aIdx, aLenStr, aConv, aFold, aMinMax, aEqV, aNilCheck, fillV, aEqBool, aEqInt, aEqStr, Nat.reduceAdd, Nat.reduceLeDiff, Nat.reduceMul, Int.reduceLT, Int.reduceLE, Int.reduceToNat, Int.reduceGT, Int.reduceGE, Int.reduceNeg, Int.reduceAdd, Int.reduceSub, wrap64, chkAdd, effAdd, AOp.kind, chkAll, chkSee, Nat.reduceLT, zP.down, zQ.down]
  repeat (first | refine w_fin ?_ | refine w_seq ?_ | refine w_block ?_ | refine w_reg ?_ | refine w_op ?_ | refine w_dop ?_)
  refine W.mono (Q := fun r => ∃ (ρ : Env) (σ' : St) (v : V), r = ((.exit 0 : Ex), ρ, σ') ∧ ρ 0 = .ptr d 0 ∧ ρ 1 = .ptr w 0 ∧ ρ 5 = v ∧ RV 1 v ((filesTo M 32).map ic) ∧ Kept noX σ σ') ?_ ?_
  · refine w_loop (fun m ρ σ' => ∃ (i : Nat) (v : V), m = 34 - i ∧ i ≤ 34 ∧ ρ 0 = .ptr d 0 ∧ ρ 1 = .ptr w 0 ∧ ρ 5 = v ∧ ρ 6 = .sc (.int .i64 ((i : Int) - 1)) ∧ Ow σ.n σ' 1 v ((filesTo M (min 32 (i - 1))).map ic) ∧ Kept noX σ σ') 34 (by omega) ?_ ?_
    · refine ⟨0, .sc .nilS, rfl, by omega, ?_, ?_, ?_, ?_, by simpa [filesTo] using Ow.nil, Kept.refl _ _⟩
      all_goals first | rfl | (simp -implicitDefEqProofs (disch := first | exact nbf rfl | exact nbt rfl | (simp only [ne_eq, reduceCtorEq, not_false_eq_true]; done) | omega | (simp -implicitDefEqProofs only [St.n_push, St.n_put, St.n_bump, List.length_set] <;> omega) | fail) only [aCallv, aPtrEq, XOp.kind, AOp.run, AO.eval, put, reduceCtorEq, aInt, Nat.reduceEqDiff, initEnv, V.bool, V.i64, resultsOf, AR.get, aExtract, aUn, Int.reduceEq, Int.reduceBEq, Int.reduceBNe, aBox, aLoad, aStore, aPart, aPlace, aArrAddr, aArrIdx, aIdx, aLenStr, aConv, aFold, aMinMax, aEqV, aNilCheck, fillV, aEqBool, aEqInt, aEqStr, Nat.reduceAdd, Nat.reduceLeDiff, Nat.reduceMul, Int.reduceLT, Int.reduceLE, Int.reduceToNat, Int.reduceGT, Int.reduceGE, Int.reduceNeg, Int.reduceAdd, Int.reduceSub, wrap64, chkAdd, effAdd, AOp.kind, chkAll, chkSee, Nat.reduceLT, zP.down, zQ.down]; done) | (simp -implicitDefEqProofs (disch := first | exact nbf rfl | exact nbt rfl | (simp only [ne_eq, reduceCtorEq, not_false_eq_true]; done) | omega | (simp -implicitDefEqProofs only [St.n_push, St.n_put, St.n_bump, List.length_set] <;> omega) | fail) only [aCallv, aPtrEq, XOp.kind, AOp.run, AO.eval, put, reduceCtorEq, aInt, Nat.reduceEqDiff, initEnv, V.bool, V.i64, resultsOf, AR.get, aExtract, aUn, Int.reduceEq, Int.reduceBEq, Int.reduceBNe, aBox, aLoad, aStore, aPart, aPlace, aArrAddr, aArrIdx, aIdx, aLenStr, aConv, aFold, aMinMax, aEqV, aNilCheck, fillV, aEqBool, aEqInt, aEqStr, Nat.reduceAdd, Nat.reduceLeDiff, Nat.reduceMul, Int.reduceLT, Int.reduceLE, Int.reduceToNat, Int.reduceGT, Int.reduceGE, Int.reduceNeg, Int.reduceAdd, Int.reduceSub, wrap64, chkAdd, effAdd, AOp.kind, chkAll, chkSee, Nat.reduceLT, zP.down, zQ.down]; rfl)
    · rintro m ρ σ' ⟨i, v, hm', hi, e0, e1, e5, e6, how, hk'⟩
      by_cases hl : i < 34
      · have c1 : decide ((i : Int) - 1 ≤ 32) = true := by simp; omega
        have w1 : IntKind.i64.wrap ((i : Int) - 1 + 1) = ((i + 1 : Nat) : Int) - 1 := by rw [wrap64 (by omega) (by omega)]; omega
        have hd1 := hd.kept hk' (fun h => h)
        have r1 := hread σ' ((i : Int) - 1) hd1
        have hr2 : RR σ'.bump.bump w M := hr.kept hk'.bump.bump (fun h => h)
        have z1 : ((M.read ((i : Int) - 1)).2 != (M.read ((i : Int) - 1)).2) = false := by simp
        simp -implicitDefEqProofs (disch := first | exact nbf rfl | exact nbt rfl | (simp only [ne_eq, reduceCtorEq, not_false_eq_true]; done) | omega | (simp -implicitDefEqProofs only [St.n_push, St.n_put, St.n_bump, List.length_set] <;> omega) | fail) only [c1, e0, e1, e5, e6, r1, aCallv, aPtrEq, XOp.kind, AOp.run, AO.eval, put, reduceCtorEq, aInt, Nat.reduceEqDiff, initEnv, V.bool, V.i64, resultsOf, AR.get, aExtract, aUn, Int.reduceEq, Int.reduceBEq, Int.reduceBNe, aBox, aLoad, aStore, aPart, aPlace, aArrAddr, aArrIdx, aIdx, aLenStr, aConv, aFold, aMinMax, aEqV, aNilCheck, fillV, aEqBool, aEqInt, aEqStr, Nat.reduceAdd, Nat.reduceLeDiff, Nat.reduceMul, Int.reduceLT, Int.reduceLE, Int.reduceToNat, Int.reduceGT, Int.reduceGE, Int.reduceNeg, Int.reduceAdd, Int.reduceSub, wrap64, chkAdd, effAdd, AOp.kind, chkAll, chkSee, Nat.reduceLT, zP.down, zQ.down]
        repeat (first | refine w_fin ?_ | refine w_seq ?_ | refine w_block ?_ | refine w_reg ?_ | refine w_op ?_ | refine w_dop ?_)
        refine (hrread σ'.bump.bump ((i : Int) - 1) hr2).mono ?_
        rintro ⟨_, σ2⟩ ⟨rfl, k2⟩
        dsimp only at k2
        have kk2 := hk'.bump.bump.trans k2
        have how2 := how.kept0 ((Kept.refl noX σ').bump.bump.trans k2)
        by_cases q0 : (i : Int) - 1 < 0
        · have c2 : decide ((i : Int) - 1 < 0) = true := by simpa using q0
          simp -implicitDefEqProofs (disch := first | exact nbf rfl | exact nbt rfl | (simp only [ne_eq, reduceCtorEq, not_false_eq_true]; done) | omega | (simp -implicitDefEqProofs only [St.n_push, St.n_put, St.n_bump, List.length_set] <;> omega) | fail) only [e0, e1, e5, e6, bneq, z1, c2, w1, aCallv, aPtrEq, XOp.kind, AOp.run, AO.eval, put, reduceCtorEq, aInt, Nat.reduceEqDiff, initEnv, V.bool, V.i64, resultsOf, AR.get, aExtract, aUn, Int.reduceEq, Int.reduceBEq, Int.reduceBNe, aBox, aLoad, aStore, aPart, aPlace, aArrAddr, aArrIdx, aIdx, aLenStr, aConv, aFold, aMinMax, aEqV, aNilCheck, fillV, aEqBool, aEqInt, aEqStr, Nat.reduceAdd, Nat.reduceLeDiff, Nat.reduceMul, Int.reduceLT, Int.reduceLE, Int.reduceToNat, Int.reduceGT, Int.reduceGE, Int.reduceNeg, Int.reduceAdd, Int.reduceSub, wrap64, chkAdd, effAdd, AOp.kind, chkAll, chkSee, Nat.reduceLT, zP.down, zQ.down]
          refine ⟨34 - (i + 1), by omega, i + 1, v, rfl, by omega, rfl, rfl, ?_, kk2⟩
          rw [show min 32 (i + 1 - 1) = min 32 (i - 1) by omega]
          exact how2
        have c2 : decide ((i : Int) - 1 < 0) = false := by simpa using q0
        by_cases q1 : (i : Int) - 1 = 32
        · have c3 := beq_iff_eq.2 q1
          simp -implicitDefEqProofs (disch := first | exact nbf rfl | exact nbt rfl | (simp only [ne_eq, reduceCtorEq, not_false_eq_true]; done) | omega | (simp -implicitDefEqProofs only [St.n_push, St.n_put, St.n_bump, List.length_set] <;> omega) | fail) only [e0, e1, e5, e6, bneq, z1, c2, c3, w1, aCallv, aPtrEq, XOp.kind, AOp.run, AO.eval, put, reduceCtorEq, aInt, Nat.reduceEqDiff, initEnv, V.bool, V.i64, resultsOf, AR.get, aExtract, aUn, Int.reduceEq, Int.reduceBEq, Int.reduceBNe, aBox, aLoad, aStore, aPart, aPlace, aArrAddr, aArrIdx, aIdx, aLenStr, aConv, aFold, aMinMax, aEqV, aNilCheck, fillV, aEqBool, aEqInt, aEqStr, Nat.reduceAdd, Nat.reduceLeDiff, Nat.reduceMul, Int.reduceLT, Int.reduceLE, Int.reduceToNat, Int.reduceGT, Int.reduceGE, Int.reduceNeg, Int.reduceAdd, Int.reduceSub, wrap64, chkAdd, effAdd, AOp.kind, chkAll, chkSee, Nat.reduceLT, zP.down, zQ.down]
          refine ⟨34 - (i + 1), by omega, i + 1, v, rfl, by omega, rfl, rfl, ?_, kk2⟩
          rw [show min 32 (i + 1 - 1) = min 32 (i - 1) by omega]
          exact how2
        have c3 := beq_eq_false_iff_ne.2 q1
        obtain ⟨f, hf⟩ : ∃ f : Nat, (i : Int) - 1 = f := ⟨((i : Int) - 1).toNat, by omega⟩
        have hf32 : f < 32 := by omega
        have hif : i = f + 1 := by omega
        rw [hf] at c2 c3 w1 z1 e6
        try rw [hf]
        have hr3 : RR σ2 w M := hr.kept kk2 (fun h => h)
        simp -implicitDefEqProofs (disch := first | exact nbf rfl | exact nbt rfl | (simp only [ne_eq, reduceCtorEq, not_false_eq_true]; done) | omega | (simp -implicitDefEqProofs only [St.n_push, St.n_put, St.n_bump, List.length_set] <;> omega) | fail) only [e0, e1, e5, e6, bneq, z1, c2, c3, aCallv, aPtrEq, XOp.kind, AOp.run, AO.eval, put, reduceCtorEq, aInt, Nat.reduceEqDiff, initEnv, V.bool, V.i64, resultsOf, AR.get, aExtract, aUn, Int.reduceEq, Int.reduceBEq, Int.reduceBNe, aBox, aLoad, aStore, aPart, aPlace, aArrAddr, aArrIdx, aIdx, aLenStr, aConv, aFold, aMinMax, aEqV, aNilCheck, fillV, aEqBool, aEqInt, aEqStr, Nat.reduceAdd, Nat.reduceLeDiff, Nat.reduceMul, Int.reduceLT, Int.reduceLE, Int.reduceToNat, Int.reduceGT, Int.reduceGE, Int.reduceNeg, Int.reduceAdd, Int.reduceSub, wrap64, chkAdd, effAdd, AOp.kind, chkAll, chkSee, Nat.reduceLT, zP.down, zQ.down]
        repeat (first | refine w_fin ?_ | refine w_seq ?_ | refine w_block ?_ | refine w_reg ?_ | refine w_op ?_ | refine w_dop ?_)
        refine (hsee σ2 f hr3).mono ?_
        rintro ⟨_, σ3⟩ ⟨rfl, k3⟩
        dsimp only at k3
        have kk3 := kk2.trans k3
        have how3 := how2.kept0 k3
        have hse : M.see (f : Int) = (M.f f).seen := by rw [see_in (by omega) (by omega), Int.toNat_natCast]
        have hfl : M.file (f : Int) = M.f f := file_in M hf32
        -- the rest, whatever the list
        have hsu := filesTo_succ M f
        have hlen := filesTo_len M f
        have hmin : min 32 (i - 1) = f := by omega
        have hmin2 : min 32 (i + 1 - 1) = f + 1 := by omega
        rw [hmin] at how3
        have ha := arr_ok (o := w) (off := 0) (len := 32) (sz := 3) hf32
        cases ht : (M.f f).seen.there with
        | false =>
          rw [ht, if_neg (by simp)] at hsu
          obtain ⟨cs, g, hc⟩ := hr.kept kk3 (fun h => h)
          obtain ⟨u, hu⟩ := hc.f f hf32
          have u0 := hu.c0
          have u1 := hu.c1
          have u2 := hu.c2
          have ulen := hu.rv.len
          rw [List.length_map] at ulen
          have s1 := hsure σ3 f (hd.kept kk3 (fun h => h))
          have s2 := hloose σ3.bump.bump f (hd.kept kk3.bump.bump (fun h => h))
          rw [hfl] at s1 s2
          have z2 : (((M.f f).loose.length : Int) != ((M.f f).loose.length : Int)) = false := by simp
          cases htt : (M.f f).sure.there with
          | false =>
            rw [htt] at s1 u0
            simp -implicitDefEqProofs (disch := first | exact nbf rfl | exact nbt rfl | (simp only [ne_eq, reduceCtorEq, not_false_eq_true]; done) | omega | (simp -implicitDefEqProofs only [St.n_push, St.n_put, St.n_bump, List.length_set] <;> omega) | fail) only [s2c, hse, ht, e0, e1, e5, e6, s1, s2, g, ha, u0, u1, u2, ulen, z2, bneq, w1, aCallv, aPtrEq, XOp.kind, AOp.run, AO.eval, put, reduceCtorEq, aInt, Nat.reduceEqDiff, initEnv, V.bool, V.i64, resultsOf, AR.get, aExtract, aUn, Int.reduceEq, Int.reduceBEq, Int.reduceBNe, aBox, aLoad, aStore, aPart, aPlace, aArrIdx, aIdx, aLenStr, aConv, aFold, aMinMax, aEqV, aNilCheck, fillV, aEqBool, aEqInt, aEqStr, Nat.reduceAdd, Nat.reduceLeDiff, Nat.reduceMul, Int.reduceLT, Int.reduceLE, Int.reduceToNat, Int.reduceGT, Int.reduceGE, Int.reduceNeg, Int.reduceAdd, Int.reduceSub, wrap64, chkAdd, effAdd, AOp.kind, chkAll, chkSee, Nat.reduceLT, zP.down, zQ.down]
            exact ⟨34 - (i + 1), by omega, i + 1, v, rfl, by omega, rfl, rfl, by rw [hmin2, hsu]; exact how3.kept0 (Kept.refl _ _).bump.bump.bump.bump, kk3.bump.bump.bump.bump⟩
          | true =>
            rw [htt] at s1 u0
            simp -implicitDefEqProofs (disch := first | exact nbf rfl | exact nbt rfl | (simp only [ne_eq, reduceCtorEq, not_false_eq_true]; done) | omega | (simp -implicitDefEqProofs only [St.n_push, St.n_put, St.n_bump, List.length_set] <;> omega) | fail) only [s2c, hse, ht, e0, e1, e5, e6, s1, s2, g, ha, u0, u1, u2, ulen, z2, bneq, w1, aCallv, aPtrEq, XOp.kind, AOp.run, AO.eval, put, reduceCtorEq, aInt, Nat.reduceEqDiff, initEnv, V.bool, V.i64, resultsOf, AR.get, aExtract, aUn, Int.reduceEq, Int.reduceBEq, Int.reduceBNe, aBox, aLoad, aStore, aPart, aPlace, aArrIdx, aIdx, aLenStr, aConv, aFold, aMinMax, aEqV, aNilCheck, fillV, aEqBool, aEqInt, aEqStr, Nat.reduceAdd, Nat.reduceLeDiff, Nat.reduceMul, Int.reduceLT, Int.reduceLE, Int.reduceToNat, Int.reduceGT, Int.reduceGE, Int.reduceNeg, Int.reduceAdd, Int.reduceSub, wrap64, chkAdd, effAdd, AOp.kind, chkAll, chkSee, Nat.reduceLT, zP.down, zQ.down]
            exact ⟨34 - (i + 1), by omega, i + 1, v, rfl, by omega, rfl, rfl, by rw [hmin2, hsu]; exact how3.kept0 (Kept.refl _ _).bump.bump.bump.bump, kk3.bump.bump.bump.bump⟩
        | true =>
          rw [ht, if_pos rfl] at hsu
          simp -implicitDefEqProofs (disch := first | exact nbf rfl | exact nbt rfl | (simp only [ne_eq, reduceCtorEq, not_false_eq_true]; done) | omega | (simp -implicitDefEqProofs only [St.n_push, St.n_put, St.n_bump, List.length_set] <;> omega) | fail) only [s2c, hse, ht, e0, e1, e5, e6, bs, aCallv, aPtrEq, XOp.kind, AOp.run, AO.eval, put, reduceCtorEq, aInt, Nat.reduceEqDiff, initEnv, V.bool, V.i64, resultsOf, AR.get, aExtract, aUn, Int.reduceEq, Int.reduceBEq, Int.reduceBNe, aBox, aLoad, aStore, aPart, aPlace, aArrAddr, aArrIdx, aIdx, aLenStr, aConv, aFold, aMinMax, aEqV, aNilCheck, fillV, aEqBool, aEqInt, aEqStr, Nat.reduceAdd, Nat.reduceLeDiff, Nat.reduceMul, Int.reduceLT, Int.reduceLE, Int.reduceToNat, Int.reduceGT, Int.reduceGE, Int.reduceNeg, Int.reduceAdd, Int.reduceSub, wrap64, chkAdd, effAdd, AOp.kind, chkAll, chkSee, Nat.reduceLT, zP.down, zQ.down]
          repeat (first | refine w_fin ?_ | refine w_seq ?_ | refine w_block ?_ | refine w_reg ?_ | refine w_op ?_ | refine w_dop ?_)
          have hrv : RV 1 (.vs .exact 1 1 [.sc (.int .i64 (f : Int))]) [ic f] := RV.vs (own := .exact) (es := [ic f]) (by simp [ic]) (by simp [ic, V.oneCell])
          refine (grow_ok how3 hrv kk3.n (by unfold roomB; simp; omega) (by unfold roomB; simp; omega)).mono ?_
          rintro ⟨v', σ4⟩ ⟨h1, h2⟩
          dsimp only at h1 h2
          have kk4 := h2.kept kk3 (Nat.le_refl _)
          obtain ⟨cs, g, hc⟩ := hr.kept kk4 (fun h => h)
          obtain ⟨u, hu⟩ := hc.f f hf32
          have u0 := hu.c0
          have u1 := hu.c1
          have u2 := hu.c2
          have ulen := hu.rv.len
          rw [List.length_map] at ulen
          have s1 := hsure σ4 f (hd.kept kk4 (fun h => h))
          have s2 := hloose σ4.bump.bump f (hd.kept kk4.bump.bump (fun h => h))
          rw [hfl] at s1 s2
          have z2 : (((M.f f).loose.length : Int) != ((M.f f).loose.length : Int)) = false := by simp
          cases htt : (M.f f).sure.there with
          | false =>
            rw [htt] at s1 u0
            simp -implicitDefEqProofs (disch := first | exact nbf rfl | exact nbt rfl | (simp only [ne_eq, reduceCtorEq, not_false_eq_true]; done) | omega | (simp -implicitDefEqProofs only [St.n_push, St.n_put, St.n_bump, List.length_set] <;> omega) | fail) only [e0, e1, e5, e6, s1, s2, g, ha, u0, u1, u2, ulen, z2, bneq, w1, aCallv, aPtrEq, XOp.kind, AOp.run, AO.eval, put, reduceCtorEq, aInt, Nat.reduceEqDiff, initEnv, V.bool, V.i64, resultsOf, AR.get, aExtract, aUn, Int.reduceEq, Int.reduceBEq, Int.reduceBNe, aBox, aLoad, aStore, aPart, aPlace, aArrIdx, aIdx, aLenStr, aConv, aFold, aMinMax, aEqV, aNilCheck, fillV, aEqBool, aEqInt, aEqStr, Nat.reduceAdd, Nat.reduceLeDiff, Nat.reduceMul, Int.reduceLT, Int.reduceLE, Int.reduceToNat, Int.reduceGT, Int.reduceGE, Int.reduceNeg, Int.reduceAdd, Int.reduceSub, wrap64, chkAdd, effAdd, AOp.kind, chkAll, chkSee, Nat.reduceLT, zP.down, zQ.down]
            exact ⟨34 - (i + 1), by omega, i + 1, v', rfl, by omega, rfl, rfl, by rw [hmin2, hsu, List.map_append]; exact h1.kept0 (Kept.refl _ _).bump.bump.bump.bump, kk4.bump.bump.bump.bump⟩
          | true =>
            rw [htt] at s1 u0
            simp -implicitDefEqProofs (disch := first | exact nbf rfl | exact nbt rfl | (simp only [ne_eq, reduceCtorEq, not_false_eq_true]; done) | omega | (simp -implicitDefEqProofs only [St.n_push, St.n_put, St.n_bump, List.length_set] <;> omega) | fail) only [e0, e1, e5, e6, s1, s2, g, ha, u0, u1, u2, ulen, z2, bneq, w1, aCallv, aPtrEq, XOp.kind, AOp.run, AO.eval, put, reduceCtorEq, aInt, Nat.reduceEqDiff, initEnv, V.bool, V.i64, resultsOf, AR.get, aExtract, aUn, Int.reduceEq, Int.reduceBEq, Int.reduceBNe, aBox, aLoad, aStore, aPart, aPlace, aArrIdx, aIdx, aLenStr, aConv, aFold, aMinMax, aEqV, aNilCheck, fillV, aEqBool, aEqInt, aEqStr, Nat.reduceAdd, Nat.reduceLeDiff, Nat.reduceMul, Int.reduceLT, Int.reduceLE, Int.reduceToNat, Int.reduceGT, Int.reduceGE, Int.reduceNeg, Int.reduceAdd, Int.reduceSub, wrap64, chkAdd, effAdd, AOp.kind, chkAll, chkSee, Nat.reduceLT, zP.down, zQ.down]
            exact ⟨34 - (i + 1), by omega, i + 1, v', rfl, by omega, rfl, rfl, by rw [hmin2, hsu, List.map_append]; exact h1.kept0 (Kept.refl _ _).bump.bump.bump.bump, kk4.bump.bump.bump.bump⟩
      · have c1 : decide ((i : Int) - 1 ≤ 32) = false := by simp; omega
        have : i = 34 := by omega
        subst this
        simp -implicitDefEqProofs (disch := first | exact nbf rfl | exact nbt rfl | (simp only [ne_eq, reduceCtorEq, not_false_eq_true]; done) | omega | (simp -implicitDefEqProofs only [St.n_push, St.n_put, St.n_bump, List.length_set] <;> omega) | fail) only [c1, e6, aCallv, aPtrEq, XOp.kind, AOp.run, AO.eval, put, reduceCtorEq, aInt, Nat.reduceEqDiff, initEnv, V.bool, V.i64, resultsOf, AR.get, aExtract, aUn, Int.reduceEq, Int.reduceBEq, Int.reduceBNe, aBox, aLoad, aStore, aPart, aPlace, aArrAddr, aArrIdx, aIdx, aLenStr, aConv, aFold, aMinMax, aEqV, aNilCheck, fillV, aEqBool, aEqInt, aEqStr, Nat.reduceAdd, Nat.reduceLeDiff, Nat.reduceMul, Int.reduceLT, Int.reduceLE, Int.reduceToNat, Int.reduceGT, Int.reduceGE, Int.reduceNeg, Int.reduceAdd, Int.reduceSub, wrap64, chkAdd, effAdd, AOp.kind, chkAll, chkSee, Nat.reduceLT, zP.down, zQ.down]
        refine ⟨_, _, v, rfl, ?_, ?_, ?_, how.rv, hk'⟩
        all_goals (simp -implicitDefEqProofs (disch := first | exact nbf rfl | exact nbt rfl | (simp only [ne_eq, reduceCtorEq, not_false_eq_true]; done) | omega | (simp -implicitDefEqProofs only [St.n_push, St.n_put, St.n_bump, List.length_set] <;> omega) | fail) only [e0, e1, e5, aCallv, aPtrEq, XOp.kind, AOp.run, AO.eval, put, reduceCtorEq, aInt, Nat.reduceEqDiff, initEnv, V.bool, V.i64, resultsOf, AR.get, aExtract, aUn, Int.reduceEq, Int.reduceBEq, Int.reduceBNe, aBox, aLoad, aStore, aPart, aPlace, aArrAddr, aArrIdx, aIdx, aLenStr, aConv, aFold, aMinMax, aEqV, aNilCheck, fillV, aEqBool, aEqInt, aEqStr, Nat.reduceAdd, Nat.reduceLeDiff, Nat.reduceMul, Int.reduceLT, Int.reduceLE, Int.reduceToNat, Int.reduceGT, Int.reduceGE, Int.reduceNeg, Int.reduceAdd, Int.reduceSub, wrap64, chkAdd, effAdd, AOp.kind, chkAll, chkSee, Nat.reduceLT, zP.down, zQ.down]; done)
  · rintro _ ⟨ρ, σ', v, rfl, e0, e1, e5, hrv, hk'⟩
    simp -implicitDefEqProofs (disch := first | exact nbf rfl | exact nbt rfl | (simp only [ne_eq, reduceCtorEq, not_false_eq_true]; done) | omega | (simp -implicitDefEqProofs only [St.n_push, St.n_put, St.n_bump, List.length_set] <;> omega) | fail) only [e0, e1, e5, aCallv, aPtrEq, XOp.kind, AOp.run, AO.eval, put, reduceCtorEq, aInt, Nat.reduceEqDiff, initEnv, V.bool, V.i64, resultsOf, AR.get, aExtract, aUn, Int.reduceEq, Int.reduceBEq, Int.reduceBNe, aBox, aLoad, aStore, aPart, aPlace, aArrAddr, aArrIdx, aIdx, aLenStr, aConv, aFold, aMinMax, aEqV, aNilCheck, fillV, aEqBool, aEqInt, aEqStr, Nat.reduceAdd, Nat.reduceLeDiff, Nat.reduceMul, Int.reduceLT, Int.reduceLE, Int.reduceToNat, Int.reduceGT, Int.reduceGE, Int.reduceNeg, Int.reduceAdd, Int.reduceSub, wrap64, chkAdd, effAdd, AOp.kind, chkAll, chkSee, Nat.reduceLT, zP.down, zQ.down]
    repeat (first | refine w_fin ?_ | refine w_seq ?_ | refine w_block ?_ | refine w_reg ?_ | refine w_op ?_ | refine w_dop ?_)
    refine (hfiles σ' (hd.kept hk' (fun h => h))).mono ?_
    rintro ⟨u, σ2⟩ ⟨h1, k2⟩
    dsimp only at h1 k2
    have kk := hk'.trans k2
    obtain ⟨cs, g, hc⟩ := hr.kept kk (fun h => h)
    have hp := hc.p
    have ho := hc.o
    have hl := filesTo_len M 32
    have he := hieq σ2 u v (filesTo M 32) h1 hrv (by omega) (by omega)
    have ho1 := hon σ2 (hd.kept kk (fun h => h))
    have ho2 := hops σ2 (hd.kept kk (fun h => h))
    have z1 : (M.ops == M.ops) = true := by simp
    cases hpw : (M.power != 0) with
    | true =>
      rw [hpw] at ho1
      simp -implicitDefEqProofs (disch := first | exact nbf rfl | exact nbt rfl | (simp only [ne_eq, reduceCtorEq, not_false_eq_true]; done) | omega | (simp -implicitDefEqProofs only [St.n_push, St.n_put, St.n_bump, List.length_set] <;> omega) | fail) only [e0, e1, e5, he, ho1, ho2, g, hp, ho, hpw, z1, aCallv, aPtrEq, XOp.kind, AOp.run, AO.eval, put, reduceCtorEq, aInt, Nat.reduceEqDiff, initEnv, V.bool, V.i64, resultsOf, AR.get, aExtract, aUn, Int.reduceEq, Int.reduceBEq, Int.reduceBNe, aBox, aLoad, aStore, aPart, aPlace, aArrAddr, aArrIdx, aIdx, aLenStr, aConv, aFold, aMinMax, aEqV, aNilCheck, fillV, aEqBool, aEqInt, aEqStr, Nat.reduceAdd, Nat.reduceLeDiff, Nat.reduceMul, Int.reduceLT, Int.reduceLE, Int.reduceToNat, Int.reduceGT, Int.reduceGE, Int.reduceNeg, Int.reduceAdd, Int.reduceSub, wrap64, chkAdd, effAdd, AOp.kind, chkAll, chkSee, Nat.reduceLT, zP.down, zQ.down]
      exact kk
    | false =>
      rw [hpw] at ho1
      simp -implicitDefEqProofs (disch := first | exact nbf rfl | exact nbt rfl | (simp only [ne_eq, reduceCtorEq, not_false_eq_true]; done) | omega | (simp -implicitDefEqProofs only [St.n_push, St.n_put, St.n_bump, List.length_set] <;> omega) | fail) only [e0, e1, e5, he, ho1, ho2, g, hp, ho, hpw, z1, aCallv, aPtrEq, XOp.kind, AOp.run, AO.eval, put, reduceCtorEq, aInt, Nat.reduceEqDiff, initEnv, V.bool, V.i64, resultsOf, AR.get, aExtract, aUn, Int.reduceEq, Int.reduceBEq, Int.reduceBNe, aBox, aLoad, aStore, aPart, aPlace, aArrAddr, aArrIdx, aIdx, aLenStr, aConv, aFold, aMinMax, aEqV, aNilCheck, fillV, aEqBool, aEqInt, aEqStr, Nat.reduceAdd, Nat.reduceLeDiff, Nat.reduceMul, Int.reduceLT, Int.reduceLE, Int.reduceToNat, Int.reduceGT, Int.reduceGE, Int.reduceNeg, Int.reduceAdd, Int.reduceSub, wrap64, chkAdd, effAdd, AOp.kind, chkAll, chkSee, Nat.reduceLT, zP.down, zQ.down]
      exact kk
end Go.Proofs.Ytkdfahmlcnbadaa.dk
